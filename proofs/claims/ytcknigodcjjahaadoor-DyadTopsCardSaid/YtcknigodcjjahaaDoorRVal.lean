/-
  Whole numbers as lists of digits of 32 bits, the lowest one first: the plain law (no program in sight; XVal.tpl turned by mkrval.py).
-/
import Derived.Test.YtcknigodcjjahaaDoorGVal
namespace Go.Proofs.YtcknigodcjjahaaDoor
namespace R

/-- The base of the limbs. -/
def BB : Nat := 4294967296
theorem BB_val : BB = 4294967296 := rfl
theorem BB_pos : 0 < BB := by decide
theorem BB_two : 2 ≤ BB := by decide
theorem BB_pow : BB = 2 ^ 32 := by decide
attribute [irreducible] BB
theorem BB_pow_pos (n : Nat) : 0 < BB ^ n := Nat.pow_pos BB_pos

/-- What a list of limbs is worth. -/
def val : List Nat → Nat
  | [] => 0
  | x :: xs => x + BB * val xs
/-- Each is a limb. -/
def Limb (xs : List Nat) : Prop := ∀ x ∈ xs, x < BB

theorem val_append : ∀ xs ys : List Nat, val (xs ++ ys) = val xs + BB ^ xs.length * val ys
  | [], ys => by simp [val]
  | x :: xs, ys => by
    simp only [List.cons_append, val, val_append xs ys, List.length_cons, Nat.pow_succ, Nat.mul_add]
    rw [Nat.mul_comm (BB ^ xs.length) BB, Nat.mul_assoc, Nat.add_assoc]
theorem Limb.append {xs ys : List Nat} (h : Limb xs) (h' : Limb ys) : Limb (xs ++ ys) := fun x hx => by
  rcases List.mem_append.1 hx with h1 | h1
  · exact h x h1
  · exact h' x h1
theorem Limb.left {xs ys : List Nat} (h : Limb (xs ++ ys)) : Limb xs := fun x hx => h x (by simp [hx])
theorem Limb.right {xs ys : List Nat} (h : Limb (xs ++ ys)) : Limb ys := fun x hx => h x (by simp [hx])
theorem Limb.take {xs : List Nat} (h : Limb xs) (n : Nat) : Limb (xs.take n) := fun x hx => h x (List.mem_of_mem_take hx)
theorem Limb.drop {xs : List Nat} (h : Limb xs) (n : Nat) : Limb (xs.drop n) := fun x hx => h x (List.mem_of_mem_drop hx)
theorem Limb.tail {x : Nat} {xs : List Nat} (h : Limb (x :: xs)) : Limb xs := fun y hy => h y (by simp [hy])
theorem Limb.set {xs : List Nat} (h : Limb xs) (i v : Nat) (hv : v < BB) : Limb (xs.set i v) := fun x hx => by
  rcases List.mem_or_eq_of_mem_set hx with h1 | h1
  · exact h x h1
  · exact h1 ▸ hv
theorem Limb.get {xs : List Nat} (h : Limb xs) (i : Nat) : xs[i]?.getD 0 < BB := by
  cases hx : xs[i]? with
  | none => exact BB_pos
  | some x => exact h x (List.mem_of_getElem? hx)
theorem Limb.zeros (n : Nat) : Limb (List.replicate n 0) := fun x hx => by
  rw [List.eq_of_mem_replicate hx]
  exact BB_pos
theorem limb_nil : Limb [] := fun x hx => by simp at hx
theorem limb_one {x : Nat} (h : x < BB) : Limb [x] := fun y hy => by
  have : y = x := by simpa using hy
  exact this ▸ h
theorem val_zeros : ∀ n : Nat, val (List.replicate n 0) = 0
  | 0 => rfl
  | n + 1 => by rw [List.replicate_succ, val, val_zeros n]; omega
theorem val_lt : ∀ {xs : List Nat}, Limb xs → val xs < BB ^ xs.length
  | [], _ => by simp [val]
  | x :: xs, h => by
    have h1 := val_lt h.tail
    have h2 := h x (by simp)
    simp only [val, List.length_cons, Nat.pow_succ]
    have h3 : val xs + 1 ≤ BB ^ xs.length := h1
    have h4 : BB * (val xs + 1) ≤ BB * BB ^ xs.length := Nat.mul_le_mul_left _ h3
    rw [Nat.mul_add, Nat.mul_one, Nat.mul_comm BB (BB ^ xs.length)] at h4
    omega
theorem val_take_drop (xs : List Nat) (n : Nat) (hn : n ≤ xs.length) : val xs = val (xs.take n) + BB ^ n * val (xs.drop n) := by
  have h := val_append (xs.take n) (xs.drop n)
  rw [List.take_append_drop, List.length_take, Nat.min_eq_left hn] at h
  exact h
theorem val_snoc (xs : List Nat) (x : Nat) : val (xs ++ [x]) = val xs + BB ^ xs.length * x := by
  rw [val_append]
  simp [val]
theorem val_take_succ (xs : List Nat) (k : Nat) (hk : k < xs.length) : val (xs.take (k + 1)) = val (xs.take k) + BB ^ k * (xs[k]?.getD 0) := by
  rw [List.take_succ_eq_append_getElem hk, val_snoc, List.length_take, Nat.min_eq_left (by omega), List.getElem?_eq_getElem hk]
  rfl
theorem val_set (xs : List Nat) (i v : Nat) (hi : i < xs.length) : val (xs.set i v) + BB ^ i * (xs[i]?.getD 0) = val xs + BB ^ i * v := by
  have h1 := val_take_drop xs i (by omega)
  have h2 := val_take_drop (xs.set i v) i (by simp; omega)
  have e1 : (xs.set i v).take i = xs.take i := by rw [List.take_set_of_le (by omega)]
  have e2 : xs.drop i = xs[i] :: xs.drop (i + 1) := List.drop_eq_getElem_cons hi
  have e3 : (xs.set i v).drop i = v :: xs.drop (i + 1) := by
    rw [List.drop_eq_getElem_cons (by simpa using hi)]
    rw [List.getElem_set_self, List.drop_set_of_lt (by omega)]
  rw [e1, e3, val] at h2
  rw [e2, val] at h1
  rw [List.getElem?_eq_getElem hi, h1, h2]
  simp only [Option.getD_some, Nat.mul_add]
  omega

/-- The limbs of a number, none of 0 at the end. -/
def limbsOf (n : Nat) : List Nat := if _h : n = 0 then [] else n % BB :: limbsOf (n / BB)
termination_by n
decreasing_by exact Nat.div_lt_self (by omega) BB_two
theorem limbsOf_zero : limbsOf 0 = [] := by rw [limbsOf]; rfl
theorem limbsOf_pos {n : Nat} (h : n ≠ 0) : limbsOf n = n % BB :: limbsOf (n / BB) := by rw [limbsOf, dif_neg h]
theorem limbsOf_val_cons (x N : Nat) (hx : x < BB) (h : N ≠ 0 ∨ x ≠ 0) : limbsOf (x + BB * N) = x :: limbsOf N := by
  have hp := BB_pos
  have hne : x + BB * N ≠ 0 := by
    rcases h with h | h
    · have : 0 < BB * N := Nat.mul_pos hp (by omega)
      omega
    · omega
  rw [limbsOf_pos hne, Nat.add_mul_mod_self_left, Nat.mod_eq_of_lt hx, Nat.add_mul_div_left _ _ hp, Nat.div_eq_of_lt hx, Nat.zero_add]
theorem val_limbsOf : ∀ n : Nat, val (limbsOf n) = n := fun n => by
  induction n using Nat.strongRecOn with
  | ind n ih =>
    by_cases h : n = 0
    · rw [h, limbsOf_zero]; rfl
    · rw [limbsOf_pos h, val, ih _ (Nat.div_lt_self (by omega) BB_two), Nat.mod_add_div]
theorem limb_limbsOf : ∀ n : Nat, Limb (limbsOf n) := fun n => by
  induction n using Nat.strongRecOn with
  | ind n ih =>
    by_cases h : n = 0
    · rw [h, limbsOf_zero]; exact limb_nil
    · rw [limbsOf_pos h]
      intro x hx
      rcases List.mem_cons.1 hx with rfl | hx
      · exact Nat.mod_lt _ BB_pos
      · exact ih _ (Nat.div_lt_self (by omega) BB_two) x hx
/-- None of 0 at the end. -/
def Canon (xs : List Nat) : Prop := ∀ h : 0 < xs.length, xs[xs.length - 1] ≠ 0
theorem limbsOf_val : ∀ {xs : List Nat}, Limb xs → Canon xs → limbsOf (val xs) = xs
  | [], _, _ => limbsOf_zero
  | x :: xs, h, hc => by
    have hc' : Canon xs := fun h0 => by
      have := hc (by simp)
      simpa [List.getElem_cons, show xs.length ≠ 0 by omega] using this
    have ih := limbsOf_val h.tail hc'
    rw [val, limbsOf_val_cons x _ (h x (by simp)) ?_, ih]
    by_cases h0 : val xs = 0
    · right
      rw [h0, limbsOf_zero] at ih
      subst ih
      simpa using hc (by simp)
    · exact .inl h0
theorem canon_limbsOf : ∀ n : Nat, Canon (limbsOf n) := fun n => by
  induction n using Nat.strongRecOn with
  | ind n ih =>
    by_cases h : n = 0
    · rw [h, limbsOf_zero]; intro h0; simp at h0
    · rw [limbsOf_pos h]
      intro _
      have ih := ih _ (Nat.div_lt_self (by omega) BB_two)
      by_cases h1 : n / BB = 0
      · simp only [h1, limbsOf_zero, List.length_cons, List.length_nil]
        have := Nat.mod_add_div n BB
        rw [h1] at this
        simp
        omega
      · have hl : (limbsOf (n / BB)).length ≠ 0 := by rw [limbsOf_pos h1]; simp
        have := ih (by omega)
        simpa [List.getElem_cons, hl] using this
/-- Cut behind the last one that is not 0. -/
theorem limbsOf_take : ∀ {xs : List Nat}, Limb xs → xs.take (limbsOf (val xs)).length = limbsOf (val xs) ∧ (limbsOf (val xs)).length ≤ xs.length
  | [], _ => by simp [val, limbsOf_zero]
  | x :: xs, h => by
    obtain ⟨ih, ih2⟩ := limbsOf_take h.tail
    by_cases h0 : val xs ≠ 0 ∨ x ≠ 0
    · rw [val, limbsOf_val_cons x _ (h x (by simp)) h0]
      simp [ih, ih2]
    · have e : val xs = 0 ∧ x = 0 := by omega
      rw [val, e.1, e.2]
      simp [limbsOf_zero]
theorem limbsOf_len {xs : List Nat} (h : Limb xs) : (limbsOf (val xs)).length ≤ xs.length := (limbsOf_take h).2
theorem limbsOf_len_le {n k : Nat} (h : n < BB ^ k) : (limbsOf n).length ≤ k := by
  induction k generalizing n with
  | zero =>
    have : n = 0 := by simpa using h
    simp [this, limbsOf_zero]
  | succ k ih =>
    by_cases h0 : n = 0
    · simp [h0, limbsOf_zero]
    · rw [limbsOf_pos h0, List.length_cons]
      have := ih (n := n / BB) (by
        rw [Nat.div_lt_iff_lt_mul BB_pos]
        rwa [Nat.pow_succ] at h)
      omega
theorem lt_limbsOf (n : Nat) : n < BB ^ (limbsOf n).length := by
  have := val_lt (limb_limbsOf n)
  rwa [val_limbsOf] at this
theorem limbsOf_len_lt {n k : Nat} (h : k < (limbsOf n).length) : BB ^ k ≤ n := by
  apply Nat.le_of_not_lt
  intro h1
  have := limbsOf_len_le h1
  omega
theorem limbsOf_len_mono {m n : Nat} (h : m ≤ n) : (limbsOf m).length ≤ (limbsOf n).length := limbsOf_len_le (Nat.lt_of_le_of_lt h (lt_limbsOf n))
theorem limbsOf_len0 {n : Nat} : (limbsOf n).length = 0 ↔ n = 0 := by
  constructor
  · intro h
    have := lt_limbsOf n
    rw [h] at this
    simpa using this
  · rintro rfl
    rw [limbsOf_zero]; rfl
theorem limbsOf_inj {m n : Nat} (h : limbsOf m = limbsOf n) : m = n := by rw [← val_limbsOf m, h, val_limbsOf]
/-- Where trim's loop stops: all behind n are 0, and the one ahead of it is not. -/
theorem trim_stop {xs : List Nat} (h : Limb xs) (n : Nat) (hn : n ≤ xs.length) (hz : ∀ j, n ≤ j → j < xs.length → xs[j]?.getD 0 = 0) (hc : 0 < n → xs[n - 1]?.getD 0 ≠ 0) : (limbsOf (val xs)).length = n ∧ xs.take n = limbsOf (val xs) := by
  have e : xs.drop n = List.replicate (xs.length - n) 0 := by
    apply List.ext_getElem
    · simp
    · intro i h1 h2
      have := hz (n + i) (by omega) (by simp at h1; omega)
      rw [List.getElem?_eq_getElem (by simp at h1; omega)] at this
      simpa using this
  have hv : val xs = val (xs.take n) := by
    rw [val_take_drop xs n hn, e, val_zeros]
    omega
  have hcan : Canon (xs.take n) := by
    intro h0
    have hl : (xs.take n).length = n := by rw [List.length_take]; omega
    have := hc (by omega)
    rw [List.getElem?_eq_getElem (by omega)] at this
    simp only [Option.getD_some] at this
    rw [List.getElem_take]
    simpa [hl] using this
  have := limbsOf_val (h.take n) hcan
  rw [hv, this]
  exact ⟨by rw [List.length_take]; omega, rfl⟩

theorem cmp_len {a b : Nat} (h : (limbsOf a).length < (limbsOf b).length) : a < b := Nat.lt_of_lt_of_le (lt_limbsOf a) (limbsOf_len_lt h)
/-- Two lists alike from i + 1 on, and at i less. -/
theorem cmp_at {xs ys : List Nat} (hx : Limb xs) (hl : xs.length = ys.length) {i : Nat} (hi : i < xs.length) (hd : xs.drop (i + 1) = ys.drop (i + 1)) (h : xs[i]?.getD 0 < ys[i]?.getD 0) : val xs < val ys := by
  have h1 := val_take_drop xs (i + 1) (by omega)
  have h2 := val_take_drop ys (i + 1) (by omega)
  rw [val_take_succ xs i hi] at h1
  rw [val_take_succ ys i (by omega)] at h2
  have h3 := val_lt (hx.take i)
  rw [List.length_take, Nat.min_eq_left (by omega)] at h3
  have h4 : BB ^ i * (xs[i]?.getD 0 + 1) ≤ BB ^ i * (ys[i]?.getD 0) := Nat.mul_le_mul_left _ h
  rw [Nat.mul_add, Nat.mul_one] at h4
  rw [h1, h2, hd]
  omega
theorem drop_step {xs ys : List Nat} (hl : xs.length = ys.length) {i : Nat} (hi : i < xs.length) (hd : xs.drop (i + 1) = ys.drop (i + 1)) (h : xs[i]?.getD 0 = ys[i]?.getD 0) : xs.drop i = ys.drop i := by
  have hi' : i < ys.length := by omega
  rw [List.drop_eq_getElem_cons hi, List.drop_eq_getElem_cons hi', hd]
  rw [List.getElem?_eq_getElem hi, List.getElem?_eq_getElem (by omega)] at h
  simp only [Option.getD_some] at h
  rw [h]
/-- A limb as two digits. -/
def split : List Nat → List Nat
  | [] => []
  | x :: xs => x % BB :: x / BB :: split xs
theorem bb_sq : Go.Proofs.YtcknigodcjjahaaDoor.BB = BB * BB := by rw [Go.Proofs.YtcknigodcjjahaaDoor.BB_val, BB_val]
theorem split_snoc : ∀ (xs : List Nat) (x : Nat), split (xs ++ [x]) = split xs ++ [x % BB, x / BB]
  | [], x => rfl
  | y :: ys, x => by rw [List.cons_append, split, split, split_snoc ys x]; rfl
theorem split_len : ∀ xs : List Nat, (split xs).length = 2 * xs.length
  | [] => rfl
  | x :: xs => by rw [split, List.length_cons, List.length_cons, split_len xs, List.length_cons]; omega
theorem split_limb : ∀ {xs : List Nat}, Go.Proofs.YtcknigodcjjahaaDoor.Limb xs → Limb (split xs)
  | [], _ => limb_nil
  | x :: xs, h => fun d hd => by
    have hx := h x (by simp)
    rw [bb_sq] at hx
    rcases List.mem_cons.1 hd with rfl | hd
    · exact Nat.mod_lt _ BB_pos
    · rcases List.mem_cons.1 hd with rfl | hd
      · rwa [Nat.div_lt_iff_lt_mul BB_pos]
      · exact split_limb h.tail d hd
theorem split_val : ∀ xs : List Nat, val (split xs) = Go.Proofs.YtcknigodcjjahaaDoor.val xs
  | [] => rfl
  | x :: xs => by
    rw [split, val, val, Go.Proofs.YtcknigodcjjahaaDoor.val, split_val xs, Nat.mul_add, ← Nat.mul_assoc, ← bb_sq, ← Nat.add_assoc, Nat.mod_add_div]
/-- Two digits as a limb. -/
def join : List Nat → List Nat
  | [] => []
  | [x] => [x]
  | x :: y :: zs => (x + y * BB) :: join zs
theorem join_limb : ∀ {xs : List Nat}, Limb xs → Go.Proofs.YtcknigodcjjahaaDoor.Limb (join xs)
  | [], _ => Go.Proofs.YtcknigodcjjahaaDoor.limb_nil
  | [x], h => Go.Proofs.YtcknigodcjjahaaDoor.limb_one (by have := h x (by simp); have := BB_pos; rw [bb_sq]; exact Nat.lt_of_lt_of_le (h x (by simp)) (Nat.le_mul_of_pos_left _ BB_pos))
  | x :: y :: zs, h => fun d hd => by
    have hx := h x (by simp)
    have hy := h y (by simp)
    rcases List.mem_cons.1 hd with rfl | hd
    · rw [bb_sq]
      have h1 := Nat.mul_le_mul_right BB (show y + 1 ≤ BB from hy)
      rw [Nat.add_mul, Nat.one_mul] at h1
      omega
    · exact join_limb (Limb.tail (Limb.tail h)) d hd
theorem join_val : ∀ xs : List Nat, Go.Proofs.YtcknigodcjjahaaDoor.val (join xs) = val xs
  | [] => rfl
  | [x] => by simp [join, val, Go.Proofs.YtcknigodcjjahaaDoor.val]
  | x :: y :: zs => by
    rw [join, Go.Proofs.YtcknigodcjjahaaDoor.val, join_val zs, val, val, bb_sq, Nat.mul_add, Nat.mul_comm BB y, Nat.mul_assoc]
    omega
theorem join_ne : ∀ {xs : List Nat}, xs ≠ [] → join xs ≠ []
  | [], h => absurd rfl h
  | [x], _ => by simp [join]
  | x :: y :: zs, _ => by simp [join]
theorem canon_cons {a : Nat} {l : List Nat} (hl : l ≠ []) (h : Go.Proofs.YtcknigodcjjahaaDoor.Canon l) : Go.Proofs.YtcknigodcjjahaaDoor.Canon (a :: l) := fun _ => by
  have hp : 0 < l.length := List.length_pos_iff.2 hl
  have := h hp
  simpa [List.getElem_cons, show l.length ≠ 0 by omega] using this
theorem join_canon : ∀ {xs : List Nat}, Canon xs → Go.Proofs.YtcknigodcjjahaaDoor.Canon (join xs)
  | [], _ => fun h => by simp [join] at h
  | [x], h => fun _ => by have := h (by simp); simpa [join] using this
  | [x, y], h => fun _ => by
    have := h (by simp)
    simp at this
    have hp : 0 < y * BB := Nat.mul_pos (by omega) BB_pos
    show x + y * BB ≠ 0
    omega
  | x :: y :: z :: zs, h => by
    have hc : Canon (z :: zs) := fun _ => by
      have := h (by simp)
      simpa [List.getElem_cons] using this
    show Go.Proofs.YtcknigodcjjahaaDoor.Canon ((x + y * BB) :: join (z :: zs))
    exact canon_cons (join_ne (by simp)) (join_canon hc)
/-- The digits of a number, two and two, are its limbs. -/
theorem join_digits (n : Nat) : join (limbsOf n) = Go.Proofs.YtcknigodcjjahaaDoor.limbsOf n := by
  have h1 := join_val (limbsOf n)
  rw [val_limbsOf] at h1
  have h2 := Go.Proofs.YtcknigodcjjahaaDoor.limbsOf_val (join_limb (limb_limbsOf n)) (join_canon (canon_limbsOf n))
  rw [h1] at h2
  exact h2.symm
end R
end Go.Proofs.YtcknigodcjjahaaDoor
