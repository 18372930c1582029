/-
  The long division at digits of 32 bits: the plain law (XValB, XValC, XValF turned by mkrdiv.py).
-/
import Derived.Test.YtgiejjpemhceiaaDoorTeGRefS
namespace Go.Proofs.YtgiejjpemhceiaaDoor
namespace R

theorem add_step {zs : List Nat} {i v c lo hi : Nat} (h0 : i < zs.length) (h : lo + BB * hi = zs[i]?.getD 0 + v + c) : val (zs.set i lo) + BB ^ (i + 1) * hi = val zs + BB ^ i * v + BB ^ i * c := by
  have h1 := val_set zs i lo h0
  have h2 := congrArg (BB ^ i * ·) h
  simp only [Nat.mul_add] at h2
  rw [Nat.pow_succ, Nat.mul_assoc]
  omega
theorem sub_step {zs : List Nat} {i v b d b' : Nat} (h0 : i < zs.length) (h : d + v + b = zs[i]?.getD 0 + BB * b') : val (zs.set i d) + BB ^ i * v + BB ^ i * b = val zs + BB ^ (i + 1) * b' := by
  have h1 := val_set zs i d h0
  have h2 := congrArg (BB ^ i * ·) h
  simp only [Nat.mul_add] at h2
  rw [Nat.pow_succ, Nat.mul_assoc]
  omega
theorem val_zero_of : ∀ {zs : List Nat}, val zs = 0 → ∀ k : Nat, zs[k]?.getD 0 = 0
  | [], _, k => by simp
  | z :: zs, h, 0 => by
    simp only [val] at h
    simp
    omega
  | z :: zs, h, k + 1 => by
    simp only [val] at h
    have hb := BB_pos
    have h1 : val zs = 0 := by
      rcases Nat.eq_zero_or_pos (val zs) with h2 | h2
      · exact h2
      · have := Nat.mul_pos hb h2
        omega
    have := val_zero_of h1 k
    simpa using this
theorem val_high {zs : List Nat} {m : Nat} (h : val zs < BB ^ m) (k : Nat) (hk : m ≤ k) : zs[k]?.getD 0 = 0 := by
  by_cases hm : m ≤ zs.length
  · have h1 := val_take_drop zs m hm
    have h2 : val (zs.drop m) = 0 := by
      rcases Nat.eq_zero_or_pos (val (zs.drop m)) with h2 | h2
      · exact h2
      · have h3 : BB ^ m * 1 ≤ BB ^ m * val (zs.drop m) := Nat.mul_le_mul_left _ h2
        omega
    have h3 := val_zero_of h2 (k - m)
    rw [List.getElem?_drop, show m + (k - m) = k by omega] at h3
    exact h3
  · rw [List.getElem?_eq_none (by omega)]
    rfl
theorem val_ge_get {zs : List Nat} (i : Nat) : BB ^ i * (zs[i]?.getD 0) ≤ val zs := by
  by_cases hi : i < zs.length
  · have h1 := val_take_drop zs (i + 1) (by omega)
    rw [val_take_succ zs i hi] at h1
    omega
  · rw [List.getElem?_eq_none (by omega)]
    simp
theorem pow_le {i j : Nat} (h : i ≤ j) : BB ^ i ≤ BB ^ j := Nat.pow_le_pow_right BB_pos h
theorem val_drop_div (xs : List Nat) (hx : Limb xs) (k : Nat) (hk : k ≤ xs.length) : val (xs.drop k) = val xs / BB ^ k := by
  have h1 := val_take_drop xs k hk
  have h2 := val_lt (hx.take k)
  rw [List.length_take, Nat.min_eq_left hk] at h2
  rw [h1, Nat.add_mul_div_left _ _ (BB_pow_pos k), Nat.div_eq_of_lt h2, Nat.zero_add]
def EstOk (u2 u1 u0 v1 v0 d : Nat) : Prop := d < BB ∧ (d = BB - 1 ∨ (u2 * BB + u1) * BB + u0 < (d + 1) * (v1 * BB + v0))
theorem high_bound {us us' : List Nat} {i : Nat} (hu : Limb us) (hu' : Limb us') (hl : us'.length = us.length) (hi : i ≤ us.length) (hh : ∀ j, i ≤ j → us'[j]?.getD 0 = us[j]?.getD 0) (h : val us < BB ^ i) : val us' < BB ^ i := by
  have e : us'.drop i = us.drop i := by
    apply List.ext_getElem
    · simp [hl]
    · intro k h1 h2
      have h3 := hh (i + k) (by omega)
      simp only [List.length_drop] at h1 h2
      rw [List.getElem?_eq_getElem (by omega), List.getElem?_eq_getElem (by omega)] at h3
      simpa using h3
  have h1 := val_take_drop us' i (by omega)
  have h2 := val_drop_div us hu i hi
  rw [Nat.div_eq_of_lt h] at h2
  rw [e, h2, Nat.mul_zero, Nat.add_zero] at h1
  rw [h1]
  have := val_lt (hu'.take i)
  rwa [List.length_take, Nat.min_eq_left (by omega)] at this
structure DI (us us' : List Nat) (V j n d b : Nat) : Prop where
  limb : Limb us'
  len : us'.length = us.length
  eq : val us' + BB ^ j * (d * V) = val us + BB ^ (j + n + 1) * b
  lt : val us' < BB ^ (j + n + 1)
  est : val us < BB ^ j * ((d + 1) * V)
  dl : d < BB
  bl : b ≤ 1
theorem DI.pos {us us' : List Nat} {V j n d : Nat} (h : DI us us' V j n d 1) : 0 < d := by
  rcases Nat.eq_zero_or_pos d with h0 | h0
  · have h1 := h.eq
    have h2 := h.lt
    rw [h0] at h1
    simp at h1
    omega
  · exact h0
theorem DI.step {us us' us'' : List Nat} {V j n d cy : Nat} (h : DI us us' V j n d 1) (hl : Limb us'') (hn : us''.length = us'.length) (hi : j + n + 1 ≤ us'.length) (hh : ∀ k, j + n + 1 ≤ k → us''[k]?.getD 0 = us'[k]?.getD 0) (hc : cy ≤ 1)
    (he : val us'' + BB ^ (j + n + 1) * cy = val us' + BB ^ j * V) : DI us us'' V j n (d - 1) (1 - cy) := by
  have hp := h.pos
  obtain ⟨k, rfl⟩ : ∃ k, d = k + 1 := ⟨d - 1, by omega⟩
  have h1 := h.eq
  have h2 := h.lt
  have h3 := h.dl
  rw [Nat.add_sub_cancel]
  rw [Nat.add_mul, Nat.one_mul, Nat.mul_add] at h1
  have hb := high_bound h.limb hl hn hi hh h.lt
  have h7 : k < BB := Nat.lt_of_succ_lt h3
  refine ⟨hl, by rw [hn, h.len], ?_, hb, ?_, h7, Nat.sub_le _ _⟩
  · clear h7 h3 hb
    generalize BB ^ (j + n + 1) = P at *
    generalize BB ^ j * (k * V) = A at *
    generalize BB ^ j * V = C at *
    rcases (show cy = 0 ∨ cy = 1 by omega) with rfl | rfl
    · rw [Nat.mul_zero] at he
      rw [Nat.mul_one] at h1
      rw [Nat.sub_zero, Nat.mul_one]
      omega
    · rw [Nat.mul_one] at he h1
      rw [Nat.sub_self, Nat.mul_zero]
      omega
  · rw [Nat.add_mul, Nat.one_mul, Nat.mul_add]
    clear h7 h3 hb he
    generalize BB ^ (j + n + 1) = P at *
    generalize BB ^ j * (k * V) = A at *
    generalize BB ^ j * V = C at *
    rw [Nat.mul_one] at h1
    omega
theorem DI.done {us us' : List Nat} {V j n d : Nat} (h : DI us us' V j n d 0) : val us' + BB ^ j * (d * V) = val us ∧ val us' < BB ^ j * V := by
  have h1 := h.eq
  have h2 := h.est
  rw [Nat.mul_zero, Nat.add_zero] at h1
  rw [Nat.add_mul, Nat.one_mul, Nat.mul_add] at h2
  exact ⟨h1, by omega⟩
structure LI (us qs : List Nat) (U0 V k : Nat) : Prop where
  ul : Limb us
  ql : Limb qs
  eq : val us + V * (BB ^ k * val (qs.drop k)) = U0
  lt : val us < BB ^ k * V
theorem LI.step {us us' qs : List Nat} {U0 V j n d : Nat} (h : LI us qs U0 V (j + 1)) (hd : DI us us' V j n d 0) (hq : j < qs.length) : LI us' (qs.set j d) U0 V j := by
  obtain ⟨h1, h2⟩ := hd.done
  refine ⟨hd.limb, h.ql.set _ _ hd.dl, ?_, h2⟩
  have h3 := h.eq
  rw [List.drop_eq_getElem_cons (by simpa using hq), List.getElem_set_self, List.drop_set_of_lt (by omega), val, Nat.mul_add, Nat.mul_add]
  rw [Nat.pow_succ, Nat.mul_assoc] at h3
  rw [← h3, ← h1, Nat.mul_left_comm V (BB ^ j) d, Nat.mul_comm V d]
  omega
theorem LI.done {us qs : List Nat} {a b s : Nat} (h : LI us qs (a * 2 ^ s) (b * 2 ^ s) 0) : val qs = a / b ∧ val us / 2 ^ s = a % b := by
  have hp : 0 < 2 ^ s := Nat.pow_pos (by omega)
  have h1 := h.eq
  have h2 := h.lt
  simp only [Nat.pow_zero, Nat.one_mul, List.drop_zero] at h1 h2
  have hV : 0 < b * 2 ^ s := by omega
  have e1 : (a * 2 ^ s) / (b * 2 ^ s) = val qs := by
    rw [← h1, Nat.add_comm, Nat.mul_add_div hV, Nat.div_eq_of_lt h2, Nat.add_zero]
  have e2 : (a * 2 ^ s) % (b * 2 ^ s) = val us := by
    rw [← h1, Nat.add_comm, Nat.mul_add_mod, Nat.mod_eq_of_lt h2]
  rw [Nat.mul_div_mul_right _ _ hp] at e1
  rw [Nat.mul_mod_mul_right] at e2
  exact ⟨e1.symm, by rw [← e2, Nat.mul_div_cancel _ hp]⟩
open Go.RowKit

theorem val_drop_cons (xs : List Nat) (j : Nat) (h : j < xs.length) : val (xs.drop j) = xs[j]?.getD 0 + BB * val (xs.drop (j + 1)) := by
  rw [List.drop_eq_getElem_cons h]
  simp [val, h]
end R
end Go.Proofs.YtgiejjpemhceiaaDoor
