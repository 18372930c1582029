/-
  Joined texts.
-/
import Derived.Test.YtigpnopeacicpaaDoorTwGRefS
/-
  The long division at digits of 32 bits: the plain law (XValB, XValC, XValF turned by mkrdiv.py).
-/
namespace Go.Proofs.YtigpnopeacicpaaDoor
namespace R

theorem add_step {zs : List Nat} {i v c lo hi : Nat} (h0 : i < zs.length) (h : lo + BB * hi = zs[i]?.getD 0 + v + c) : val (zs.set i lo) + BB ^ (i + 1) * hi = val zs + BB ^ i * v + BB ^ i * c := by
  have h1 := val_set zs i lo h0
  have h2 := congrArg (BB ^ i * ·) h
  simp only [Nat.mul_add] at h2
  rw [Nat.pow_succ, Nat.mul_assoc]
  omega
theorem sub_step {zs : List Nat} {i v b d b' : Nat} (h0 : i < zs.length) (h : d + v + b = zs[i]?.getD 0 + BB * b') : val (zs.set i d) + BB ^ i * v + BB ^ i * b = val zs + BB ^ (i + 1) * b' := by
  have h1 := val_set zs i d h0
  have h2 := congrArg (BB ^ i * ·) h
  simp only [Nat.mul_add] at h2
  rw [Nat.pow_succ, Nat.mul_assoc]
  omega
theorem val_zero_of : ∀ {zs : List Nat}, val zs = 0 → ∀ k : Nat, zs[k]?.getD 0 = 0
  | [], _, k => by simp
  | z :: zs, h, 0 => by
    simp only [val] at h
    simp
    omega
  | z :: zs, h, k + 1 => by
    simp only [val] at h
    have hb := BB_pos
    have h1 : val zs = 0 := by
      rcases Nat.eq_zero_or_pos (val zs) with h2 | h2
      · exact h2
      · have := Nat.mul_pos hb h2
        omega
    have := val_zero_of h1 k
    simpa using this
theorem val_high {zs : List Nat} {m : Nat} (h : val zs < BB ^ m) (k : Nat) (hk : m ≤ k) : zs[k]?.getD 0 = 0 := by
  by_cases hm : m ≤ zs.length
  · have h1 := val_take_drop zs m hm
    have h2 : val (zs.drop m) = 0 := by
      rcases Nat.eq_zero_or_pos (val (zs.drop m)) with h2 | h2
      · exact h2
      · have h3 : BB ^ m * 1 ≤ BB ^ m * val (zs.drop m) := Nat.mul_le_mul_left _ h2
        omega
    have h3 := val_zero_of h2 (k - m)
    rw [List.getElem?_drop, show m + (k - m) = k by omega] at h3
    exact h3
  · rw [List.getElem?_eq_none (by omega)]
    rfl
theorem val_ge_get {zs : List Nat} (i : Nat) : BB ^ i * (zs[i]?.getD 0) ≤ val zs := by
  by_cases hi : i < zs.length
  · have h1 := val_take_drop zs (i + 1) (by omega)
    rw [val_take_succ zs i hi] at h1
    omega
  · rw [List.getElem?_eq_none (by omega)]
    simp
theorem pow_le {i j : Nat} (h : i ≤ j) : BB ^ i ≤ BB ^ j := Nat.pow_le_pow_right BB_pos h
theorem val_drop_div (xs : List Nat) (hx : Limb xs) (k : Nat) (hk : k ≤ xs.length) : val (xs.drop k) = val xs / BB ^ k := by
  have h1 := val_take_drop xs k hk
  have h2 := val_lt (hx.take k)
  rw [List.length_take, Nat.min_eq_left hk] at h2
  rw [h1, Nat.add_mul_div_left _ _ (BB_pow_pos k), Nat.div_eq_of_lt h2, Nat.zero_add]
def EstOk (u2 u1 u0 v1 v0 d : Nat) : Prop := d < BB ∧ (d = BB - 1 ∨ (u2 * BB + u1) * BB + u0 < (d + 1) * (v1 * BB + v0))
theorem est_start {u2 u1 u0 v1 v0 : Nat} (hv : 0 < v1) (h2 : u2 < v1) (h1 : u1 < BB) (h0 : u0 < BB) : EstOk u2 u1 u0 v1 v0 ((u2 * BB + u1) / v1) := by
  have hb := BB_pos
  constructor
  · rw [Nat.div_lt_iff_lt_mul hv]
    have : (u2 + 1) * BB ≤ v1 * BB := Nat.mul_le_mul_right _ h2
    rw [Nat.add_mul, Nat.one_mul, Nat.mul_comm v1] at this
    omega
  · right
    have h3 := Nat.lt_div_mul_add (a := u2 * BB + u1) hv
    have h4 : u2 * BB + u1 + 1 ≤ ((u2 * BB + u1) / v1 + 1) * v1 := by rw [Nat.add_mul, Nat.one_mul]; omega
    have h5 : (u2 * BB + u1 + 1) * BB ≤ ((u2 * BB + u1) / v1 + 1) * v1 * BB := Nat.mul_le_mul_right _ h4
    rw [Nat.add_mul (u2 * BB + u1), Nat.one_mul] at h5
    have h6 : ((u2 * BB + u1) / v1 + 1) * (v1 * BB + v0) = ((u2 * BB + u1) / v1 + 1) * v1 * BB + ((u2 * BB + u1) / v1 + 1) * v0 := by rw [Nat.mul_add, Nat.mul_assoc]
    omega
theorem est_lower {u2 u1 u0 v1 v0 d r : Nat} (hd : d < BB) (he : d * v1 + r = u2 * BB + u1) (hl : r * BB + u0 < d * v0) : 0 < d ∧ EstOk u2 u1 u0 v1 v0 (d - 1) ∧ (d - 1) * v1 + (r + v1) = u2 * BB + u1 := by
  have hp : 0 < d := by
    rcases Nat.eq_zero_or_pos d with h0 | h0
    · rw [h0] at hl; omega
    · exact h0
  obtain ⟨k, rfl⟩ : ∃ k, d = k + 1 := ⟨d - 1, by omega⟩
  simp only [Nat.add_sub_cancel]
  refine ⟨hp, ⟨by omega, .inr ?_⟩, by rw [Nat.add_mul, Nat.one_mul] at he; omega⟩
  have h6 := congrArg (· * BB) he
  simp only [Nat.add_mul _ _ BB] at h6
  have h7 : (k + 1) * (v1 * BB + v0) = (k + 1) * v1 * BB + (k + 1) * v0 := by rw [Nat.mul_add, Nat.mul_assoc]
  rw [Nat.add_mul _ _ BB]
  omega
theorem val_cap {us : List Nat} {m : Nat} (hm : m ≤ us.length) (h : val us < BB ^ m) : val us = val (us.take m) := by
  have h1 := val_take_drop us m hm
  have h2 : val (us.drop m) = 0 := by
    rcases Nat.eq_zero_or_pos (val (us.drop m)) with h2 | h2
    · exact h2
    · have h3 : BB ^ m * 1 ≤ BB ^ m * val (us.drop m) := Nat.mul_le_mul_left _ h2
      omega
  rw [h1, h2]
  omega
theorem est_ge {us vs : List Nat} {j n d : Nat} (hu : Limb us) (hvl : Limb vs) (hn : 2 ≤ n) (hv : vs.length = n) (hl : j + n < us.length) (hw : val us < BB ^ (j + 1) * val vs)
    (h : EstOk (us[j + n]?.getD 0) (us[j + n - 1]?.getD 0) (us[j + n - 2]?.getD 0) (vs[n - 1]?.getD 0) (vs[n - 2]?.getD 0) d) : val us < BB ^ j * ((d + 1) * val vs) := by
  rcases h.2 with h | h
  · rw [h, show BB - 1 + 1 = BB by have := BB_pos; omega, ← Nat.mul_assoc, ← Nat.pow_succ]
    exact hw
  · obtain ⟨m, rfl⟩ : ∃ m, n = m + 2 := ⟨n - 2, by omega⟩
    rw [show j + (m + 2) - 1 = j + m + 1 by omega, show j + (m + 2) - 2 = j + m by omega, show m + 2 - 1 = m + 1 by omega, show m + 2 - 2 = m by omega, show j + (m + 2) = j + m + 2 by omega] at h
    rw [show j + (m + 2) = j + m + 2 by omega] at hl
    have hvb := val_lt hvl
    rw [hv] at hvb
    have hcap : val us < BB ^ (j + m + 2 + 1) := by
      have h4 := Nat.mul_le_mul_left (BB ^ (j + 1)) (Nat.le_of_lt hvb)
      rw [← Nat.pow_add, show j + 1 + (m + 2) = j + m + 2 + 1 by omega] at h4
      omega
    have c1 := val_take_succ us (j + m) (by omega)
    have c2 : val (us.take (j + m + 2)) = val (us.take (j + m + 1)) + BB ^ (j + m + 1) * (us[j + m + 1]?.getD 0) := val_take_succ us (j + m + 1) (by omega)
    have c3 := val_take_succ us (j + m + 2) (by omega)
    have c0 := val_lt (hu.take (j + m))
    rw [List.length_take, Nat.min_eq_left (by omega)] at c0
    have hua := val_cap (by omega) hcap
    have cV0 := val_take_succ vs m (by omega)
    have cV1 := val_take_succ vs (m + 1) (by omega)
    have hva : val (vs.take (m + 1 + 1)) = val vs := by rw [show m + 1 + 1 = vs.length by omega, List.take_length]
    rw [hva] at cV1
    generalize us[j + m + 2]?.getD 0 = u2 at *
    generalize us[j + m + 1]?.getD 0 = u1 at *
    generalize us[j + m]?.getD 0 = u0 at *
    generalize vs[m + 1]?.getD 0 = v1 at *
    generalize vs[m]?.getD 0 = v0 at *
    -- U < BB^(j+m) (T + 1)
    have e1 : BB ^ (j + m + 1) = BB ^ (j + m) * BB := Nat.pow_succ ..
    have e2 : BB ^ (j + m + 2) = BB ^ (j + m) * (BB * BB) := by rw [Nat.pow_succ, Nat.pow_succ, Nat.mul_assoc]
    have hU : val us < BB ^ (j + m) * ((u2 * BB + u1) * BB + u0 + 1) := by
      have : BB ^ (j + m) * ((u2 * BB + u1) * BB + u0 + 1) = BB ^ (j + m) * (BB * BB) * u2 + BB ^ (j + m) * BB * u1 + BB ^ (j + m) * u0 + BB ^ (j + m) := by
        simp only [Nat.mul_add, Nat.add_mul, Nat.mul_one]
        simp only [Nat.mul_assoc, Nat.mul_comm u2, Nat.mul_comm u1]
      rw [this, ← e1, ← e2]
      omega
    have hV : BB ^ m * (v1 * BB + v0) ≤ val vs := by
      have : BB ^ m * (v1 * BB + v0) = BB ^ (m + 1) * v1 + BB ^ m * v0 := by
        rw [Nat.mul_add, Nat.pow_succ, Nat.mul_assoc, Nat.mul_comm BB v1]
      omega
    have h1 : BB ^ (j + m) * ((u2 * BB + u1) * BB + u0 + 1) ≤ BB ^ (j + m) * ((d + 1) * (v1 * BB + v0)) := Nat.mul_le_mul_left _ h
    have h2 : BB ^ (j + m) * ((d + 1) * (v1 * BB + v0)) = BB ^ j * ((d + 1) * (BB ^ m * (v1 * BB + v0))) := by
      rw [Nat.pow_add, Nat.mul_assoc, Nat.mul_left_comm (d + 1)]
    have h3 : BB ^ j * ((d + 1) * (BB ^ m * (v1 * BB + v0))) ≤ BB ^ j * ((d + 1) * val vs) := Nat.mul_le_mul_left _ (Nat.mul_le_mul_left _ hV)
    omega
theorem long_u2 {us vs : List Nat} {j n : Nat} (hvl : Limb vs) (hn : 1 ≤ n) (hv : vs.length = n) (hw : val us < BB ^ (j + 1) * val vs) : us[j + n]?.getD 0 ≤ vs[n - 1]?.getD 0 := by
  obtain ⟨m, rfl⟩ : ∃ m, n = m + 1 := ⟨n - 1, by omega⟩
  have h1 := val_ge_get (zs := us) (j + (m + 1))
  have c1 := val_take_succ vs m (by omega)
  rw [show vs.take (m + 1) = vs by rw [← hv, List.take_length]] at c1
  have c0 := val_lt (hvl.take m)
  rw [List.length_take, Nat.min_eq_left (by omega)] at c0
  simp only [Nat.add_sub_cancel]
  have h2 : BB ^ (j + 1) * val vs ≤ BB ^ (j + 1) * (BB ^ m * (vs[m]?.getD 0 + 1)) := Nat.mul_le_mul_left _ (by rw [Nat.mul_add]; omega)
  have h3 : BB ^ (j + 1) * (BB ^ m * (vs[m]?.getD 0 + 1)) = BB ^ (j + (m + 1)) * (vs[m]?.getD 0 + 1) := by rw [← Nat.mul_assoc, ← Nat.pow_add, show j + 1 + m = j + (m + 1) by omega]
  have h4 : BB ^ (j + (m + 1)) * (us[j + (m + 1)]?.getD 0) < BB ^ (j + (m + 1)) * (vs[m]?.getD 0 + 1) := by omega
  exact Nat.le_of_lt_succ (Nat.lt_of_mul_lt_mul_left h4)
theorem long_bound {us vs : List Nat} {j n : Nat} (hvl : Limb vs) (hv : vs.length = n) (hw : val us < BB ^ (j + 1) * val vs) : val us < BB ^ (j + n + 1) := by
  have h1 := val_lt hvl
  rw [hv] at h1
  have h2 : BB ^ (j + 1) * val vs ≤ BB ^ (j + 1) * BB ^ n := Nat.mul_le_mul_left _ (Nat.le_of_lt h1)
  rw [← Nat.pow_add, show j + 1 + n = j + n + 1 by omega] at h2
  omega
theorem high_bound {us us' : List Nat} {i : Nat} (hu : Limb us) (hu' : Limb us') (hl : us'.length = us.length) (hi : i ≤ us.length) (hh : ∀ j, i ≤ j → us'[j]?.getD 0 = us[j]?.getD 0) (h : val us < BB ^ i) : val us' < BB ^ i := by
  have e : us'.drop i = us.drop i := by
    apply List.ext_getElem
    · simp [hl]
    · intro k h1 h2
      have h3 := hh (i + k) (by omega)
      simp only [List.length_drop] at h1 h2
      rw [List.getElem?_eq_getElem (by omega), List.getElem?_eq_getElem (by omega)] at h3
      simpa using h3
  have h1 := val_take_drop us' i (by omega)
  have h2 := val_drop_div us hu i hi
  rw [Nat.div_eq_of_lt h] at h2
  rw [e, h2, Nat.mul_zero, Nat.add_zero] at h1
  rw [h1]
  have := val_lt (hu'.take i)
  rwa [List.length_take, Nat.min_eq_left (by omega)] at this
structure DI (us us' : List Nat) (V j n d b : Nat) : Prop where
  limb : Limb us'
  len : us'.length = us.length
  eq : val us' + BB ^ j * (d * V) = val us + BB ^ (j + n + 1) * b
  lt : val us' < BB ^ (j + n + 1)
  est : val us < BB ^ j * ((d + 1) * V)
  dl : d < BB
  bl : b ≤ 1
theorem DI.pos {us us' : List Nat} {V j n d : Nat} (h : DI us us' V j n d 1) : 0 < d := by
  rcases Nat.eq_zero_or_pos d with h0 | h0
  · have h1 := h.eq
    have h2 := h.lt
    rw [h0] at h1
    simp at h1
    omega
  · exact h0
theorem DI.step {us us' us'' : List Nat} {V j n d cy : Nat} (h : DI us us' V j n d 1) (hl : Limb us'') (hn : us''.length = us'.length) (hi : j + n + 1 ≤ us'.length) (hh : ∀ k, j + n + 1 ≤ k → us''[k]?.getD 0 = us'[k]?.getD 0) (hc : cy ≤ 1)
    (he : val us'' + BB ^ (j + n + 1) * cy = val us' + BB ^ j * V) : DI us us'' V j n (d - 1) (1 - cy) := by
  have hp := h.pos
  obtain ⟨k, rfl⟩ : ∃ k, d = k + 1 := ⟨d - 1, by omega⟩
  have h1 := h.eq
  have h2 := h.lt
  have h3 := h.dl
  rw [Nat.add_sub_cancel]
  rw [Nat.add_mul, Nat.one_mul, Nat.mul_add] at h1
  have hb := high_bound h.limb hl hn hi hh h.lt
  have h7 : k < BB := Nat.lt_of_succ_lt h3
  refine ⟨hl, by rw [hn, h.len], ?_, hb, ?_, h7, Nat.sub_le _ _⟩
  · clear h7 h3 hb
    generalize BB ^ (j + n + 1) = P at *
    generalize BB ^ j * (k * V) = A at *
    generalize BB ^ j * V = C at *
    rcases (show cy = 0 ∨ cy = 1 by omega) with rfl | rfl
    · rw [Nat.mul_zero] at he
      rw [Nat.mul_one] at h1
      rw [Nat.sub_zero, Nat.mul_one]
      omega
    · rw [Nat.mul_one] at he h1
      rw [Nat.sub_self, Nat.mul_zero]
      omega
  · rw [Nat.add_mul, Nat.one_mul, Nat.mul_add]
    clear h7 h3 hb he
    generalize BB ^ (j + n + 1) = P at *
    generalize BB ^ j * (k * V) = A at *
    generalize BB ^ j * V = C at *
    rw [Nat.mul_one] at h1
    omega
theorem DI.done {us us' : List Nat} {V j n d : Nat} (h : DI us us' V j n d 0) : val us' + BB ^ j * (d * V) = val us ∧ val us' < BB ^ j * V := by
  have h1 := h.eq
  have h2 := h.est
  rw [Nat.mul_zero, Nat.add_zero] at h1
  rw [Nat.add_mul, Nat.one_mul, Nat.mul_add] at h2
  exact ⟨h1, by omega⟩
structure LI (us qs : List Nat) (U0 V k : Nat) : Prop where
  ul : Limb us
  ql : Limb qs
  eq : val us + V * (BB ^ k * val (qs.drop k)) = U0
  lt : val us < BB ^ k * V
theorem LI.step {us us' qs : List Nat} {U0 V j n d : Nat} (h : LI us qs U0 V (j + 1)) (hd : DI us us' V j n d 0) (hq : j < qs.length) : LI us' (qs.set j d) U0 V j := by
  obtain ⟨h1, h2⟩ := hd.done
  refine ⟨hd.limb, h.ql.set _ _ hd.dl, ?_, h2⟩
  have h3 := h.eq
  rw [List.drop_eq_getElem_cons (by simpa using hq), List.getElem_set_self, List.drop_set_of_lt (by omega), val, Nat.mul_add, Nat.mul_add]
  rw [Nat.pow_succ, Nat.mul_assoc] at h3
  rw [← h3, ← h1, Nat.mul_left_comm V (BB ^ j) d, Nat.mul_comm V d]
  omega
theorem LI.done {us qs : List Nat} {a b s : Nat} (h : LI us qs (a * 2 ^ s) (b * 2 ^ s) 0) : val qs = a / b ∧ val us / 2 ^ s = a % b := by
  have hp : 0 < 2 ^ s := Nat.pow_pos (by omega)
  have h1 := h.eq
  have h2 := h.lt
  simp only [Nat.pow_zero, Nat.one_mul, List.drop_zero] at h1 h2
  have hV : 0 < b * 2 ^ s := by omega
  have e1 : (a * 2 ^ s) / (b * 2 ^ s) = val qs := by
    rw [← h1, Nat.add_comm, Nat.mul_add_div hV, Nat.div_eq_of_lt h2, Nat.add_zero]
  have e2 : (a * 2 ^ s) % (b * 2 ^ s) = val us := by
    rw [← h1, Nat.add_comm, Nat.mul_add_mod, Nat.mod_eq_of_lt h2]
  rw [Nat.mul_div_mul_right _ _ hp] at e1
  rw [Nat.mul_mod_mul_right] at e2
  exact ⟨e1.symm, by rw [← e2, Nat.mul_div_cancel _ hp]⟩
theorem long_top {ys : List Nat} {s n : Nat} (hy : Limb ys) (hn : 1 ≤ n) (hl : ys.length = n) (h0 : ys[n - 1]?.getD 0 ≠ 0) (hs : ys[n - 1]?.getD 0 * 2 ^ s < BB) : (limbsOf (val ys * 2 ^ s)).length = n ∧ BB ^ (n - 1) * 2 ^ s ≤ val ys * 2 ^ s := by
  obtain ⟨m, rfl⟩ : ∃ m, n = m + 1 := ⟨n - 1, by omega⟩
  simp only [Nat.add_sub_cancel] at *
  have hp : 0 < 2 ^ s := Nat.pow_pos (by omega)
  have c1 := val_take_succ ys m (by omega)
  rw [show ys.take (m + 1) = ys by rw [← hl, List.take_length]] at c1
  have c0 := val_lt (hy.take m)
  rw [List.length_take, Nat.min_eq_left (by omega)] at c0
  have h1 : BB ^ m * 1 ≤ BB ^ m * (ys[m]?.getD 0) := Nat.mul_le_mul_left _ (by omega)
  have h2 : BB ^ m * 2 ^ s ≤ val ys * 2 ^ s := Nat.mul_le_mul_right _ (by omega)
  refine ⟨?_, h2⟩
  apply Nat.le_antisymm
  · apply limbsOf_len_le
    have h4 : val ys + 1 ≤ BB ^ m * (ys[m]?.getD 0 + 1) := by rw [Nat.mul_add]; omega
    have h5 : (val ys + 1) * 2 ^ s ≤ BB ^ m * (ys[m]?.getD 0 + 1) * 2 ^ s := Nat.mul_le_mul_right _ h4
    have h6 : (ys[m]?.getD 0 + 1) * 2 ^ s ≤ BB := by
      by_cases hs32 : s ≤ 32
      · have hsp : 2 ^ s * 2 ^ (32 - s) = BB := by rw [← Nat.pow_add, BB_pow]; congr 1; omega
        rw [← hsp, Nat.mul_comm] at hs ⊢
        exact Nat.mul_le_mul_left _ (Nat.lt_of_mul_lt_mul_left hs)
      · have h7 : 2 ^ 32 ≤ 2 ^ s := Nat.pow_le_pow_right (by omega) (by omega)
        have h8 : 1 * 2 ^ s ≤ ys[m]?.getD 0 * 2 ^ s := Nat.mul_le_mul_right _ (by omega)
        rw [BB_pow] at hs
        omega
    have h7 : BB ^ m * (ys[m]?.getD 0 + 1) * 2 ^ s ≤ BB ^ m * BB := by rw [Nat.mul_assoc]; exact Nat.mul_le_mul_left _ h6
    rw [Nat.pow_succ]
    rw [Nat.add_mul] at h5
    omega
  · apply Nat.lt_of_not_le
    intro h
    have h3 := lt_limbsOf (val ys * 2 ^ s)
    have h4 : BB ^ (limbsOf (val ys * 2 ^ s)).length ≤ BB ^ m := pow_le (by omega)
    have h5 : BB ^ m * 1 ≤ BB ^ m * 2 ^ s := Nat.mul_le_mul_left _ hp
    omega
theorem LI.start {xs ys us qs : List Nat} {s n m : Nat} (hx : Limb xs) (hm : xs.length = m) (hn : 1 ≤ n) (hnm : n ≤ m) (hV : BB ^ (n - 1) * 2 ^ s ≤ val ys * 2 ^ s) (hul : Limb us) (hu : val us = val xs * 2 ^ s) (hql : Limb qs) (hq : qs.length = m - n + 1) :
    LI us qs (val xs * 2 ^ s) (val ys * 2 ^ s) (m - n + 1) := by
  refine ⟨hul, hql, by rw [← hq, List.drop_length]; simp [val, hu], ?_⟩
  have h1 := val_lt hx
  rw [hm] at h1
  have h2 : val xs * 2 ^ s < BB ^ m * 2 ^ s := Nat.mul_lt_mul_of_pos_right h1 (Nat.pow_pos (by omega))
  have h3 := Nat.mul_le_mul_left (BB ^ (m - n + 1)) hV
  rw [← Nat.mul_assoc, ← Nat.pow_add, show m - n + 1 + (n - 1) = m by omega] at h3
  omega

open Go.RowKit

theorem val_drop_cons (xs : List Nat) (j : Nat) (h : j < xs.length) : val (xs.drop j) = xs[j]?.getD 0 + BB * val (xs.drop (j + 1)) := by
  rw [List.drop_eq_getElem_cons h]
  simp [val, h]
end R
end Go.Proofs.YtigpnopeacicpaaDoor

/-
  The reference's numbers: DivMod, below and by one digit.
-/
namespace Go.Proofs.YtigpnopeacicpaaDoor
open Go.RowKit

def RDPost (a b : Nat) (w : World) (e : Ending) (w' : World) : Prop :=
  ∃ A k c A' k' c', e = .returned (.tuple #[.slice A k c, .slice A' k' c']) ∧ RV w' (.slice A k c) (a / b) ∧ RV w' (.slice A' k' c') (a % b) ∧ (∀ x, A = some x → w.heap.size ≤ x.block) ∧ Only [] w w'

set_option maxHeartbeats 800000 in
set_option maxRecDepth 100000 in
theorem rdivmod_lt {w : World} {a b : Value} {m n : Nat} (ha : Hid (RV w a m)) (hb : Hid (RV w b n)) (hfa : Hid (Few m)) (hfb : Hid (Few n)) (hlt : Hid (m < n)) : Calls Tryd.prog 53 #[a, b] w (RDPost m n w) := by
  have hr := rcmp_v ha hb hfa hfb
  obtain ⟨A, c, rfl, h1, h2⟩ := ha.out
  obtain ⟨B, d, rfl, k1, k2⟩ := hb.out
  rw [cmp_le hlt.out] at hr
  have HR := Lib.hid hr
  have HA := Lib.hid h1
  have HC := Lib.hid h2
  clear h1 h2 k1 k2 hr hb
  have hq : Hid (m / n = 0) := Nat.div_eq_of_lt hlt.out
  have hm : Hid (m % n = m) := Nat.mod_eq_of_lt hlt.out
  generalize (R.limbsOf n).length = ln at *
  obtain ⟨lm, hlm⟩ : ∃ lm, (R.limbsOf m).length = lm := ⟨_, rfl⟩
  have HM := Lib.hid hlm
  rw [hlm] at HR
  rw [hlm]
  clear hlm
  go_enter Tryd.func53, Tryd.ntmps53
  go_wp2_with fail
  refine HR.out.mono ?_
  rintro e w1 ⟨rfl, ho⟩
  have HO := Lib.hid ho
  clear ho
  go_wp2_with fail
  go_ret2
  refine ⟨none, 0, 0, A, lm, c, rfl, ?_, ?_, (fun x hx => by cases hx), HO.out⟩
  · rw [hq.out]; exact RV.nil _
  · rw [hm.out, ← HM.out]; exact ⟨A, c, rfl, HA.out.only HO.out, HC.out⟩

structure ZCar (wm wr : World) (g y : Nat) (xs zs : List Nat) (k rest : Nat) : Prop where
  blk : Blk wr g 90 (limbV zs)
  limb : R.Limb zs
  len : zs.length = xs.length
  val_ : R.val (xs.drop k) = y * R.val (zs.drop k) + rest
  lt : rest < y
  only : Only [g] wm wr
theorem ZCar.step {wm wr wd : World} {g y : Nat} {xs zs : List Nat} {j rest : Nat} (h : ZCar wm wr g y xs zs (j + 1) rest) (hj : j < xs.length) (hx : R.Limb xs) (q r : Nat) (hq : (rest * R.BB + xs[j]?.getD 0) / y = q) (hr : (rest * R.BB + xs[j]?.getD 0) % y = r)
    (hb : Blk wd g 90 ((limbV zs).set j (.int .u64 (q : Int)))) (ho : Only [g] wr wd) : ZCar wm wd g y xs (zs.set j q) j r := by
  subst hq hr
  have hy : 0 < y := by have := h.lt; omega
  have hq : (rest * R.BB + xs[j]?.getD 0) / y < R.BB := by
    rw [Nat.div_lt_iff_lt_mul hy]
    have h1 := Nat.mul_le_mul_right R.BB (show rest + 1 ≤ y from h.lt)
    rw [Nat.succ_mul, Nat.mul_comm y] at h1
    have := hx.get j
    omega
  have hlen := h.len
  refine ⟨?_, h.limb.set _ _ hq, by rw [List.length_set, hlen], ?_, Nat.mod_lt _ hy, h.only.trans ho (by simp)⟩
  · rw [← limbV_set]
    exact hb
  · have h1 := Nat.div_add_mod (rest * R.BB + xs[j]?.getD 0) y
    rw [R.val_drop_cons xs j hj, R.val_drop_cons _ j (by rw [List.length_set]; omega), set_get_eq (by omega), List.drop_set_of_lt (by omega), h.val_]
    rw [Nat.mul_add, Nat.mul_add, Nat.mul_left_comm R.BB y, Nat.mul_comm R.BB rest]
    omega
theorem ZCar.bound {y rest x : Nat} (hr : rest < y) (hy : y < R.BB) (hx : x < R.BB) : rest * 4294967296 < 18446744073709551616 ∧ rest * 4294967296 + x < 18446744073709551616 := by
  rw [R.BB_val] at *
  omega

set_option maxHeartbeats 1600000 in
set_option maxRecDepth 100000 in
theorem rdivmod_one {w : World} {a b : Value} {m n : Nat} (ha : Hid (RV w a m)) (hb : Hid (RV w b n)) (hfa : Hid (Few m)) (hfb : Hid (Few n)) (hlt : Hid (n ≤ m)) (h1 : Hid ((R.limbsOf n).length = 1)) : Calls Tryd.prog 53 #[a, b] w (RDPost m n w) := by
  have hr := rcmp_v ha hb hfa hfb
  have hla := hfa.out.digits
  obtain ⟨A, c, rfl, p1, p2⟩ := ha.out
  obtain ⟨B, d, rfl, k1, k2⟩ := hb.out
  have hY : R.limbsOf n = [n] ∧ 0 < n ∧ n < R.BB := by
    have hv := R.val_limbsOf n
    have hlm := R.limb_limbsOf n
    have hc := R.canon_limbsOf n
    rcases hz : R.limbsOf n with _ | ⟨y, _ | ⟨y2, t⟩⟩
    · have h := h1.out
      rw [hz] at h
      simp at h
    · rw [hz] at hv hlm hc
      simp only [R.val, Nat.mul_zero, Nat.add_zero] at hv
      subst hv
      have h := hc (by simp)
      simp at h
      exact ⟨rfl, by omega, hlm y (by simp)⟩
    · have h := h1.out
      rw [hz] at h
      simp at h
  obtain ⟨y1, y2, y3⟩ := hY
  have HY := Lib.hid y2
  have HYb := Lib.hid y3
  obtain ⟨bb, bo, rfl, e2⟩ := k1 0 (by rw [y1]; simp)
  rw [y1] at e2
  simp only [List.getElem?_cons_zero, Option.getD_some, Nat.add_zero] at e2
  have HA := Lib.hid p1
  have HB := Lib.hid e2
  have hz0 : ¬ (cmpZ m n < 0) := by have := hlt.out; unfold cmpZ; split <;> (try split) <;> omega
  rw [h1.out] at hr ⊢
  have HR := Lib.hid hr
  clear hr p1 p2 k1 k2 y1 y2 y3 e2 ha hb h1
  generalize cmpZ m n = z at *
  have HLx := Lib.hid (R.limb_limbsOf m)
  have HVx : Hid (R.val (R.limbsOf m) = m) := R.val_limbsOf m
  generalize R.limbsOf m = xs at HA HR HLx HVx hla ⊢
  obtain ⟨lm, hlm⟩ : ∃ lm, xs.length = lm := ⟨_, rfl⟩
  have HM := Lib.hid hlm
  rw [hlm] at HR hla
  rw [hlm]
  clear hlm
  go_enter Tryd.func53, Tryd.ntmps53
  go_wp2_with fail
  refine HR.out.mono ?_
  rintro e w1 ⟨rfl, ho⟩
  obtain ⟨w2, hmk, hb1, ho1, hs1⟩ := make_limbs 45 Tryd.underlying45 w1 lm (by omega)
  have HO := Lib.hid (ho.trans ho1 (by simp))
  have HS : Hid (w.heap.size ≤ w1.heap.size) := ho.size
  have HS1 := Lib.hid hs1
  have HStart : Hid (ZCar w2 w2 w1.heap.size n xs (List.replicate lm 0) lm 0) := ⟨hb1, R.Limb.zeros _, by rw [List.length_replicate]; exact HM.out.symm, by rw [← HM.out, List.drop_length, HM.out, List.drop_of_length_le (by simp)]; simp [R.val], HY.out, Only.refl _ _⟩
  have hg : bb ≠ w1.heap.size := by
    have := World.block_lt_of_cell? w _ HB.out
    have := HS.out
    simp only at *
    omega
  have HB2 : Hid (w2.cell? ⟨bb, bo, none⟩ = some (.int .u64 (n : Int))) := HO.out.cell HB.out (by simp)
  have HA2 : Hid (LRead w2 A xs) := HA.out.only HO.out
  have HAn : Hid (∀ j b' o', A = some ⟨b', o', none⟩ → j < xs.length → b' ≠ w1.heap.size) := by
    intro j b' o' e hj
    obtain ⟨b2, o2, e2, hc2⟩ := HA.out j hj
    rw [e2] at e
    injection e with e
    injection e with e _ _
    subst e
    have := World.block_lt_of_cell? w _ hc2
    have := HS.out
    simp only at *
    omega
  clear ho ho1 hb1 hs1 HR HB HA
  generalize w1.heap.size = g at *
  go_wp2_with fail
  go_loopw [7, 8] (fun rv iv wr => ∃ (k rest : Nat) (zs : List Nat), k ≤ lm ∧ rv = .int .u64 (rest : Int) ∧ iv = .int .i64 ((k : Int) - 1) ∧ ZCar w2 wr g n xs zs k rest) (fun _ iv _ => (intOf iv + 1).toNat)
  case atStart => exact ⟨lm, 0, _, Nat.le_refl _, rfl, rfl, HStart.out⟩
  case round =>
    obtain ⟨k, rest, zs, hk, rfl, rfl, hR⟩ := hrel
    have HR := Lib.hid hR
    clear hR HStart
    rcases k with _ | j
    · have HV : Hid (m = n * R.val zs + rest) := by
        have h := HR.out.val_
        simp only [List.drop_zero] at h
        rw [HVx.out] at h
        exact h
      have hd1 : Hid (R.val zs = m / n) := by
        show _ = _
        rw [HV.out, Nat.mul_add_div HY.out, Nat.div_eq_of_lt HR.out.lt, Nat.add_zero]
      have hd2 : Hid (rest = m % n) := by
        show _ = _
        rw [HV.out, Nat.mul_add_mod, Nat.mod_eq_of_lt HR.out.lt]
      have HLz := Lib.hid (HR.out.len.trans HM.out)
      have HRd : Hid (LRead wr (some ⟨g, 0, none⟩) zs) := by
        have h := LRead.of_tl (tl := []) (by rw [List.append_nil]; exact HR.out.blk)
        exact h
      have htr := rtrim_any (some ⟨g, 0, none⟩) lm lm zs wr HRd (Lib.hid HR.out.limb) (Lib.hid HLz.out.symm) (Nat.le_refl _) (by omega)
      rw [hd1.out] at htr
      have HTr := Lib.hid htr
      have HRl : Hid (rest < BB) := by
        have h2 := HR.out.lt
        have h3 := HYb.out
        have h4 := R.BB_pos
        have h5 := Nat.le_mul_of_pos_left R.BB h4
        rw [← R.bb_sq] at h5
        show _ < _
        omega
      have HRv : Hid (RV wr (.slice (some ⟨g, 0, none⟩) (R.limbsOf (m / n)).length (R.limbsOf (m / n)).length) (m / n)) := by
        have h2 := RV.of_row HRd.out HR.out.limb
        rw [hd1.out] at h2
        exact ⟨_, _, rfl, h2, Nat.le_refl _⟩
      have hi : ((0 : Nat) : Int) - 1 = -1 := rfl
      rw [hi]
      clear hi htr
      go_wp2_with fail
      refine HTr.out.mono ?_
      rintro e w' ⟨rfl, rfl⟩
      go_wp2_with fail
      refine (rsmall_any rest wr HRl).mono ?_
      rintro e w3 ⟨A3, k3, c3, rfl, hv3, -, ho3⟩
      have HV3 := Lib.hid hv3
      have HO3 := Lib.hid ho3
      clear hv3 ho3
      go_wp2_with fail
      go_ret2
      refine ⟨_, _, _, _, _, _, rfl, HRv.out.only HO3.out, ?_, fun x hx => ?_, ?_⟩
      · rw [← hd2.out]; exact HV3.out
      · injection hx with hx
        subst hx
        exact HS.out
      · exact (HO.out.trans HR.out.only (fun x hx => .inr (by simp at hx; rw [hx]; exact HS.out))).trans HO3.out (by simp)
    · have hi : ((j + 1 : Nat) : Int) - 1 = (j : Int) := by omega
      rw [hi]
      clear hi
      have HJ : Hid (j < xs.length) := by have := HM.out; show _ < _; omega
      obtain ⟨b', o', rfl, c1⟩ := HA2.out j HJ.out
      have hbg := HAn.out j b' o' rfl HJ.out
      have c2 := HR.out.only.cell c1 (by simpa using hbg)
      have c3 := HR.out.only.cell HB2.out (by simpa using hg)
      have hji : (j : Int) < (lm : Int) := by omega
      have HX := Lib.hid (HLx.out.get j)
      obtain ⟨x, hx⟩ : ∃ x, xs[j]?.getD 0 = x := ⟨_, rfl⟩
      rw [hx] at c2 HX
      obtain ⟨q1, q2⟩ := ZCar.bound HR.out.lt HYb.out HX.out
      obtain ⟨t0, ht0⟩ : ∃ t0, rest * 4294967296 = t0 := ⟨_, rfl⟩
      obtain ⟨t, ht⟩ : ∃ t, t0 + x = t := ⟨_, rfl⟩
      rw [ht0] at q1 q2
      rw [ht] at q2
      have hw1 : IntKind.u64.wrap ((rest : Int) * 4294967296) = (t0 : Int) := by
        rw [show (rest : Int) * 4294967296 = (t0 : Int) by omega]
        exact u64_wrap (by rw [BB_val]; exact q1)
      have hw2 : IntKind.u64.wrap ((t0 : Int) + (x : Int)) = (t : Int) := u64_add ht (by rw [BB_val]; exact q2)
      have hnz : (n : Int) ≠ 0 := by have := HY.out; omega
      obtain ⟨q, hq⟩ : ∃ q, t / n = q := ⟨_, rfl⟩
      obtain ⟨r, hr⟩ : ∃ r, t % n = r := ⟨_, rfl⟩
      have hq1 : (t : Int).tdiv (n : Int) = (q : Int) := by rw [← hq]; rfl
      have hq2 : (t : Int) / (n : Int) = (q : Int) := by rw [← hq]; rfl
      have hr1 : (t : Int).tmod (n : Int) = (r : Int) := by rw [← hr]; rfl
      have hr2 : (t : Int) % (n : Int) = (r : Int) := by rw [← hr]; rfl
      have hql : q ≤ t := by rw [← hq]; exact Nat.div_le_self _ _
      have hrl : r ≤ t := by rw [← hr]; exact Nat.mod_le _ _
      have hw3 : IntKind.u64.wrap (q : Int) = (q : Int) := u64_wrap (by rw [BB_val]; omega)
      have hw4 : IntKind.u64.wrap (r : Int) = (r : Int) := u64_wrap (by rw [BB_val]; omega)
      have hB2 := HR.out.blk.set_ j (.int .u64 (q : Int))
      have c4 := HR.out.blk.cell j
      rw [limbV_get _ _ (by rw [HR.out.len]; exact HJ.out)] at c4
      have f4 := HR.out.blk.frozen j
      have c5 := ((Only.refl [g] wr).setCell (p := ⟨g, j, none⟩) (.inl (by simp)) (.int .u64 (q : Int))).cell c3 (by simpa using hg)
      have HS2 := Lib.hid (HR.out.step HJ.out HLx.out q r (by rw [hx, R.BB_val, ht0, ht, hq]) (by rw [hx, R.BB_val, ht0, ht, hr]) hB2 ((Only.refl [g] wr).setCell (.inl (by simp)) _))
      clear hB2 hx ht0 ht hq hr q1 q2 hql hrl c1
      go_wp2_with fail
      go_roundw
      case rel => exact ⟨j, _, _, by omega, rfl, rfl, HS2.out⟩
      case measure => simp [intOf]
end Go.Proofs.YtigpnopeacicpaaDoor

/-
  The reference's long division: what its inner loops keep (plain law).
-/
namespace Go.Proofs.YtigpnopeacicpaaDoor
namespace R

structure GS (u2 u1 u0 v1 v0 d r : Nat) : Prop where
  eq : d * v1 + r = u2 * BB + u1
  ge : (u2 * BB + u1) * BB + u0 < (d + 1) * (v1 * BB + v0) ∨ BB - 1 ≤ d
  v1l : 0 < v1
  u2l : u2 ≤ v1
  u1l : u1 < BB
  u0l : u0 < BB
  v1b : v1 < BB
  v0b : v0 < BB
theorem GS.start {u2 u1 u0 v1 v0 : Nat} (h1 : 0 < v1) (h2 : u2 ≤ v1) (h3 : u1 < BB) (h4 : u0 < BB) (h5 : v1 < BB) (h6 : v0 < BB) : GS u2 u1 u0 v1 v0 ((u2 * BB + u1) / v1) ((u2 * BB + u1) % v1) := by
  refine ⟨?_, .inl ?_, h1, h2, h3, h4, h5, h6⟩
  · have := Nat.div_add_mod (u2 * BB + u1) v1
    rw [Nat.mul_comm] at this
    exact this
  · have h7 := Nat.lt_div_mul_add (a := u2 * BB + u1) h1
    have h8 : u2 * BB + u1 + 1 ≤ ((u2 * BB + u1) / v1 + 1) * v1 := by rw [Nat.add_mul, Nat.one_mul]; omega
    have h9 := Nat.mul_le_mul_right BB h8
    rw [Nat.add_mul (u2 * BB + u1), Nat.one_mul] at h9
    have h10 : ((u2 * BB + u1) / v1 + 1) * (v1 * BB + v0) = ((u2 * BB + u1) / v1 + 1) * v1 * BB + ((u2 * BB + u1) / v1 + 1) * v0 := by rw [Nat.mul_add, Nat.mul_assoc]
    omega
theorem GS.pos {u0 v0 d r : Nat} (hc : BB ≤ d ∨ r * BB + u0 < d * v0) : 0 < d := by
  rcases hc with h | h
  · have := BB_pos; omega
  · rcases Nat.eq_zero_or_pos d with h0 | h0
    · rw [h0, Nat.zero_mul] at h; omega
    · exact h0
theorem GS.lower {u2 u1 u0 v1 v0 d r : Nat} (h : GS u2 u1 u0 v1 v0 d r) (hc : BB ≤ d ∨ r * BB + u0 < d * v0) : GS u2 u1 u0 v1 v0 (d - 1) (r + v1) := by
  have hp : 0 < d := by
    rcases hc with h | h
    · have := BB_pos; omega
    · rcases Nat.eq_zero_or_pos d with h0 | h0
      · rw [h0, Nat.zero_mul] at h; omega
      · exact h0
  obtain ⟨k, rfl⟩ : ∃ k, d = k + 1 := ⟨d - 1, by omega⟩
  rw [Nat.add_sub_cancel]
  have he := h.eq
  refine ⟨by rw [Nat.add_mul, Nat.one_mul] at he; omega, ?_, h.v1l, h.u2l, h.u1l, h.u0l, h.v1b, h.v0b⟩
  rcases hc with h1 | h1
  · right; omega
  · left
    have h6 := congrArg (· * BB) he
    simp only [Nat.add_mul _ _ BB] at h6
    have h7 : (k + 1) * (v1 * BB + v0) = (k + 1) * v1 * BB + (k + 1) * v0 := by rw [Nat.mul_add, Nat.mul_assoc]
    rw [Nat.add_mul _ _ BB]
    omega
theorem GS.brk {u2 u1 u0 v1 v0 d r : Nat} (h : GS u2 u1 u0 v1 v0 d r) (hr : BB ≤ r) : d < BB ∧ d * v0 ≤ r * BB + u0 := by
  have h1 := h.eq
  have h2 := Nat.mul_le_mul_right BB h.u2l
  have h3 := h.u1l
  have h4 : d * v1 < BB * v1 := by rw [Nat.mul_comm BB v1]; omega
  have h5 := Nat.lt_of_mul_lt_mul_right h4
  refine ⟨h5, ?_⟩
  have h6 := Nat.mul_le_mul (Nat.le_of_lt h5) (Nat.le_of_lt h.v0b)
  have h7 := Nat.mul_le_mul_right BB hr
  omega
theorem GS.done {u2 u1 u0 v1 v0 d r : Nat} (h : GS u2 u1 u0 v1 v0 d r) (hd : d < BB) (hl : d * v0 ≤ r * BB + u0) : EstOk u2 u1 u0 v1 v0 d ∧ d * (v1 * BB + v0) ≤ (u2 * BB + u1) * BB + u0 := by
  refine ⟨⟨hd, ?_⟩, ?_⟩
  · rcases h.ge with h1 | h1
    · exact .inr h1
    · left; omega
  · rw [← h.eq, Nat.mul_add, ← Nat.mul_assoc, Nat.add_mul]
    omega
theorem est_le {us vs : List Nat} {j n d : Nat} (hvl : Limb vs) (hn : 2 ≤ n) (hv : vs.length = n) (hl : j + n < us.length) (h0 : 0 < vs[n - 1]?.getD 0) (hd : d < BB)
    (h : d * (vs[n - 1]?.getD 0 * BB + vs[n - 2]?.getD 0) ≤ (us[j + n]?.getD 0 * BB + us[j + n - 1]?.getD 0) * BB + us[j + n - 2]?.getD 0) : BB ^ j * ((d - 1) * val vs) ≤ val us := by
  obtain ⟨m, rfl⟩ : ∃ m, n = m + 2 := ⟨n - 2, by omega⟩
  rw [show j + (m + 2) - 1 = j + m + 1 by omega, show j + (m + 2) - 2 = j + m by omega, show m + 2 - 1 = m + 1 by omega, show m + 2 - 2 = m by omega, show j + (m + 2) = j + m + 2 by omega] at h
  rw [show j + (m + 2) = j + m + 2 by omega] at hl
  rw [show m + 2 - 1 = m + 1 by omega] at h0
  have c1 := val_take_succ us (j + m) (by omega)
  have c2 : val (us.take (j + m + 2)) = val (us.take (j + m + 1)) + BB ^ (j + m + 1) * (us[j + m + 1]?.getD 0) := val_take_succ us (j + m + 1) (by omega)
  have c3 : val (us.take (j + m + 3)) = val (us.take (j + m + 2)) + BB ^ (j + m + 2) * (us[j + m + 2]?.getD 0) := val_take_succ us (j + m + 2) (by omega)
  have c4 := val_take_drop us (j + m + 3) (by omega)
  have cV0 := val_take_succ vs m (by omega)
  have cV1 := val_take_succ vs (m + 1) (by omega)
  have hva : val (vs.take (m + 1 + 1)) = val vs := by rw [show m + 1 + 1 = vs.length by omega, List.take_length]
  rw [hva] at cV1
  have c0 := val_lt (hvl.take m)
  rw [List.length_take, Nat.min_eq_left (by omega)] at c0
  generalize us[j + m + 2]?.getD 0 = u2 at *
  generalize us[j + m + 1]?.getD 0 = u1 at *
  generalize us[j + m]?.getD 0 = u0 at *
  generalize vs[m + 1]?.getD 0 = v1 at *
  generalize vs[m]?.getD 0 = v0 at *
  have e1 : BB ^ (j + m + 1) = BB ^ (j + m) * BB := Nat.pow_succ ..
  have e2 : BB ^ (j + m + 2) = BB ^ (j + m) * (BB * BB) := by rw [Nat.pow_succ, Nat.pow_succ, Nat.mul_assoc]
  have hU : BB ^ (j + m) * ((u2 * BB + u1) * BB + u0) ≤ val us := by
    have : BB ^ (j + m) * ((u2 * BB + u1) * BB + u0) = BB ^ (j + m) * (BB * BB) * u2 + BB ^ (j + m) * BB * u1 + BB ^ (j + m) * u0 := by
      simp only [Nat.mul_add, Nat.add_mul]
      simp only [Nat.mul_assoc, Nat.mul_comm u2, Nat.mul_comm u1]
    rw [this, ← e1, ← e2]
    omega
  have hV : val vs = BB ^ m * (v1 * BB + v0) + val (vs.take m) := by
    have : BB ^ m * (v1 * BB + v0) = BB ^ (m + 1) * v1 + BB ^ m * v0 := by
      rw [Nat.mul_add, Nat.pow_succ, Nat.mul_assoc, Nat.mul_comm BB v1]
    omega
  have hV1 : BB ^ m * BB ≤ val vs := by
    have h1 : BB ^ m * BB * 1 ≤ BB ^ m * BB * v1 := Nat.mul_le_mul_left _ h0
    rw [Nat.mul_one] at h1
    have h2 : BB ^ (m + 1) = BB ^ m * BB := Nat.pow_succ ..
    rw [h2] at cV1
    omega
  have hW : (d - 1) * val vs ≤ BB ^ m * ((u2 * BB + u1) * BB + u0) := by
    rcases Nat.eq_zero_or_pos d with hz | hz
    · rw [hz]; simp
    · have h1 : (d - 1) * val vs + val vs = d * val vs := by
        obtain ⟨k, rfl⟩ : ∃ k, d = k + 1 := ⟨d - 1, by omega⟩
        rw [Nat.add_sub_cancel, Nat.add_mul, Nat.one_mul]
      have h2 : d * val vs = BB ^ m * (d * (v1 * BB + v0)) + d * val (vs.take m) := by
        conv => lhs; rw [hV]
        rw [Nat.mul_add, Nat.mul_left_comm]
      have h3 := Nat.mul_le_mul_left (BB ^ m) h
      have h4 : d * val (vs.take m) ≤ BB * BB ^ m := Nat.mul_le_mul (Nat.le_of_lt hd) (Nat.le_of_lt c0)
      rw [Nat.mul_comm BB] at h4
      omega
  have h9 := Nat.mul_le_mul_left (BB ^ j) hW
  rw [← Nat.mul_assoc (BB ^ j) (BB ^ m), ← Nat.pow_add] at h9
  omega

structure MS (us us' vs : List Nat) (j d i c lo : Nat) : Prop where
  limb : Limb us'
  len : us'.length = us.length
  high : ∀ k, j + i ≤ k → us'[k]?.getD 0 = us[k]?.getD 0
  cl : c < BB
  lol : lo ≤ 1
  eq : val us' + BB ^ j * (d * val (vs.take i)) = val us + BB ^ (j + i) * (c + lo)
theorem MS.start {us vs : List Nat} {j d : Nat} (hu : Limb us) : MS us us vs j d 0 0 0 := ⟨hu, rfl, fun _ _ => rfl, BB_pos, by omega, by simp [val]⟩
theorem set_ne {zs : List Nat} {i j v : Nat} (h : i ≠ j) : (zs.set i v)[j]?.getD 0 = zs[j]?.getD 0 := Go.Proofs.YtigpnopeacicpaaDoor.set_get_ne h
theorem MS.bound {us us' vs : List Nat} {j d i c lo : Nat} (h : MS us us' vs j d i c lo) (hd : d < BB) (hv : Limb vs) : c + d * (vs[i]?.getD 0) < BB * BB := by
  have h1 := h.cl
  have h2 := Nat.mul_le_mul (show d ≤ BB - 1 by omega) (show vs[i]?.getD 0 ≤ BB - 1 by have := hv.get i; omega)
  obtain ⟨k, hk⟩ : ∃ k, BB = k + 1 := ⟨BB - 1, by omega⟩
  rw [hk] at h1 h2 ⊢
  rw [Nat.add_sub_cancel] at h2
  rw [Nat.add_mul, Nat.mul_add]
  omega
theorem MS.step {us us' vs : List Nat} {j d i c lo t y lo' : Nat} (h : MS us us' vs j d i c lo) (hi : i < vs.length) (hj : j + i < us'.length) (hd : d < BB) (hv : Limb vs) (ht : c + d * (vs[i]?.getD 0) = t) (hl : lo' ≤ 1) (hy : y < BB) (he : y + (t % BB + lo) = us'[j + i]?.getD 0 + BB * lo') :
    MS us (us'.set (j + i) y) vs j d (i + 1) (t / BB) lo' := by
  have hb := h.bound hd hv
  rw [ht] at hb
  refine ⟨h.limb.set _ _ hy, by rw [List.length_set, h.len], fun k hk => by rw [set_ne (by omega)]; exact h.high k (by omega), by rwa [Nat.div_lt_iff_lt_mul BB_pos], hl, ?_⟩
  have h1 := sub_step (zs := us') (i := j + i) (v := t % BB + lo) (b := 0) (d := y) (b' := lo') hj (by omega)
  have h2 := h.eq
  have h3 := Nat.div_add_mod t BB
  rw [val_take_succ vs i hi, ← Nat.add_assoc j i 1, Nat.pow_succ, Nat.mul_assoc (BB ^ (j + i)) BB]
  have h4 : BB ^ j * (d * (val (vs.take i) + BB ^ i * vs[i]?.getD 0)) = BB ^ j * (d * val (vs.take i)) + BB ^ (j + i) * (d * vs[i]?.getD 0) := by
    rw [Nat.mul_add, Nat.mul_add, Nat.pow_add, Nat.mul_left_comm d, Nat.mul_assoc]
  rw [h4]
  rw [Nat.pow_succ, Nat.mul_assoc (BB ^ (j + i)) BB, Nat.mul_zero, Nat.add_zero] at h1
  have h5 := congrArg (fun z => BB ^ (j + i) * z) ht
  have h6 := congrArg (fun z => BB ^ (j + i) * z) h3
  simp only [Nat.mul_add] at h1 h2 h5 h6 ⊢
  omega
theorem MS.top {us us' vs : List Nat} {j d n c lo x y b : Nat} (h : MS us us' vs j d n c lo) (hn : vs.length = n) (hu : Limb us) (hj : j + n < us'.length) (hd : d < BB) (hw : val us < BB ^ (j + 1) * val vs) (hvl : Limb vs) (hx : c + lo = x) (hb : b ≤ 1) (hy : y < BB) (he : y + x = us'[j + n]?.getD 0 + BB * b)
    (hest : val us < BB ^ j * ((d + 1) * val vs)) : DI us (us'.set (j + n) y) (val vs) j n d b := by
  have h1 := sub_step (zs := us') (i := j + n) (v := x) (b := 0) (d := y) (b' := b) hj (by omega)
  have h2 := h.eq
  rw [show vs.take n = vs by rw [← hn, List.take_length], hx] at h2
  have hlim := h.limb.set (j + n) y hy
  refine ⟨hlim, by rw [List.length_set, h.len], by rw [Nat.mul_zero, Nat.add_zero] at h1; omega, ?_, hest, hd, hb⟩
  exact high_bound hu hlim (by rw [List.length_set, h.len]) (by rw [← h.len]; omega) (fun k hk => by rw [set_ne (by omega)]; exact h.high k (by omega)) (long_bound hvl hn hw)

structure AS (us us' vs : List Nat) (j i c : Nat) : Prop where
  limb : Limb us'
  len : us'.length = us.length
  high : ∀ k, j + i ≤ k → us'[k]?.getD 0 = us[k]?.getD 0
  cl : c ≤ 1
  eq : val us' + BB ^ (j + i) * c = val us + BB ^ j * val (vs.take i)
theorem AS.start {us vs : List Nat} {j : Nat} (hu : Limb us) : AS us us vs j 0 0 := ⟨hu, rfl, fun _ _ => rfl, by omega, by simp [val]⟩
theorem AS.step {us us' vs : List Nat} {j i c t : Nat} (h : AS us us' vs j i c) (hi : i < vs.length) (hj : j + i < us'.length) (hv : Limb vs) (ht : c + us'[j + i]?.getD 0 + vs[i]?.getD 0 = t) : AS us (us'.set (j + i) (t % BB)) vs j (i + 1) (t / BB) := by
  have h0 := h.cl
  have hp := BB_pos
  have h8 := h.limb.get (j + i)
  have h9 := hv.get i
  refine ⟨h.limb.set _ _ (Nat.mod_lt _ hp), by rw [List.length_set, h.len], fun k hk => by rw [set_ne (by omega)]; exact h.high k (by omega), ?_, ?_⟩
  · have : t / BB < 2 := by rw [Nat.div_lt_iff_lt_mul hp]; omega
    omega
  · have h1 := add_step (zs := us') (i := j + i) (v := vs[i]?.getD 0) (c := c) (lo := t % BB) (hi := t / BB) hj (by have := Nat.mod_add_div t BB; omega)
    have h2 := h.eq
    rw [val_take_succ vs i hi, Nat.mul_add, ← Nat.mul_assoc, ← Nat.pow_add, ← Nat.add_assoc j i 1]
    omega
theorem AS.top {us u1 us' vs : List Nat} {j n d c : Nat} (h : AS u1 us' vs j n c) (hD : DI us u1 (val vs) j n d 1) (hn : vs.length = n) (hj : j + n < us'.length) (hup : BB ^ j * ((d - 1) * val vs) ≤ val us) : DI us (us'.set (j + n) ((us'[j + n]?.getD 0 + c) % BB)) (val vs) j n (d - 1) 0 := by
  have hp := BB_pos
  have h1 := add_step (zs := us') (i := j + n) (v := 0) (c := c) (lo := (us'[j + n]?.getD 0 + c) % BB) (hi := (us'[j + n]?.getD 0 + c) / BB) hj (by have := Nat.mod_add_div (us'[j + n]?.getD 0 + c) BB; omega)
  have h2 := h.eq
  rw [show vs.take n = vs by rw [← hn, List.take_length]] at h2
  have hlim := h.limb.set (j + n) ((us'[j + n]?.getD 0 + c) % BB) (Nat.mod_lt _ hp)
  have hcy : (us'[j + n]?.getD 0 + c) / BB ≤ 1 := by
    have := h.limb.get (j + n)
    have := h.cl
    have : (us'[j + n]?.getD 0 + c) / BB < 2 := by rw [Nat.div_lt_iff_lt_mul hp]; omega
    omega
  have hst := hD.step hlim (by rw [List.length_set, h.len]) (by rw [← h.len]; omega) (fun k hk => by rw [set_ne (by omega)]; exact h.high k (by omega)) hcy (by rw [Nat.mul_zero, Nat.add_zero] at h1; omega)
  rcases Nat.lt_or_ge 0 ((us'[j + n]?.getD 0 + c) / BB) with h3 | h3
  · rwa [Nat.le_antisymm hcy h3] at hst
  · rw [Nat.le_zero.1 h3] at hst
    have h4 := hst.eq
    have h5 := hst.lt
    omega
end R
end Go.Proofs.YtigpnopeacicpaaDoor
