/-
  The reference's long division: what its inner loops keep (plain law).
-/
import Derived.Test.YtmjnifjohfljaaaGreatDoorTaRDiv
namespace Go.Proofs.YtmjnifjohfljaaaGreatDoor
namespace R

/-- Where the reference's guess of a digit stands. -/
structure GS (u2 u1 u0 v1 v0 d r : Nat) : Prop where
  eq : d * v1 + r = u2 * BB + u1
  ge : (u2 * BB + u1) * BB + u0 < (d + 1) * (v1 * BB + v0) ∨ BB - 1 ≤ d
  v1l : 0 < v1
  u2l : u2 ≤ v1
  u1l : u1 < BB
  u0l : u0 < BB
  v1b : v1 < BB
  v0b : v0 < BB
theorem GS.start {u2 u1 u0 v1 v0 : Nat} (h1 : 0 < v1) (h2 : u2 ≤ v1) (h3 : u1 < BB) (h4 : u0 < BB) (h5 : v1 < BB) (h6 : v0 < BB) : GS u2 u1 u0 v1 v0 ((u2 * BB + u1) / v1) ((u2 * BB + u1) % v1) := by
  refine ⟨?_, .inl ?_, h1, h2, h3, h4, h5, h6⟩
  · have := Nat.div_add_mod (u2 * BB + u1) v1
    rw [Nat.mul_comm] at this
    exact this
  · have h7 := Nat.lt_div_mul_add (a := u2 * BB + u1) h1
    have h8 : u2 * BB + u1 + 1 ≤ ((u2 * BB + u1) / v1 + 1) * v1 := by rw [Nat.add_mul, Nat.one_mul]; omega
    have h9 := Nat.mul_le_mul_right BB h8
    rw [Nat.add_mul (u2 * BB + u1), Nat.one_mul] at h9
    have h10 : ((u2 * BB + u1) / v1 + 1) * (v1 * BB + v0) = ((u2 * BB + u1) / v1 + 1) * v1 * BB + ((u2 * BB + u1) / v1 + 1) * v0 := by rw [Nat.mul_add, Nat.mul_assoc]
    omega
theorem GS.pos {u0 v0 d r : Nat} (hc : BB ≤ d ∨ r * BB + u0 < d * v0) : 0 < d := by
  rcases hc with h | h
  · have := BB_pos; omega
  · rcases Nat.eq_zero_or_pos d with h0 | h0
    · rw [h0, Nat.zero_mul] at h; omega
    · exact h0
theorem GS.lower {u2 u1 u0 v1 v0 d r : Nat} (h : GS u2 u1 u0 v1 v0 d r) (hc : BB ≤ d ∨ r * BB + u0 < d * v0) : GS u2 u1 u0 v1 v0 (d - 1) (r + v1) := by
  have hp : 0 < d := by
    rcases hc with h | h
    · have := BB_pos; omega
    · rcases Nat.eq_zero_or_pos d with h0 | h0
      · rw [h0, Nat.zero_mul] at h; omega
      · exact h0
  obtain ⟨k, rfl⟩ : ∃ k, d = k + 1 := ⟨d - 1, by omega⟩
  rw [Nat.add_sub_cancel]
  have he := h.eq
  refine ⟨by rw [Nat.add_mul, Nat.one_mul] at he; omega, ?_, h.v1l, h.u2l, h.u1l, h.u0l, h.v1b, h.v0b⟩
  rcases hc with h1 | h1
  · right; omega
  · left
    have h6 := congrArg (· * BB) he
    simp only [Nat.add_mul _ _ BB] at h6
    have h7 : (k + 1) * (v1 * BB + v0) = (k + 1) * v1 * BB + (k + 1) * v0 := by rw [Nat.mul_add, Nat.mul_assoc]
    rw [Nat.add_mul _ _ BB]
    omega
/-- A great rest: the digit is one. -/
theorem GS.brk {u2 u1 u0 v1 v0 d r : Nat} (h : GS u2 u1 u0 v1 v0 d r) (hr : BB ≤ r) : d < BB ∧ d * v0 ≤ r * BB + u0 := by
  have h1 := h.eq
  have h2 := Nat.mul_le_mul_right BB h.u2l
  have h3 := h.u1l
  have h4 : d * v1 < BB * v1 := by rw [Nat.mul_comm BB v1]; omega
  have h5 := Nat.lt_of_mul_lt_mul_right h4
  refine ⟨h5, ?_⟩
  have h6 := Nat.mul_le_mul (Nat.le_of_lt h5) (Nat.le_of_lt h.v0b)
  have h7 := Nat.mul_le_mul_right BB hr
  omega
/-- The guess at its end: not below the digit, and not two above it. -/
theorem GS.done {u2 u1 u0 v1 v0 d r : Nat} (h : GS u2 u1 u0 v1 v0 d r) (hd : d < BB) (hl : d * v0 ≤ r * BB + u0) : EstOk u2 u1 u0 v1 v0 d ∧ d * (v1 * BB + v0) ≤ (u2 * BB + u1) * BB + u0 := by
  refine ⟨⟨hd, ?_⟩, ?_⟩
  · rcases h.ge with h1 | h1
    · exact .inr h1
    · left; omega
  · rw [← h.eq, Nat.mul_add, ← Nat.mul_assoc, Nat.add_mul]
    omega
/-- One lower is not above the digit. -/
theorem est_le {us vs : List Nat} {j n d : Nat} (hvl : Limb vs) (hn : 2 ≤ n) (hv : vs.length = n) (hl : j + n < us.length) (h0 : 0 < vs[n - 1]?.getD 0) (hd : d < BB)
    (h : d * (vs[n - 1]?.getD 0 * BB + vs[n - 2]?.getD 0) ≤ (us[j + n]?.getD 0 * BB + us[j + n - 1]?.getD 0) * BB + us[j + n - 2]?.getD 0) : BB ^ j * ((d - 1) * val vs) ≤ val us := by
  obtain ⟨m, rfl⟩ : ∃ m, n = m + 2 := ⟨n - 2, by omega⟩
  rw [show j + (m + 2) - 1 = j + m + 1 by omega, show j + (m + 2) - 2 = j + m by omega, show m + 2 - 1 = m + 1 by omega, show m + 2 - 2 = m by omega, show j + (m + 2) = j + m + 2 by omega] at h
  rw [show j + (m + 2) = j + m + 2 by omega] at hl
  rw [show m + 2 - 1 = m + 1 by omega] at h0
  have c1 := val_take_succ us (j + m) (by omega)
  have c2 : val (us.take (j + m + 2)) = val (us.take (j + m + 1)) + BB ^ (j + m + 1) * (us[j + m + 1]?.getD 0) := val_take_succ us (j + m + 1) (by omega)
  have c3 : val (us.take (j + m + 3)) = val (us.take (j + m + 2)) + BB ^ (j + m + 2) * (us[j + m + 2]?.getD 0) := val_take_succ us (j + m + 2) (by omega)
  have c4 := val_take_drop us (j + m + 3) (by omega)
  have cV0 := val_take_succ vs m (by omega)
  have cV1 := val_take_succ vs (m + 1) (by omega)
  have hva : val (vs.take (m + 1 + 1)) = val vs := by rw [show m + 1 + 1 = vs.length by omega, List.take_length]
  rw [hva] at cV1
  have c0 := val_lt (hvl.take m)
  rw [List.length_take, Nat.min_eq_left (by omega)] at c0
  generalize us[j + m + 2]?.getD 0 = u2 at *
  generalize us[j + m + 1]?.getD 0 = u1 at *
  generalize us[j + m]?.getD 0 = u0 at *
  generalize vs[m + 1]?.getD 0 = v1 at *
  generalize vs[m]?.getD 0 = v0 at *
  have e1 : BB ^ (j + m + 1) = BB ^ (j + m) * BB := Nat.pow_succ ..
  have e2 : BB ^ (j + m + 2) = BB ^ (j + m) * (BB * BB) := by rw [Nat.pow_succ, Nat.pow_succ, Nat.mul_assoc]
  have hU : BB ^ (j + m) * ((u2 * BB + u1) * BB + u0) ≤ val us := by
    have : BB ^ (j + m) * ((u2 * BB + u1) * BB + u0) = BB ^ (j + m) * (BB * BB) * u2 + BB ^ (j + m) * BB * u1 + BB ^ (j + m) * u0 := by
      simp only [Nat.mul_add, Nat.add_mul]
      simp only [Nat.mul_assoc, Nat.mul_comm u2, Nat.mul_comm u1]
    rw [this, ← e1, ← e2]
    omega
  have hV : val vs = BB ^ m * (v1 * BB + v0) + val (vs.take m) := by
    have : BB ^ m * (v1 * BB + v0) = BB ^ (m + 1) * v1 + BB ^ m * v0 := by
      rw [Nat.mul_add, Nat.pow_succ, Nat.mul_assoc, Nat.mul_comm BB v1]
    omega
  have hV1 : BB ^ m * BB ≤ val vs := by
    have h1 : BB ^ m * BB * 1 ≤ BB ^ m * BB * v1 := Nat.mul_le_mul_left _ h0
    rw [Nat.mul_one] at h1
    have h2 : BB ^ (m + 1) = BB ^ m * BB := Nat.pow_succ ..
    rw [h2] at cV1
    omega
  have hW : (d - 1) * val vs ≤ BB ^ m * ((u2 * BB + u1) * BB + u0) := by
    rcases Nat.eq_zero_or_pos d with hz | hz
    · rw [hz]; simp
    · have h1 : (d - 1) * val vs + val vs = d * val vs := by
        obtain ⟨k, rfl⟩ : ∃ k, d = k + 1 := ⟨d - 1, by omega⟩
        rw [Nat.add_sub_cancel, Nat.add_mul, Nat.one_mul]
      have h2 : d * val vs = BB ^ m * (d * (v1 * BB + v0)) + d * val (vs.take m) := by
        conv => lhs; rw [hV]
        rw [Nat.mul_add, Nat.mul_left_comm]
      have h3 := Nat.mul_le_mul_left (BB ^ m) h
      have h4 : d * val (vs.take m) ≤ BB * BB ^ m := Nat.mul_le_mul (Nat.le_of_lt hd) (Nat.le_of_lt c0)
      rw [Nat.mul_comm BB] at h4
      omega
  have h9 := Nat.mul_le_mul_left (BB ^ j) hW
  rw [← Nat.mul_assoc (BB ^ j) (BB ^ m), ← Nat.pow_add] at h9
  omega

/-- Where the taking away stands. -/
structure MS (us us' vs : List Nat) (j d i c lo : Nat) : Prop where
  limb : Limb us'
  len : us'.length = us.length
  high : ∀ k, j + i ≤ k → us'[k]?.getD 0 = us[k]?.getD 0
  cl : c < BB
  lol : lo ≤ 1
  eq : val us' + BB ^ j * (d * val (vs.take i)) = val us + BB ^ (j + i) * (c + lo)
theorem MS.start {us vs : List Nat} {j d : Nat} (hu : Limb us) : MS us us vs j d 0 0 0 := ⟨hu, rfl, fun _ _ => rfl, BB_pos, by omega, by simp [val]⟩
theorem set_ne {zs : List Nat} {i j v : Nat} (h : i ≠ j) : (zs.set i v)[j]?.getD 0 = zs[j]?.getD 0 := Go.Proofs.YtmjnifjohfljaaaGreatDoor.set_get_ne h
theorem MS.bound {us us' vs : List Nat} {j d i c lo : Nat} (h : MS us us' vs j d i c lo) (hd : d < BB) (hv : Limb vs) : c + d * (vs[i]?.getD 0) < BB * BB := by
  have h1 := h.cl
  have h2 := Nat.mul_le_mul (show d ≤ BB - 1 by omega) (show vs[i]?.getD 0 ≤ BB - 1 by have := hv.get i; omega)
  obtain ⟨k, hk⟩ : ∃ k, BB = k + 1 := ⟨BB - 1, by omega⟩
  rw [hk] at h1 h2 ⊢
  rw [Nat.add_sub_cancel] at h2
  rw [Nat.add_mul, Nat.mul_add]
  omega
theorem MS.step {us us' vs : List Nat} {j d i c lo t y lo' : Nat} (h : MS us us' vs j d i c lo) (hi : i < vs.length) (hj : j + i < us'.length) (hd : d < BB) (hv : Limb vs) (ht : c + d * (vs[i]?.getD 0) = t) (hl : lo' ≤ 1) (hy : y < BB) (he : y + (t % BB + lo) = us'[j + i]?.getD 0 + BB * lo') :
    MS us (us'.set (j + i) y) vs j d (i + 1) (t / BB) lo' := by
  have hb := h.bound hd hv
  rw [ht] at hb
  refine ⟨h.limb.set _ _ hy, by rw [List.length_set, h.len], fun k hk => by rw [set_ne (by omega)]; exact h.high k (by omega), by rwa [Nat.div_lt_iff_lt_mul BB_pos], hl, ?_⟩
  have h1 := sub_step (zs := us') (i := j + i) (v := t % BB + lo) (b := 0) (d := y) (b' := lo') hj (by omega)
  have h2 := h.eq
  have h3 := Nat.div_add_mod t BB
  rw [val_take_succ vs i hi, ← Nat.add_assoc j i 1, Nat.pow_succ, Nat.mul_assoc (BB ^ (j + i)) BB]
  have h4 : BB ^ j * (d * (val (vs.take i) + BB ^ i * vs[i]?.getD 0)) = BB ^ j * (d * val (vs.take i)) + BB ^ (j + i) * (d * vs[i]?.getD 0) := by
    rw [Nat.mul_add, Nat.mul_add, Nat.pow_add, Nat.mul_left_comm d, Nat.mul_assoc]
  rw [h4]
  rw [Nat.pow_succ, Nat.mul_assoc (BB ^ (j + i)) BB, Nat.mul_zero, Nat.add_zero] at h1
  have h5 := congrArg (fun z => BB ^ (j + i) * z) ht
  have h6 := congrArg (fun z => BB ^ (j + i) * z) h3
  simp only [Nat.mul_add] at h1 h2 h5 h6 ⊢
  omega
/-- The uppermost digit of the window. -/
theorem MS.top {us us' vs : List Nat} {j d n c lo x y b : Nat} (h : MS us us' vs j d n c lo) (hn : vs.length = n) (hu : Limb us) (hj : j + n < us'.length) (hd : d < BB) (hw : val us < BB ^ (j + 1) * val vs) (hvl : Limb vs) (hx : c + lo = x) (hb : b ≤ 1) (hy : y < BB) (he : y + x = us'[j + n]?.getD 0 + BB * b)
    (hest : val us < BB ^ j * ((d + 1) * val vs)) : DI us (us'.set (j + n) y) (val vs) j n d b := by
  have h1 := sub_step (zs := us') (i := j + n) (v := x) (b := 0) (d := y) (b' := b) hj (by omega)
  have h2 := h.eq
  rw [show vs.take n = vs by rw [← hn, List.take_length], hx] at h2
  have hlim := h.limb.set (j + n) y hy
  refine ⟨hlim, by rw [List.length_set, h.len], by rw [Nat.mul_zero, Nat.add_zero] at h1; omega, ?_, hest, hd, hb⟩
  exact high_bound hu hlim (by rw [List.length_set, h.len]) (by rw [← h.len]; omega) (fun k hk => by rw [set_ne (by omega)]; exact h.high k (by omega)) (long_bound hvl hn hw)

/-- Where the giving back stands. -/
structure AS (us us' vs : List Nat) (j i c : Nat) : Prop where
  limb : Limb us'
  len : us'.length = us.length
  high : ∀ k, j + i ≤ k → us'[k]?.getD 0 = us[k]?.getD 0
  cl : c ≤ 1
  eq : val us' + BB ^ (j + i) * c = val us + BB ^ j * val (vs.take i)
theorem AS.start {us vs : List Nat} {j : Nat} (hu : Limb us) : AS us us vs j 0 0 := ⟨hu, rfl, fun _ _ => rfl, by omega, by simp [val]⟩
theorem AS.step {us us' vs : List Nat} {j i c t : Nat} (h : AS us us' vs j i c) (hi : i < vs.length) (hj : j + i < us'.length) (hv : Limb vs) (ht : c + us'[j + i]?.getD 0 + vs[i]?.getD 0 = t) : AS us (us'.set (j + i) (t % BB)) vs j (i + 1) (t / BB) := by
  have h0 := h.cl
  have hp := BB_pos
  have h8 := h.limb.get (j + i)
  have h9 := hv.get i
  refine ⟨h.limb.set _ _ (Nat.mod_lt _ hp), by rw [List.length_set, h.len], fun k hk => by rw [set_ne (by omega)]; exact h.high k (by omega), ?_, ?_⟩
  · have : t / BB < 2 := by rw [Nat.div_lt_iff_lt_mul hp]; omega
    omega
  · have h1 := add_step (zs := us') (i := j + i) (v := vs[i]?.getD 0) (c := c) (lo := t % BB) (hi := t / BB) hj (by have := Nat.mod_add_div t BB; omega)
    have h2 := h.eq
    rw [val_take_succ vs i hi, Nat.mul_add, ← Nat.mul_assoc, ← Nat.pow_add, ← Nat.add_assoc j i 1]
    omega
/-- One giving back is enough. -/
theorem AS.top {us u1 us' vs : List Nat} {j n d c : Nat} (h : AS u1 us' vs j n c) (hD : DI us u1 (val vs) j n d 1) (hn : vs.length = n) (hj : j + n < us'.length) (hup : BB ^ j * ((d - 1) * val vs) ≤ val us) : DI us (us'.set (j + n) ((us'[j + n]?.getD 0 + c) % BB)) (val vs) j n (d - 1) 0 := by
  have hp := BB_pos
  have h1 := add_step (zs := us') (i := j + n) (v := 0) (c := c) (lo := (us'[j + n]?.getD 0 + c) % BB) (hi := (us'[j + n]?.getD 0 + c) / BB) hj (by have := Nat.mod_add_div (us'[j + n]?.getD 0 + c) BB; omega)
  have h2 := h.eq
  rw [show vs.take n = vs by rw [← hn, List.take_length]] at h2
  have hlim := h.limb.set (j + n) ((us'[j + n]?.getD 0 + c) % BB) (Nat.mod_lt _ hp)
  have hcy : (us'[j + n]?.getD 0 + c) / BB ≤ 1 := by
    have := h.limb.get (j + n)
    have := h.cl
    have : (us'[j + n]?.getD 0 + c) / BB < 2 := by rw [Nat.div_lt_iff_lt_mul hp]; omega
    omega
  have hst := hD.step hlim (by rw [List.length_set, h.len]) (by rw [← h.len]; omega) (fun k hk => by rw [set_ne (by omega)]; exact h.high k (by omega)) hcy (by rw [Nat.mul_zero, Nat.add_zero] at h1; omega)
  rcases Nat.lt_or_ge 0 ((us'[j + n]?.getD 0 + c) / BB) with h3 | h3
  · rwa [Nat.le_antisymm hcy h3] at hst
  · rw [Nat.le_zero.1 h3] at hst
    have h4 := hst.eq
    have h5 := hst.lt
    omega
end R
end Go.Proofs.YtmjnifjohfljaaaGreatDoor
