/-
  The reference's long division: what its inner loops keep (plain law).
-/
import Derived.Test.YtgiejjpemhceiaaDoorTeRDiv
namespace Go.Proofs.YtgiejjpemhceiaaDoor
namespace R

structure GS (u2 u1 u0 v1 v0 d r : Nat) : Prop where
  eq : d * v1 + r = u2 * BB + u1
  ge : (u2 * BB + u1) * BB + u0 < (d + 1) * (v1 * BB + v0) ∨ BB - 1 ≤ d
  v1l : 0 < v1
  u2l : u2 ≤ v1
  u1l : u1 < BB
  u0l : u0 < BB
  v1b : v1 < BB
  v0b : v0 < BB
theorem GS.done {u2 u1 u0 v1 v0 d r : Nat} (h : GS u2 u1 u0 v1 v0 d r) (hd : d < BB) (hl : d * v0 ≤ r * BB + u0) : EstOk u2 u1 u0 v1 v0 d ∧ d * (v1 * BB + v0) ≤ (u2 * BB + u1) * BB + u0 := by
  refine ⟨⟨hd, ?_⟩, ?_⟩
  · rcases h.ge with h1 | h1
    · exact .inr h1
    · left; omega
  · rw [← h.eq, Nat.mul_add, ← Nat.mul_assoc, Nat.add_mul]
    omega
structure MS (us us' vs : List Nat) (j d i c lo : Nat) : Prop where
  limb : Limb us'
  len : us'.length = us.length
  high : ∀ k, j + i ≤ k → us'[k]?.getD 0 = us[k]?.getD 0
  cl : c < BB
  lol : lo ≤ 1
  eq : val us' + BB ^ j * (d * val (vs.take i)) = val us + BB ^ (j + i) * (c + lo)
theorem set_ne {zs : List Nat} {i j v : Nat} (h : i ≠ j) : (zs.set i v)[j]?.getD 0 = zs[j]?.getD 0 := Go.Proofs.YtgiejjpemhceiaaDoor.set_get_ne h
theorem MS.bound {us us' vs : List Nat} {j d i c lo : Nat} (h : MS us us' vs j d i c lo) (hd : d < BB) (hv : Limb vs) : c + d * (vs[i]?.getD 0) < BB * BB := by
  have h1 := h.cl
  have h2 := Nat.mul_le_mul (show d ≤ BB - 1 by omega) (show vs[i]?.getD 0 ≤ BB - 1 by have := hv.get i; omega)
  obtain ⟨k, hk⟩ : ∃ k, BB = k + 1 := ⟨BB - 1, by omega⟩
  rw [hk] at h1 h2 ⊢
  rw [Nat.add_sub_cancel] at h2
  rw [Nat.add_mul, Nat.mul_add]
  omega
theorem MS.step {us us' vs : List Nat} {j d i c lo t y lo' : Nat} (h : MS us us' vs j d i c lo) (hi : i < vs.length) (hj : j + i < us'.length) (hd : d < BB) (hv : Limb vs) (ht : c + d * (vs[i]?.getD 0) = t) (hl : lo' ≤ 1) (hy : y < BB) (he : y + (t % BB + lo) = us'[j + i]?.getD 0 + BB * lo') :
    MS us (us'.set (j + i) y) vs j d (i + 1) (t / BB) lo' := by
  have hb := h.bound hd hv
  rw [ht] at hb
  refine ⟨h.limb.set _ _ hy, by rw [List.length_set, h.len], fun k hk => by rw [set_ne (by omega)]; exact h.high k (by omega), by rwa [Nat.div_lt_iff_lt_mul BB_pos], hl, ?_⟩
  have h1 := sub_step (zs := us') (i := j + i) (v := t % BB + lo) (b := 0) (d := y) (b' := lo') hj (by omega)
  have h2 := h.eq
  have h3 := Nat.div_add_mod t BB
  rw [val_take_succ vs i hi, ← Nat.add_assoc j i 1, Nat.pow_succ, Nat.mul_assoc (BB ^ (j + i)) BB]
  have h4 : BB ^ j * (d * (val (vs.take i) + BB ^ i * vs[i]?.getD 0)) = BB ^ j * (d * val (vs.take i)) + BB ^ (j + i) * (d * vs[i]?.getD 0) := by
    rw [Nat.mul_add, Nat.mul_add, Nat.pow_add, Nat.mul_left_comm d, Nat.mul_assoc]
  rw [h4]
  rw [Nat.pow_succ, Nat.mul_assoc (BB ^ (j + i)) BB, Nat.mul_zero, Nat.add_zero] at h1
  have h5 := congrArg (fun z => BB ^ (j + i) * z) ht
  have h6 := congrArg (fun z => BB ^ (j + i) * z) h3
  simp only [Nat.mul_add] at h1 h2 h5 h6 ⊢
  omega
structure AS (us us' vs : List Nat) (j i c : Nat) : Prop where
  limb : Limb us'
  len : us'.length = us.length
  high : ∀ k, j + i ≤ k → us'[k]?.getD 0 = us[k]?.getD 0
  cl : c ≤ 1
  eq : val us' + BB ^ (j + i) * c = val us + BB ^ j * val (vs.take i)
theorem AS.step {us us' vs : List Nat} {j i c t : Nat} (h : AS us us' vs j i c) (hi : i < vs.length) (hj : j + i < us'.length) (hv : Limb vs) (ht : c + us'[j + i]?.getD 0 + vs[i]?.getD 0 = t) : AS us (us'.set (j + i) (t % BB)) vs j (i + 1) (t / BB) := by
  have h0 := h.cl
  have hp := BB_pos
  have h8 := h.limb.get (j + i)
  have h9 := hv.get i
  refine ⟨h.limb.set _ _ (Nat.mod_lt _ hp), by rw [List.length_set, h.len], fun k hk => by rw [set_ne (by omega)]; exact h.high k (by omega), ?_, ?_⟩
  · have : t / BB < 2 := by rw [Nat.div_lt_iff_lt_mul hp]; omega
    omega
  · have h1 := add_step (zs := us') (i := j + i) (v := vs[i]?.getD 0) (c := c) (lo := t % BB) (hi := t / BB) hj (by have := Nat.mod_add_div t BB; omega)
    have h2 := h.eq
    rw [val_take_succ vs i hi, Nat.mul_add, ← Nat.mul_assoc, ← Nat.pow_add, ← Nat.add_assoc j i 1]
    omega
end R
end Go.Proofs.YtgiejjpemhceiaaDoor
