/-
  The reference's numbers: DivMod, the long division's start.
-/
import Derived.Test.YtigpnopeacicpaaDoorTwJ16
import Derived.ArgAppend
namespace Go.Proofs.YtigpnopeacicpaaDoor
open Go.RowKit

theorem norm_s {n : Nat} (h : 1 ≤ (R.limbsOf n).length) : ∃ s, s < 32 ∧ ((bitsN n % 32 = 0 ∧ s = 0) ∨ (bitsN n % 32 ≠ 0 ∧ s = 32 - bitsN n % 32)) ∧ (R.limbsOf (n * 2 ^ s)).length = (R.limbsOf n).length ∧ R.BB ^ ((R.limbsOf n).length - 1) * 2 ^ s ≤ n * 2 ^ s := by
  have hl := R.limb_limbsOf n
  have hc := R.canon_limbsOf n
  have hv := R.val_limbsOf n
  generalize R.limbsOf n = ys at *
  obtain ⟨k, hk⟩ : ∃ k, ys.length = k + 1 := ⟨ys.length - 1, by omega⟩
  have ht : ys[k]?.getD 0 ≠ 0 := by
    have h := hc (by omega)
    rw [List.getElem?_eq_getElem (by omega)]
    simpa [hk] using h
  have hb := rbits_top hl hk ht
  rw [hv] at hb
  have hx := hl.get k
  have htop : ∀ s, ys[k]?.getD 0 * 2 ^ s < R.BB → (R.limbsOf (n * 2 ^ s)).length = ys.length ∧ R.BB ^ (ys.length - 1) * 2 ^ s ≤ n * 2 ^ s := by
    intro s hs
    have h1 := R.long_top (s := s) hl (n := k + 1) (by omega) hk ht hs
    rw [hv] at h1
    rw [hk]
    exact h1
  generalize ys[k]?.getD 0 = t at *
  have hL := (Nat.log2_eq_iff (k := Nat.log2 t) ht).1 rfl
  have e : bitsN t = Nat.log2 t + 1 := by unfold bitsN; rw [if_neg ht]
  have hl32 : Nat.log2 t < 32 := by
    rw [R.BB_pow] at hx
    exact (Nat.log2_lt ht).2 hx
  have hs : t * 2 ^ (31 - Nat.log2 t) < R.BB := by
    have h1 : t * 2 ^ (31 - Nat.log2 t) < 2 ^ (Nat.log2 t + 1) * 2 ^ (31 - Nat.log2 t) := Nat.mul_lt_mul_of_pos_right hL.2 (Nat.pow_pos (by omega))
    rw [← Nat.pow_add, show Nat.log2 t + 1 + (31 - Nat.log2 t) = 32 by omega, ← R.BB_pow] at h1
    exact h1
  have h3 := htop _ hs
  refine ⟨31 - Nat.log2 t, by omega, ?_, h3.1, h3.2⟩
  by_cases h0 : Nat.log2 t = 31
  · left; omega
  · right; omega

set_option maxRecDepth 100000 in
theorem run_append_full (T : TypeId) (hT : Tryd.prog.underlying T = some (.slice 90)) (w : World) (ty : TypeId) (A : Option Addr) (xs : List Nat) (n : Nat) (hn : n = xs.length) (hA : A = none → n = 0) (hr : LRead w A xs) (hl : (n : Int) ≤ 15000000) (g m : Nat) (zs : List Nat) (hm : m = zs.length) (hm0 : 0 < zs.length) (hb : Blk w g 90 (limbV zs)) (hml : (m : Int) ≤ 1000000) :
    ∃ g' c w', (Builtin.append_ #[T, T] ty #[.slice A n n, .slice (some ⟨g, 0, none⟩) m m]).run Tryd.prog w = .ok (.slice (some ⟨g', 0, none⟩) (n + m) c) w' ∧ LimbsAt w' (.slice (some ⟨g', 0, none⟩) (n + m) c) (xs ++ zs) ∧ w.heap.size ≤ g' ∧ Only [] w w' := by
  subst hn hm
  obtain ⟨i0, hi, hz0, hz1, hz2⟩ := u64_parts
  have hsum : ∃ v' w', (Builtin.append_ #[T, T] ty #[.slice A xs.length xs.length, .slice (some ⟨g, 0, none⟩) zs.length zs.length]).run Tryd.prog w = .ok v' w' ∧ w'.ownsRow w.heap.size 90 1 v' (xs.length + zs.length) (limbV xs ++ limbV zs) ∧ w.grownBy w' none := by
    cases A with
    | none =>
      have h0 := hA rfl
      have hxs : xs = [] := List.eq_nil_of_length_eq_zero h0
      subst hxs
      obtain ⟨v', w', h1, h2, h3, _⟩ := run_append_own_at (P := Tryd.prog) w w.heap.size T ty 90 i0 _ 1 8 hT hi hz0 hz1 hz2 rfl (by decide) (.slice none 0 0) 0 [] (World.ownsRow_nil _ _ _ _) ⟨g, 0, none⟩ zs.length zs.length (limbV zs) (by simp [limbV]) (fun j v hj => by rw [addr_plus, hb.cell, Nat.zero_add]; exact hj) (by simp [limbV, Value.oneCell']) (by simp only [maxLen]; omega) (by omega) (Nat.le_refl _)
      exact ⟨v', w', h1, by simpa [limbV] using h2, by simpa [Value.ownBlock] using h3⟩
    | some b =>
      exact run_append_arg_grows (P := Tryd.prog) w T ty 90 i0 _ 1 8 hT hi hz0 hz1 hz2 rfl (by decide) b xs.length xs.length (limbV xs) (by simp [limbV]) (fun j u hu => by
        have hjl : j < xs.length := by
          have := (List.getElem?_eq_some_iff.1 hu).1
          rwa [limbV_len] at this
        rw [limbV_get _ _ hjl] at hu
        obtain ⟨b', o', e, hc⟩ := hr j hjl
        injection e with e
        subst e
        rw [addr_plus, hc, hu]) ⟨g, 0, none⟩ zs.length zs.length (limbV zs) (by simp [limbV]) (fun j v hj => by rw [addr_plus, hb.cell, Nat.zero_add]; exact hj) (by omega) (by simp only [maxLen]; omega) (by omega)
  obtain ⟨v', w', h1, h2, h3⟩ := hsum
  rcases h2.2 with ⟨_, h0⟩ | ⟨gp, cap, cur, hv, hg, _⟩
  · exact absurd h0 (by omega)
  · subst hv
    refine ⟨gp, cap, w', h1, ?_, hg, Only.of_grown h3 (by simp)⟩
    have e : limbV (xs ++ zs) = limbV xs ++ limbV zs := by simp [limbV]
    show World.ownsRow _ _ _ _ _ _ _
    rw [e, List.length_append]
    refine ⟨h2.1, ?_⟩
    rcases h2.2 with h4 | ⟨g2, c2, cu2, k1, _, k3⟩
    · exact .inl h4
    · exact .inr ⟨g2, c2, cu2, k1, Nat.zero_le _, k3⟩
theorem rlong_start {m n s k1 L : Nat} {us0 : List Nat} (hk : (R.limbsOf (m * 2 ^ s)).length = k1) (_ : (R.limbsOf n).length = L) (h1 : 1 ≤ L) (hLk : L ≤ k1) (hu : us0 = R.limbsOf (m * 2 ^ s) ++ [0]) (hV : R.BB ^ (L - 1) * 2 ^ s ≤ n * 2 ^ s) : R.LI us0 (List.replicate (k1 + 1 - L) 0) (m * 2 ^ s) (n * 2 ^ s) (k1 + 1 - L) := by
  subst hu
  have e : R.val (R.limbsOf (m * 2 ^ s) ++ [0]) = m * 2 ^ s := by rw [R.val_snoc, R.val_limbsOf]; simp
  refine ⟨(R.limb_limbsOf _).append (R.limb_one R.BB_pos), R.Limb.zeros _, ?_, ?_⟩
  · rw [e, List.drop_of_length_le (by simp)]
    simp [R.val]
  · rw [e]
    have h3 := R.val_lt (R.limb_limbsOf (m * 2 ^ s))
    rw [R.val_limbsOf, hk] at h3
    have h4 := Nat.mul_le_mul_left (R.BB ^ (k1 + 1 - L)) hV
    rw [← Nat.mul_assoc, ← Nat.pow_add, show k1 + 1 - L + (L - 1) = k1 by omega] at h4
    have h5 : R.BB ^ k1 * 1 ≤ R.BB ^ k1 * 2 ^ s := Nat.mul_le_mul_left _ (Nat.pow_pos (by omega))
    omega
end Go.Proofs.YtigpnopeacicpaaDoor
