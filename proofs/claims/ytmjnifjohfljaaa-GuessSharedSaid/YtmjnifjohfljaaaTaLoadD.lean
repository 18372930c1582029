/-
  What Load makes of nodes: the plain law.
-/
import Derived.Test.YtmjnifjohfljaaaTaLoadA
namespace Go.Proofs.Ytmjnifjohfljaaa
open Go.RowKit

/-- A node whose operands are what the nodes before it have become. -/
def reNd (ids : List Int) (n : Nd) : Nd := ⟨n.k, n.f, if n.k = 0 then n.a else ids[n.a.toNat]?.getD 0, if n.k = 0 ∨ n.k = 5 then n.b else ids[n.b.toNat]?.getD 0⟩
def ldStep (r : Option Nat) (q : List Nd × List Int) (n : Nd) : List Nd × List Int := (putNs r q.1 (reNd q.2 n), q.2 ++ [putId r q.1 (reNd q.2 n)])
def ld (r : Option Nat) (L : List Nd) : List Nd × List Int := L.foldl (ldStep r) ([], [])
theorem ld_snoc (r : Option Nat) (L : List Nd) (n : Nd) : ld r (L ++ [n]) = ldStep r (ld r L) n := by simp [ld]
theorem ld_take (r : Option Nat) (L : List Nd) {k : Nat} (hk : k < L.length) : ld r (L.take (k + 1)) = ldStep r (ld r (L.take k)) (L[k]?.getD nd0) := by
  rw [List.take_succ_eq_append_getElem hk, ld_snoc]
  simp [hk]
/-- What holds of a part that has been loaded. -/
structure LdOk (q : List Nd × List Int) (k : Nat) : Prop where
  ids : q.2.length = k
  ns : q.1.length ≤ k
  at_ : ∀ j, j < k → 0 ≤ q.2[j]?.getD 0 ∧ q.2[j]?.getD 0 < q.1.length

theorem reNd_takes {q : List Nd × List Int} {k : Nat} (h : LdOk q k) (hk : k ≤ 1000) {n : Nd} (hn : takesB k n.k n.f n.a n.b = true) :
    takesB q.1.length (reNd q.2 n).k (reNd q.2 n).f (reNd q.2 n).a (reNd q.2 n).b = true := by
  obtain ⟨nk, nf, na, nb⟩ := n
  have hl := h.ns
  simp only at hn
  have hfine := fine_of _ _ _ _ _ hn
  unfold Fine at hfine
  rcases hfine with ⟨hv, h0, hf⟩ | ⟨hv, h5, ha⟩ | ⟨hv, h0, h5, ha, hb⟩
  · subst h0
    simp [reNd, takesB, hv, hf]
  · subst h5
    simp only [validB, decide_eq_true_eq] at hv
    have hb : nb = 0 := by
      rcases hv with h | h
      · omega
      · exact h.2.2.1 trivial
    subst hb
    obtain ⟨g1, g2⟩ := h.at_ na.toNat (by omega)
    simp only [reNd, takesB, validB, hasB]
    simp
    omega
  · simp only [validB, decide_eq_true_eq] at hv
    obtain ⟨g1, g2⟩ := h.at_ na.toNat (by omega)
    obtain ⟨g3, g4⟩ := h.at_ nb.toNat (by omega)
    simp only [reNd, takesB, validB, hasB, h0, h5, if_false, or_self]
    simp
    omega
theorem ldStep_ok (r : Option Nat) {q : List Nd × List Int} {k : Nat} (h : LdOk q k) (hk : k ≤ 1000) {n : Nd} (hn : takesB k n.k n.f n.a n.b = true) : LdOk (ldStep r q n) (k + 1) := by
  have ht := reNd_takes h hk hn
  have hle := putNs_le r q.1 (reNd q.2 n)
  have h1 := h.ids
  have h2 := h.ns
  have hmono : q.1.length ≤ (putNs r q.1 (reNd q.2 n)).length := by
    unfold putNs
    rw [if_pos ht]
    split <;> simp
  have hid : 0 ≤ putId r q.1 (reNd q.2 n) ∧ putId r q.1 (reNd q.2 n) < (putNs r q.1 (reNd q.2 n)).length := by
    unfold putNs putId
    rw [if_pos ht, if_pos ht]
    by_cases hm : r ≠ none ∧ reNd q.2 n ∈ q.1
    · rw [if_pos hm, if_pos hm]
      have := List.idxOf_lt_length_iff.2 hm.2
      omega
    · rw [if_neg hm, if_neg hm]
      simp
      omega
  refine ⟨by simp [ldStep, h1], by simp only [ldStep]; omega, fun j hj => ?_⟩
  simp only [ldStep]
  by_cases e : j = k
  · subst e
    rw [List.getElem?_append_right (by omega), h1]
    simpa using hid
  · rw [List.getElem?_append_left (by omega)]
    have := h.at_ j (by omega)
    omega
theorem ld_ok (r : Option Nat) {L : List Nd} (hL : L.length ≤ 1000) (hok : AllOk L) : ∀ k, k ≤ L.length → LdOk (ld r (L.take k)) k
  | 0, _ => ⟨rfl, by simp [ld], fun j hj => by omega⟩
  | k + 1, hk => by
    rw [ld_take r L (by omega)]
    exact ldStep_ok r (ld_ok r hL hok k (by omega)) (by omega) (hok k (by omega))
end Go.Proofs.Ytmjnifjohfljaaa
