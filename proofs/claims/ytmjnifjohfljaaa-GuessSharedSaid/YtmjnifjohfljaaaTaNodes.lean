/-
  Nodes in memory: four cells each, slices of them; what Put makes of nodes.
-/
import Derived.Test.YtmjnifjohfljaaaTaDagT
namespace Go.Proofs.Ytmjnifjohfljaaa
open Go.RowKit

/-- Four cells that hold a node. -/
def Cells4 (w : World) (b o : Nat) (n : Nd) : Prop :=
  w.cell? ⟨b, o, none⟩ = some (.int .i64 n.k) ∧ w.cell? ⟨b, o + 1, none⟩ = some (.float .f64 n.f) ∧ w.cell? ⟨b, o + 2, none⟩ = some (.int .i64 n.a) ∧ w.cell? ⟨b, o + 3, none⟩ = some (.int .i64 n.b)
theorem Cells4.only {w w' : World} {b o : Nat} {n : Nd} {S : List Nat} (h : Cells4 w b o n) (ho : Only S w w') (hn : b ∉ S) : Cells4 w' b o n :=
  ⟨ho.cell h.1 hn, ho.cell h.2.1 hn, ho.cell h.2.2.1 hn, ho.cell h.2.2.2 hn⟩

def nd0 : Nd := ⟨0, 0, 0, 0⟩

theorem flat_get : ∀ (ns : List Nd) (k j : Nat), k < ns.length → j < 4 → (flat ns)[k * 4 + j]? = ((ns[k]?.getD nd0).cells)[j]?
  | [], k, j, h, _ => by simp at h
  | n :: r, 0, j, _, hj => by
    have e : flat (n :: r) = n.cells ++ flat r := rfl
    rw [e, Nat.zero_mul, Nat.zero_add, List.getElem?_append_left (by simpa [Nd.cells] using hj)]
    rfl
  | n :: r, k + 1, j, h, hj => by
    have e : flat (n :: r) = n.cells ++ flat r := rfl
    have hl : n.cells.length = 4 := rfl
    rw [e, List.getElem?_append_right (by omega), hl, show (k + 1) * 4 + j - 4 = k * 4 + j by omega, flat_get r k j (by simpa using h) hj]
    simp

theorem NodesAt.shape {w : World} {u : Value} {ns : List Nd} (h : NodesAt w u ns) : ∃ A c, u = .slice A ns.length c ∧ ns.length ≤ c ∧ c ≤ maxLen ∧
    (∀ k, k < ns.length → ∃ g, A = some ⟨g, 0, none⟩ ∧ Cells4 w g (k * 4) (ns[k]?.getD nd0)) := by
  rcases h.2 with ⟨rfl, h0⟩ | ⟨g, cap, cur, rfl, _, hg, hn, hm, _⟩
  · refine ⟨none, 0, by rw [h0], by omega, by simp [maxLen], fun k hk => by omega⟩
  · refine ⟨_, cap, rfl, hn, hm, fun k hk => ⟨g, rfl, ?_⟩⟩
    have hc := World.ownsRow.cells h (g := g) rfl
    have at_ : ∀ j v, j < 4 → ((ns[k]?.getD nd0).cells)[j]? = some v → w.cell? ⟨g, k * 4 + j, none⟩ = some v := by
      intro j v hj hv
      have h1 := hc (k * 4 + j) v (by rw [flat_get ns k j hk hj, hv])
      have h2 : (⟨g, 0, none⟩ : Addr).add (k * 4 + j) = ⟨g, k * 4 + j, none⟩ := by unfold Addr.add; split <;> simp_all
      rwa [h2] at h1
    exact ⟨at_ 0 _ (by omega) rfl, at_ 1 _ (by omega) rfl, at_ 2 _ (by omega) rfl, at_ 3 _ (by omega) rfl⟩

theorem NodesAt.only {w w' : World} {u : Value} {ns : List Nd} {S : List Nat} (h : NodesAt w u ns) (ho : Only S w w') (hn : ∀ g, u.ownBlock = some g → g ∉ S) : NodesAt w' u ns := ownsRow_only h ho hn

def Fine (len : Nat) (k : Int) (f : Nat) (a b : Int) : Prop :=
  (validB k f a b = true ∧ k = 0 ∧ finB f = true) ∨ (validB k f a b = true ∧ k = 5 ∧ ¬ (len : Int) ≤ a) ∨ (validB k f a b = true ∧ k ≠ 0 ∧ k ≠ 5 ∧ ¬ (len : Int) ≤ a ∧ ¬ (len : Int) ≤ b)
theorem fine_of (len : Nat) (k : Int) (f : Nat) (a b : Int) (h : takesB len k f a b = true) : Fine len k f a b := by
  unfold takesB at h
  unfold Fine
  simp only [Bool.and_eq_true] at h
  obtain ⟨hv, h⟩ := h
  simp only [hv, true_and]
  by_cases h0 : k = 0
  · rw [if_pos h0] at h
    exact .inl ⟨h0, h⟩
  · rw [if_neg h0] at h
    right
    by_cases h5 : k = 5
    · rw [if_pos h5] at h
      left
      simp [hasB] at h
      exact ⟨h5, by omega⟩
    · rw [if_neg h5] at h
      right
      simp [hasB] at h
      exact ⟨h0, h5, by omega, by omega⟩

end Go.Proofs.Ytmjnifjohfljaaa
