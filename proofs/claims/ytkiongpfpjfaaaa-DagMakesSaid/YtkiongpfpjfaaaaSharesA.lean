/-
  DagShares: the plain law: a number built twice is one where equal nodes are shared, and a copy behind the first where not.
-/
import Derived.Test.YtkiongpfpjfaaaaGrows
namespace Go.Proofs.Ytkiongpfpjfaaaa
open Go.RowKit

/-- The float64 of step x. -/
def flv (x : Int) : Nat := floatOfInt .f64 (2 + x.tmod 5)
theorem tmod_bounds (x : Int) (n : Int) (hn : 0 < n) : -n < x.tmod n ∧ x.tmod n < n := by
  refine ⟨?_, Int.tmod_lt_of_pos x hn⟩
  rcases Int.le_total 0 x with h0 | h0
  · have := Int.tmod_nonneg n h0; omega
  · have e : x.tmod n = -((-x).tmod n) := by rw [Int.neg_tmod, Int.neg_neg]
    have := Int.tmod_lt_of_pos (-x) hn
    omega
theorem flv_ok (x : Int) : flv x < 2 ^ 64 ∧ finB (flv x) = true := by
  have key : ∀ t : Int, -5 < t → t < 5 → floatOfInt .f64 (2 + t) < 2 ^ 64 ∧ finB (floatOfInt .f64 (2 + t)) = true := by
    intro t h1 h2
    have : t = -4 ∨ t = -3 ∨ t = -2 ∨ t = -1 ∨ t = 0 ∨ t = 1 ∨ t = 2 ∨ t = 3 ∨ t = 4 := by omega
    rcases this with rfl | rfl | rfl | rfl | rfl | rfl | rfl | rfl | rfl <;> decide +kernel
  exact key _ (tmod_bounds x 5 (by omega)).1 (tmod_bounds x 5 (by omega)).2

def kindOf (x : Int) : Int := (x.tmod 4 + 4).tmod 4
theorem kindOf_bounds (x : Int) : 0 ≤ kindOf x ∧ kindOf x < 4 := by
  have h := tmod_bounds x 4 (by omega)
  unfold kindOf
  exact ⟨Int.tmod_nonneg 4 (by omega), Int.tmod_lt_of_pos _ (by omega)⟩
def opNode (k id v : Int) : Nd := if k = 0 then ⟨1, 0, id, v⟩ else if k = 1 then ⟨2, 0, v, id⟩ else if k = 2 then ⟨3, 0, id, id⟩ else ⟨5, 0, id, 0⟩
def leafNode (x : Int) : Nd := ⟨0, flv x, 0, 0⟩
def step1 (r : Option Nat) (p : List Nd × Int) (x : Int) : List Nd × Int :=
  (putNs r (putNs r p.1 (leafNode x)) (opNode (kindOf x) p.2 (putId r p.1 (leafNode x))), putId r (putNs r p.1 (leafNode x)) (opNode (kindOf x) p.2 (putId r p.1 (leafNode x))))
def buildRun (r : Option Nat) (ns : List Nd) (l : List Int) : List Nd × Int := l.foldl (step1 r) (putNs r ns ndOne, putId r ns ndOne)

def takesN (n : Nat) (x : Nd) : Bool := takesB n x.k x.f x.a x.b
theorem leaf_takes (n : Nat) (x : Int) : takesN n (leafNode x) = true := by
  simp [takesN, takesB, leafNode, validB, (flv_ok x).2]
theorem op_takes (n : Nat) (k id v : Int) (hi : 0 ≤ id ∧ id < n) (hv : 0 ≤ v ∧ v < n) (hn : n ≤ 60000) : takesN n (opNode k id v) = true := by
  unfold opNode
  have h1 : id ≤ 65535 := by omega
  have h2 : v ≤ 65535 := by omega
  split
  · simp [takesN, takesB, validB, hasB]; omega
  · split
    · simp [takesN, takesB, validB, hasB]; omega
    · split
      · simp [takesN, takesB, validB, hasB]; omega
      · simp [takesN, takesB, validB, hasB]; omega

theorem put_ok (r : Option Nat) (ns : List Nd) (n : Nd) (h : takesN ns.length n = true) : 0 ≤ putId r ns n ∧ putId r ns n < (putNs r ns n).length ∧ ns <+: putNs r ns n ∧ n ∈ putNs r ns n := by
  unfold takesN at h
  unfold putId putNs
  rw [if_pos h, if_pos h]
  by_cases hc : r ≠ none ∧ n ∈ ns
  · rw [if_pos hc, if_pos hc]
    have := List.idxOf_lt_length_of_mem hc.2
    exact ⟨by omega, by omega, List.prefix_refl _, hc.2⟩
  · rw [if_neg hc, if_neg hc]
    exact ⟨by omega, by rw [List.length_append, List.length_singleton]; omega, List.prefix_append _ _, by simp⟩

/-- What a good state is: the number so far is there, and the nodes are few. -/
def Good (p : List Nd × Int) : Prop := 0 ≤ p.2 ∧ p.2 < p.1.length
theorem step1_good (r : Option Nat) (p : List Nd × Int) (x : Int) (hg : Good p) (hl : p.1.length ≤ 50000) : Good (step1 r p x) ∧ p.1 <+: (step1 r p x).1 ∧ (step1 r p x).1.length ≤ p.1.length + 2 := by
  obtain ⟨ns, id⟩ := p
  simp only [Good] at hg hl
  have h1 := put_ok r ns (leafNode x) (leaf_takes _ x)
  have e1 := putNs_le r ns (leafNode x)
  have hle := h1.2.2.1.length_le
  simp only [step1]
  have ht := op_takes (putNs r ns (leafNode x)).length (kindOf x) id (putId r ns (leafNode x)) ⟨hg.1, by omega⟩ ⟨h1.1, h1.2.1⟩ (by omega)
  have h2 := put_ok r _ _ ht
  have e2 := putNs_le r (putNs r ns (leafNode x)) (opNode (kindOf x) id (putId r ns (leafNode x)))
  exact ⟨⟨h2.1, h2.2.1⟩, h1.2.2.1.trans h2.2.2.1, by omega⟩

theorem fold_good (r : Option Nat) : ∀ (l : List Int) (p : List Nd × Int), Good p → p.1.length + 2 * l.length ≤ 50000 →
    Good (l.foldl (step1 r) p) ∧ p.1 <+: (l.foldl (step1 r) p).1 ∧ (l.foldl (step1 r) p).1.length ≤ p.1.length + 2 * l.length
  | [], p, hg, _ => ⟨hg, List.prefix_refl _, by simp⟩
  | x :: l, p, hg, hl => by
    simp only [List.length_cons] at hl ⊢
    obtain ⟨h1, h2, h3⟩ := step1_good r p x hg (by omega)
    obtain ⟨g1, g2, g3⟩ := fold_good r l (step1 r p x) h1 (by omega)
    exact ⟨g1, h2.trans g2, by simp only [List.foldl_cons]; omega⟩

theorem start_good (r : Option Nat) (ns : List Nd) : Good (putNs r ns ndOne, putId r ns ndOne) ∧ (putNs r ns ndOne).length ≤ ns.length + 1 ∧ ns <+: putNs r ns ndOne := by
  have h := put_ok r ns ndOne (takes_one _)
  exact ⟨⟨h.1, h.2.1⟩, putNs_le _ _ _, h.2.2.1⟩
theorem build_good (r : Option Nat) (ns : List Nd) (l : List Int) (hl : ns.length + 1 + 2 * l.length ≤ 50000) :
    Good (buildRun r ns l) ∧ (buildRun r ns l).1.length ≤ ns.length + 1 + 2 * l.length := by
  obtain ⟨h1, h2, _⟩ := start_good r ns
  obtain ⟨g1, _, g3⟩ := fold_good r l (putNs r ns ndOne, putId r ns ndOne) h1 (by simp only; omega)
  exact ⟨g1, by unfold buildRun; simp only at g3; omega⟩

/-! ### Not shared: every Put comes behind the others -/
theorem none_id (ns : List Nd) (n : Nd) (h : takesN ns.length n = true) : putId none ns n = ns.length ∧ (putNs none ns n).length = ns.length + 1 := by
  unfold takesN at h
  simp [putId, putNs, h]
theorem none_fold : ∀ (l : List Int) (p : List Nd × Int), Good p → p.1.length + 2 * l.length ≤ 50000 → p.2 + 1 = p.1.length →
    (l.foldl (step1 none) p).1.length = p.1.length + 2 * l.length ∧ (l.foldl (step1 none) p).2 + 1 = p.1.length + 2 * l.length
  | [], p, _, _, h => by simp; exact h
  | x :: l, p, hg, hl, _ => by
    simp only [List.length_cons] at hl
    obtain ⟨ns, id⟩ := p
    simp only [Good] at hg hl
    obtain ⟨a1, a2⟩ := none_id ns (leafNode x) (leaf_takes _ x)
    have ht := op_takes (putNs none ns (leafNode x)).length (kindOf x) id (putId none ns (leafNode x)) ⟨hg.1, by omega⟩ ⟨by omega, by omega⟩ (by omega)
    obtain ⟨b1, b2⟩ := none_id _ _ ht
    have hs := (step1_good none (ns, id) x hg (by simp only; omega)).1
    have e1 : (step1 none (ns, id) x).1.length = ns.length + 2 := by simp only [step1]; omega
    have e2 : (step1 none (ns, id) x).2 = ns.length + 1 := by simp only [step1]; omega
    obtain ⟨c1, c2⟩ := none_fold l (step1 none (ns, id) x) hs (by omega) (by omega)
    simp only [List.foldl_cons, List.length_cons]
    exact ⟨by omega, by omega⟩
theorem none_build (ns : List Nd) (l : List Int) (hl : ns.length + 1 + 2 * l.length ≤ 50000) :
    (buildRun none ns l).1.length = ns.length + 1 + 2 * l.length ∧ (buildRun none ns l).2 = ns.length + 2 * l.length := by
  obtain ⟨h1, _, _⟩ := start_good none ns
  obtain ⟨a1, a2⟩ := none_id ns ndOne (takes_one _)
  obtain ⟨c1, c2⟩ := none_fold l (putNs none ns ndOne, putId none ns ndOne) h1 (by simp only; omega) (by simp only; omega)
  simp only at c1 c2
  unfold buildRun
  exact ⟨by omega, by omega⟩

/-! ### Shared: the second time every node is there -/
theorem big_put (m : Nat) (ns G : List Nd) (n : Nd) (h : takesN ns.length n = true) (h' : takesN G.length n = true) (hp : putNs (some m) ns n <+: G) : putNs (some m) G n = G ∧ putId (some m) G n = putId (some m) ns n := by
  have ok := put_ok (some m) ns n h
  have hmem : n ∈ G := hp.subset ok.2.2.2
  unfold takesN at h h'
  refine ⟨by simp [putNs, h', hmem], ?_⟩
  have e1 : putId (some m) G n = (G.idxOf n : Int) := by simp [putId, h', hmem]
  rw [e1]
  unfold putId
  rw [if_pos h]
  by_cases hn : n ∈ ns
  · rw [if_pos ⟨by simp, hn⟩]
    obtain ⟨t, ht⟩ := ok.2.2.1.trans hp
    rw [← ht, List.idxOf_append, if_pos hn]
  · rw [if_neg (fun e => hn e.2)]
    have e2 : putNs (some m) ns n = ns ++ [n] := by simp [putNs, h, hn]
    rw [e2] at hp
    obtain ⟨t, ht⟩ := hp
    rw [← ht, List.append_assoc, List.idxOf_append, if_neg hn]
    simp

theorem big_fold (m : Nat) (G : List Nd) (hG : G.length ≤ 50000) : ∀ (l : List Int) (ns : List Nd) (id : Int), Good (ns, id) → ns.length + 2 * l.length ≤ 50000 → (l.foldl (step1 (some m)) (ns, id)).1 <+: G →
    l.foldl (step1 (some m)) (G, id) = (G, (l.foldl (step1 (some m)) (ns, id)).2)
  | [], _, _, _, _, _ => rfl
  | x :: l, ns, id, hg, hl, hp => by
    simp only [List.length_cons] at hl
    have sg := step1_good (some m) (ns, id) x hg (by simp only; omega)
    have fg := fold_good (some m) l (step1 (some m) (ns, id) x) sg.1 (by have h3 : (step1 (some m) (ns, id) x).1.length ≤ ns.length + 2 := sg.2.2; omega)
    simp only [List.foldl_cons] at hp ⊢
    have hstep : (step1 (some m) (ns, id) x).1 <+: G := fg.2.1.trans hp
    simp only [Good] at hg
    have h1 := put_ok (some m) ns (leafNode x) (leaf_takes _ x)
    have e1 := putNs_le (some m) ns (leafNode x)
    have hle := h1.2.2.1.length_le
    have ht := op_takes (putNs (some m) ns (leafNode x)).length (kindOf x) id (putId (some m) ns (leafNode x)) ⟨hg.1, by omega⟩ ⟨h1.1, h1.2.1⟩ (by omega)
    have h2 := put_ok (some m) _ _ ht
    have p1 : putNs (some m) ns (leafNode x) <+: G := h2.2.2.1.trans hstep
    have l1 := p1.length_le
    obtain ⟨a1, a2⟩ := big_put m ns G (leafNode x) (leaf_takes _ x) (leaf_takes _ x) p1
    have ht' := op_takes G.length (kindOf x) id (putId (some m) ns (leafNode x)) ⟨hg.1, by omega⟩ ⟨h1.1, by omega⟩ (by omega)
    obtain ⟨b1, b2⟩ := big_put m (putNs (some m) ns (leafNode x)) G _ ht ht' hstep
    have hs : step1 (some m) (G, id) x = (G, (step1 (some m) (ns, id) x).2) := by
      simp only [step1]
      rw [a1, a2, b1, b2]
    rw [hs]
    have h3 : (step1 (some m) (ns, id) x).1.length ≤ ns.length + 2 := sg.2.2
    have h4 : (step1 (some m) (ns, id) x).1.length + 2 * l.length ≤ 50000 := by omega
    exact big_fold m G hG l (step1 (some m) (ns, id) x).1 (step1 (some m) (ns, id) x).2 sg.1 h4 hp
theorem some_build (m : Nat) (l : List Int) (hl : 1 + 2 * l.length ≤ 50000) :
    buildRun (some m) (buildRun (some m) [] l).1 l = buildRun (some m) [] l := by
  obtain ⟨h1, h2, _⟩ := start_good (some m) []
  have hb := build_good (some m) [] l (by simp; omega)
  have fg := fold_good (some m) l (putNs (some m) [] ndOne, putId (some m) [] ndOne) h1 (by simp only; simp only [List.length_nil] at h2; omega)
  obtain ⟨a1, a2⟩ := big_put m [] (buildRun (some m) [] l).1 ndOne (takes_one _) (takes_one _) fg.2.1
  have := big_fold m (buildRun (some m) [] l).1 (by have := hb.2; simp only [List.length_nil] at this; omega) l (putNs (some m) [] ndOne) (putId (some m) [] ndOne) h1 (by simp only [List.length_nil] at h2; omega) (List.prefix_refl _)
  show l.foldl (step1 (some m)) (putNs (some m) (buildRun (some m) [] l).1 ndOne, putId (some m) (buildRun (some m) [] l).1 ndOne) = _
  rw [a1, a2, this]
  rfl
theorem buildRun_snoc (r : Option Nat) (ns : List Nd) (l : List Int) (x : Int) : buildRun r ns (l ++ [x]) = step1 r (buildRun r ns l) x := by simp [buildRun]
end Go.Proofs.Ytkiongpfpjfaaaa
