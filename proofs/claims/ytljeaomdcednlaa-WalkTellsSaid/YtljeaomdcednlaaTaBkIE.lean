/-
  The Book: put: each list is overwritten with marks of its own.
-/
import Derived.Test.YtljeaomdcednlaaTaBkIC
import Derived.Test.YtljeaomdcednlaaTaBkID
namespace Go.Proofs.Ytljeaomdcednlaa
open Go.RowKit

theorem ownsRow_set {w : World} {base n cap size g : Nat} {e : TypeId} {xs : List Value} (h : w.ownsRow base e size (.slice (some ⟨g, 0, none⟩) n cap) n xs) (i : Nat) (v : Value) : (w.setCell ⟨g, i, none⟩ v).ownsRow base e size (.slice (some ⟨g, 0, none⟩) n cap) n (xs.set i v) := by
  refine ⟨by simpa using h.1, ?_⟩
  rcases h.2 with ⟨h0, _⟩ | ⟨g', cap', cur, he, hb, hg, h1, h2, h3, h4⟩
  · cases h0
  · injection he with he _ e2
    injection he with he
    injection he with e1
    subst e1 e2
    refine .inr ⟨g, cap, cur.setIfInBounds i v, rfl, hb, ?_, h1, h2, by simpa using h3, ?_⟩
    · simp [World.setCell, Array.getElem?_modify, hg]
    · rw [Array.toList_setIfInBounds, List.take_set, h4]
theorem e_set {w : World} {g n cap : Nat} {L : List Int} (h : IntsAt w (.slice (some ⟨g, 0, none⟩) n cap) L) (hn : n = L.length) (j : Nat) (x : Int) :
    IntsAt (w.setCell ⟨g, j, none⟩ (.int .i64 x)) (.slice (some ⟨g, 0, none⟩) n cap) (L.set j x) := by
  subst hn
  have e : ints (L.set j x) = (ints L).set j (.int .i64 x) := by simp [ints, List.map_set]
  show World.ownsRow _ _ _ _ _ _ _
  rw [e, List.length_set]
  exact ownsRow_set h _ _

/-- The lists stand as F says; nothing but them has been written. -/
structure PutAt (w wr : World) (us : List Value) (F : Nat → List Int) : Prop where
  only : Only (obs us) w wr
  at_ : ∀ i, i < us.length → IntsAt wr (us[i]?.getD nilS) (F i)
theorem PutAt.nil {w wr w' : World} {us : List Value} {F : Nat → List Int} (h : PutAt w wr us F) (ho : Only [] wr w') : PutAt w w' us F := ⟨h.only.nil_trans ho, fun i hi => e_only (h.at_ i hi) ho (by simp)⟩

theorem obs_apart : ∀ {us : List Value} (_ : (obs us).Nodup) {i j : Nat} (_ : i < us.length) (_ : j < us.length) (_ : i ≠ j) {g : Nat} (_ : (us[i]?.getD nilS).ownBlock = some g), (us[j]?.getD nilS).ownBlock ≠ some g
  | [], _, i, _, hi, _, _, _, _ => by simp at hi
  | u :: r, hn, i, j, hi, hj, hij, g, hg => by
    have e : obs (u :: r) = u.ownBlock.toList ++ obs r := rfl
    rw [e, List.nodup_append] at hn
    obtain ⟨_, hr, hx⟩ := hn
    cases i with
    | zero =>
      cases j with
      | zero => exact absurd rfl hij
      | succ j =>
        intro h
        exact hx g (by simpa using hg) g (mem_obs.2 ⟨j, by simpa using hj, by simpa using h⟩) rfl
    | succ i =>
      cases j with
      | zero =>
        intro h
        exact hx g (by simpa using h) g (mem_obs.2 ⟨i, by simpa using hi, by simpa using hg⟩) rfl
      | succ j => 
        have := obs_apart hr (i := i) (j := j) (by simpa using hi) (by simpa using hj) (by omega) (g := g) (by simpa using hg)
        simpa using this

theorem PutAt.set {w wr : World} {us : List Value} {F F' : Nat → List Int} (h : PutAt w wr us F) (hnd : (obs us).Nodup) {k j g n cap : Nat} {x : Int} (hk : k < us.length) (hu : us[k]?.getD nilS = .slice (some ⟨g, 0, none⟩) n cap) (hn : n = (F k).length)
    (hF : ∀ i, F' i = if i = k then (F k).set j x else F i) :
    PutAt w (wr.setCell ⟨g, j, none⟩ (.int .i64 x)) us F' := by
  have hg : (us[k]?.getD nilS).ownBlock = some g := by rw [hu]; rfl
  have ho : Only [g] wr (wr.setCell ⟨g, j, none⟩ (.int .i64 x)) := (Only.refl [g] wr).setCell (.inl (by simp)) _
  refine ⟨h.only.trans ho (fun i hi => .inl (mem_obs.2 ⟨k, hk, ?_⟩)), fun i hi => ?_⟩
  · have e : i = g := by simpa using hi
    rw [e]
    exact hg
  · rw [hF i]
    by_cases e : i = k
    · subst e
      rw [if_pos rfl, hu]
      have h1 := h.at_ i hi
      rw [hu] at h1
      exact e_set h1 hn j x
    · rw [if_neg e]
      refine e_only (h.at_ i hi) ho (fun g' hg' hm => ?_)
      have e' : g' = g := by simpa using hm
      subst e'
      exact obs_apart hnd hk hi (fun e' => e e'.symm) hg hg'
end Go.Proofs.Ytljeaomdcednlaa
