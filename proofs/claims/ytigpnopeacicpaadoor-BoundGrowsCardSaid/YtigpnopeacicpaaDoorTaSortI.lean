/-
  A row of ints of the call's own, sorted.
-/
import Derived.Test.YtigpnopeacicpaaDoorTaShelf
import Derived.Test.YtigpnopeacicpaaDoorTaGLd
namespace Go.Proofs.YtigpnopeacicpaaDoor
open Go.RowKit Go.Sort

theorem putCells_take (Z : List Int) (cur : Array Value) (h : Z.length ≤ cur.size) : (putCells (Value.int .i64) 0 Z.toArray cur).toList.take Z.length = ints Z := by
  apply List.ext_getElem?
  intro k
  by_cases hk : k < Z.length
  · rw [List.getElem?_take_of_lt hk, Array.getElem?_toList, putCells, Array.getElem?_mapIdx, Array.getElem?_eq_getElem (by omega)]
    simp only [Option.map_some, ints, List.getElem?_map, List.getElem?_eq_getElem hk, Nat.zero_le, true_and, List.size_toArray, Nat.zero_add, if_pos hk, Nat.sub_zero]
    rw [getElem!_pos _ k (by simpa using hk)]
    simp
  · rw [List.getElem?_take_eq_none (by omega), List.getElem?_eq_none (by simp [ints]; omega)]

theorem sort_row {w : World} {g c : Nat} {F Z : List Int} (h : IntsAt w (.slice (some ⟨g, 0, none⟩) F.length c) F) (hl : Z.length = F.length) (n : Nat) (os : Array Obj) :
    IntsAt (grow (putRow (Value.int .i64) (Sort.ahead w n) g 0 Z.toArray) os) (.slice (some ⟨g, 0, none⟩) Z.length c) Z ∧ Only [g] w (grow (putRow (Value.int .i64) (Sort.ahead w n) g 0 Z.toArray) os) := by
  rcases h.2 with ⟨h0, _⟩ | ⟨g', cap, cur, he, hb, hg, h1, h2, h3, h4⟩
  · cases h0
  · injection he with e1 e2 e3
    injection e1 with e1
    injection e1 with e1 _ _
    subst e1 e3
    have hlt := lt_of_heap hg
    refine ⟨⟨by simp [ints], .inr ⟨g, c, putCells (Value.int .i64) 0 Z.toArray cur, rfl, hb, ?_, by omega, h2, by simp [putCells, h3], ?_⟩⟩, rfl, rfl, rfl, ?_, ?_⟩
    · rw [heap_grow_old _ _ (by simpa [putRow, mapBlock, Sort.ahead] using hlt)]
      simp only [putRow, mapBlock, Sort.ahead, Array.getElem?_modify, if_true, hg, Option.map_some]
      rfl
    · rw [Nat.mul_one]
      exact putCells_take Z cur (by omega)
    · simp [putRow, mapBlock, Sort.ahead]
    · intro k hk hn
      rw [heap_grow_old _ _ (by simpa [putRow, mapBlock, Sort.ahead] using hk)]
      simp only [putRow, mapBlock, Sort.ahead, Array.getElem?_modify]
      rw [if_neg (by intro e; exact hn (by simp [e]))]

/-- slices.Sort of a row of the call's own. -/
theorem sort_any (w : World) (v : Value) (F : List Int) (h : IntsAt w v F) (hl : F.length ≤ 1000000) :
    Calls Tryd.prog 76 #[v] w fun e w' => e = .returned (.tuple #[]) ∧ IntsAt w' v (F.mergeSort fun x y => decide (x ≤ y)) ∧ Only v.ownBlock.toList w w' := by
  have hlen : (F.mergeSort fun x y => decide (x ≤ y)).length = F.length := List.length_mergeSort F
  rcases h.2 with ⟨rfl, h0⟩ | ⟨g, cap, cur, rfl, hb, hg, h1, h2, h3, h4⟩
  · have e : F = [] := List.length_eq_zero_iff.1 h0
    subst e
    refine (Tryd.slices_Sort_int_none none 0 w).mono ?_
    rintro e w' ⟨he, hw⟩
    refine ⟨he, hw ▸ ?_, hw ▸ Only.refl _ _⟩
    rw [List.length_eq_zero_iff.1 (hlen.trans rfl)]
    exact h
  · have hc := World.ownsRow.cells h (g := g) rfl
    refine (Tryd.slices_Sort_int g 0 cap F w (fun j hj => ⟨?_, ?_⟩) (lt_of_heap hg) (by omega)).mono ?_
    · have hj' : j < F.length := by simpa using hj
      have h5 := hc j (.int .i64 (F[j]?.getD 0)) (by simp [ints, hj'])
      rw [addr_add] at h5
      rw [h5, getElem!_pos _ j hj]
      simp [hj']
    · simp [World.frozen?, hg]
    · rintro e w' ⟨he, n, os, hw⟩
      obtain ⟨r1, r2⟩ := sort_row (Z := F.mergeSort fun x y => decide (x ≤ y)) h hlen n os
      rw [← hw, hlen] at r1
      rw [← hw] at r2
      exact ⟨he, r1, r2⟩
end Go.Proofs.YtigpnopeacicpaaDoor
