/-
  WalkTells: plain words: who is reached from several; the depths in a row.
-/
import Derived.Test.YtljeaomdcednlaaTaRRoo
import Derived.Test.YtljeaomdcednlaaTaUses
import Derived.Test.YtljeaomdcednlaaTaOrdT
namespace Go.Proofs.Ytljeaomdcednlaa
open Go.RowKit

open Classical in
/-- Who is made use of by the first k of the roots. -/
noncomputable def inB (ns : List Nd) (rs : List Int) (k j : Nat) : Bool := decide (∃ i, i < k ∧ (j : Int) ∈ belowOf ns (rs[i]?.getD 0))
theorem inB_zero (ns : List Nd) (rs : List Int) : inB ns rs 0 = fun _ => false := by
  funext j
  unfold inB
  simp
open Classical in
theorem inB_next (ns : List Nd) (rs : List Int) (k j : Nat) : inB ns rs (k + 1) j = (inB ns rs k j || decide ((j : Int) ∈ belowOf ns (rs[k]?.getD 0))) := by
  unfold inB
  rw [Bool.eq_iff_iff, Bool.or_eq_true, decide_eq_true_iff, decide_eq_true_iff, decide_eq_true_iff]
  constructor
  · rintro ⟨i, hi, h⟩
    by_cases e : i = k
    · subst e; exact .inr h
    · exact .inl ⟨i, by omega, h⟩
  · rintro (⟨i, hi, h⟩ | h)
    · exact ⟨i, by omega, h⟩
    · exact ⟨k, by omega, h⟩
theorem reach_one {ns : List Nd} {rs : List Int} {x : Int} (h : Reach ns (· ∈ rs) x) : ∃ i, i < rs.length ∧ Reach ns (· ∈ [rs[i]?.getD 0]) x := by
  induction h with
  | root x h h0 h1 =>
    obtain ⟨i, hi, rfl⟩ := List.getElem_of_mem h
    refine ⟨i, hi, .root _ ?_ h0 h1⟩
    simp [hi]
  | kid x c _ hc ih =>
    obtain ⟨i, hi, h⟩ := ih
    exact ⟨i, hi, .kid _ _ h hc⟩
open Classical in
theorem marked_in {ns : List Nd} (ok : OkDag ns) (rs : List Int) : marked (inB ns rs rs.length) ns.length = belowL ns (· ∈ rs) := by
  unfold marked belowL
  congr 1
  apply List.filter_congr
  intro j _
  unfold inB
  rw [Bool.eq_iff_iff, decide_eq_true_iff, decide_eq_true_iff]
  constructor
  · rintro ⟨i, hi, h⟩
    have h1 := (mem_belowL ok).1 h
    refine h1.mono fun y hy => ?_
    have e : y = rs[i] := by simpa [hi] using hy
    rw [e]
    exact List.getElem_mem hi
  · intro h
    obtain ⟨i, hi, h1⟩ := reach_one h
    exact ⟨i, hi, (mem_belowL ok).2 h1⟩
/-- The depths of those in P, at their places. -/
def deepL (ns : List Nd) (P : List Int) (n : Nat) : List Int := (List.range n).map fun (j : Nat) => if (j : Int) ∈ P then dep ns j else 0
theorem deepL_len (ns : List Nd) (P : List Int) (n : Nat) : (deepL ns P n).length = n := by simp [deepL]
theorem deepL_get (ns : List Nd) (P : List Int) (n j : Nat) (h : j < n) : (deepL ns P n)[j]?.getD 0 = if (j : Int) ∈ P then dep ns j else 0 := by simp [deepL, h]
theorem deepL_nil (ns : List Nd) (n : Nat) : deepL ns [] n = List.replicate n 0 := by
  apply List.ext_getElem
  · simp [deepL]
  · intro i h1 h2
    simp [deepL]
theorem deepL_set (ns : List Nd) (P P' : List Int) (n a : Nat) (hP : ∀ y, y ∈ P' ↔ y ∈ P ∨ y = (a : Int)) : (deepL ns P n).set a (dep ns a) = deepL ns P' n := by
  apply List.ext_getElem
  · simp [deepL]
  · intro i h1 h2
    simp only [deepL, List.getElem_set, List.getElem_map, List.getElem_range]
    by_cases e : a = i
    · subst e
      rw [if_pos rfl, if_pos ((hP _).2 (.inr rfl))]
    · rw [if_neg e]
      by_cases h : (i : Int) ∈ P
      · rw [if_pos h, if_pos ((hP _).2 (.inl h))]
      · rw [if_neg h, if_neg (fun h2 => by
          rcases (hP _).1 h2 with h3 | h3
          · exact h h3
          · omega)]
theorem deepL_leaf (ns : List Nd) (P P' : List Int) (n a : Nat) (hP : ∀ y, y ∈ P' ↔ y ∈ P ∨ y = (a : Int)) (h0 : dep ns a = 0) : deepL ns P n = deepL ns P' n := by
  unfold deepL
  apply List.map_congr_left
  intro j _
  by_cases h : (j : Int) ∈ P
  · rw [if_pos h, if_pos ((hP _).2 (.inl h))]
  · rw [if_neg h]
    split
    · rename_i h2
      rcases (hP _).1 h2 with h3 | h3
      · exact absurd h3 h
      · rw [h3, h0]
    · rfl
theorem dep_kids {ns : List Nd} (ok : OkDag ns) {x : Int} (h0 : 0 ≤ x) (h1 : x < ns.length) : (kids (nodeAt ns x) = [] → dep ns x = 0) ∧ (∀ a, kids (nodeAt ns x) = [a] → dep ns x = dep ns a + 1) ∧ ∀ a b, kids (nodeAt ns x) = [a, b] → dep ns x = max (dep ns a) (dep ns b) + 1 := by
  have e := dep_eq ok h0 h1
  refine ⟨fun h => ?_, fun a h => ?_, fun a b h => ?_⟩
  · rw [e, h]; rfl
  · have ha := ok x h0 h1 a (by rw [h]; simp)
    have hd := (dep_bd (ns := ns) a ha.1 (by omega)).1
    rw [e, h]
    simp only [List.foldl_cons, List.foldl_nil]
    omega
  · have ha := ok x h0 h1 a (by rw [h]; simp)
    have hb := ok x h0 h1 b (by rw [h]; simp)
    have hd := (dep_bd (ns := ns) a ha.1 (by omega)).1
    have hd' := (dep_bd (ns := ns) b hb.1 (by omega)).1
    rw [e, h]
    simp only [List.foldl_cons, List.foldl_nil]
    omega
set_option maxRecDepth 100000 in
/-- make([]int, n). -/
theorem make_intsF (w : World) (n : Nat) (z : Int) (hz : (n : Int) = z) (hn : (n : Int) ≤ 16000000) : ∃ w', (Instr.makeSlice 22 (.int .i64 z) (.int .i64 z)).run Try.prog w = .ok (.slice (some ⟨w.heap.size, 0, none⟩) n n) w' ∧
    Blk w' w.heap.size 3 (ints (List.replicate n 0)) ∧ Only [] w w' := by
  subst hz
  obtain ⟨i0, hi, hz0, hz1, hz2⟩ := int_parts
  obtain ⟨w', hr, ho, hg⟩ := run_make_full (P := Try.prog) w 0 22 3 i0 _ 1 Try.underlying22 hi hz0 hz1 .i64 .i64 n (by rw [hz2]; omega) (by simp only [maxLen]; omega) (Nat.zero_le _)
  refine ⟨w', hr, ?_, Only.of_grown hg (by simp)⟩
  rcases ho.2 with ⟨h0, _⟩ | ⟨g, cap, cur, e, _, hb, _, _, hs, ht⟩
  · cases h0
  · injection e with e1 e2 e3
    injection e1 with e1
    injection e1 with e1 _ _
    subst e1 e3
    unfold Blk
    rw [hb]
    congr 2
    apply Array.ext'
    rw [← List.take_of_length_le (l := cur.toList) (i := n * 1) (by simp [hs]), ht]
    have e : (Value.int IntKind.i64 0).cells = #[.int .i64 0] := rfl
    simp only [madeCells, e, ints]
    simp [Nat.mod_one]
    apply List.ext_getElem <;> simp
end Go.Proofs.Ytljeaomdcednlaa
