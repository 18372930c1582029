/-
  takes, New, Put: what each does to a dag.
-/
import Derived.Test.YtmjnifjohfljaaaTaDagB
import Derived.Test.YtmjnifjohfljaaaTaDagM
namespace Go.Proofs.Ytmjnifjohfljaaa
open Go.RowKit

theorem box_cells {w w' : World} {S : List Nat} {g : Nat} {t : TypeId} {x0 x1 x2 x3 : Value} (h : Blk w g t [x0, x1, x2, x3]) (ho : Only S w w') (hn : g ∉ S) :
    w'.cell? ⟨g, 0, none⟩ = some x0 ∧ w'.cell? ⟨g, 1, none⟩ = some x1 ∧ w'.cell? ⟨g, 2, none⟩ = some x2 ∧ w'.cell? ⟨g, 3, none⟩ = some x3 := by
  have hb := h.only ho hn
  exact ⟨hb.cell 0, hb.cell 1, hb.cell 2, hb.cell 3⟩

set_option maxHeartbeats 800000 in
theorem takes_any (d : Nat) (A : Option Addr) (n c : Nat) (k : Int) (f : Nat) (a b : Int) (w : World) (hf : Hid (f < 2 ^ 64)) (h0 : w.cell? ⟨d, 0, none⟩ = some (.slice A n c)) :
    Calls Try.prog 37 #[.pointer (some ⟨d, 0, none⟩), .agg #[.int .i64 k, .float .f64 f, .int .i64 a, .int .i64 b]] w fun e w' => e = .returned (.bool (takesB n k f a b)) ∧ Only [] w w' := by
  go_enter Try.func37, Try.ntmps37
  go_wp2_with fail
  refine (cvalid_any k f a b _).mono ?_
  rintro e w1 ⟨rfl, ho⟩
  obtain ⟨k0, k1, k2, k3⟩ := box_cells (Blk.new w 26 [.int .i64 k, .float .f64 f, .int .i64 a, .int .i64 b]) ho (by simp)
  have c0 := (ho.cell (p := ⟨d, 0, none⟩) ((((Only.refl [] w).alloc (.cells #[.int .i64 k, .float .f64 f, .int .i64 a, .int .i64 b] 26))).cell h0 (by simp)) (by simp))
  have ho' : Hid (Only [] w w1) := ((Only.refl [] w).alloc _).nil_trans ho
  clear ho h0
  cases hv : validB k f a b
  · go_wp2_with fail
    go_ret
    exact ⟨by simp [takesB, hv], ho'.out⟩
  · by_cases hk0 : k = 0
    · subst hk0
      go_wp2_with (go_at_call 14; (with_reducible refine (finite_any f hf.out _).mono ?_); rintro e w' ⟨rfl, rfl⟩)
      go_ret
      exact ⟨by simp [takesB, hv], ho'.out⟩
    · by_cases hk5 : k = 5
      · subst hk5
        go_wp2_with (go_at_call 27; (with_reducible refine (has_any d A n c _ _ c0).mono ?_); rintro e w' ⟨rfl, rfl⟩)
        go_ret
        exact ⟨by simp [takesB, hv], ho'.out⟩
      · have e0 : (k == 0) = false := by simpa using hk0
        have e5 : (k == 5) = false := by simpa using hk5
        go_wp2_with (go_at_call 27; (with_reducible refine (has_any d A n c _ _ c0).mono ?_); rintro e w' ⟨rfl, rfl⟩)
        all_goals go_ret
        all_goals (refine ⟨?_, ho'.out⟩)
        all_goals (simp_all [takesB])

set_option maxHeartbeats 800000 in
theorem new_any (same : Bool) (w : World) :
    Calls Try.prog 20 #[.bool same] w fun e w' => ∃ r, e = .returned (.pointer (some ⟨w.heap.size, 0, none⟩)) ∧ DagIs w' w.heap.size (.slice none 0 0) r [] ∧ (r = none ↔ same = false) ∧
      (∀ m, r = some m → w.heap.size ≤ m) ∧ Only [] w w' := by
  have hmm := @run_makeMap Try.prog
  cases same
  · go_enter Try.func20, Try.ntmps20
    go_wp2
    go_ret
    refine ⟨none, rfl, ⟨Blk.new w 69 [.slice none 0 0, .map none], World.ownsRow_nil _ 0 26 4, by simp, by simp⟩, by simp, by simp, (Only.refl [] w).alloc _⟩
  · go_enter Try.func20, Try.ntmps20
    go_wp2
    go_ret
    refine ⟨some (w.heap.size + 1), rfl, ⟨(Blk.new w 69 [.slice none 0 0, .map (some (w.heap.size + 1))]).alloc _, World.ownsRow_nil _ 0 26 4, ?_, by simp⟩, by simp, by simp, ((Only.refl [] w).alloc _).alloc _⟩
    intro m hm
    obtain rfl : w.heap.size + 1 = m := by simpa using hm
    refine ⟨#[], 0, ?_, rfl⟩
    have := heap_alloc_new (w.alloc (.cells #[.slice none 0 0, .map (some (w.heap.size + 1))] 69)) (.map #[] 0)
    simpa using this
end Go.Proofs.Ytmjnifjohfljaaa
