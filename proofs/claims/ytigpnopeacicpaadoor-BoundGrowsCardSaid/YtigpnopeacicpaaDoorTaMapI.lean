/-
  A map[int]int that the call has made, as a function of its keys.
-/
import Derived.Test.YtigpnopeacicpaaDoorProg
import Derived.Test.YtigpnopeacicpaaDoorTaMem
import Derived.Maps.Own
import Derived.Maps.Views
import Derived.Maps.OwnSet
namespace Go.Proofs.YtigpnopeacicpaaDoor
open Go.RowKit Go.Maps

def Small (k : Int) : Prop := -4611686018427387904 ≤ k ∧ k ≤ 4611686018427387904
theorem Small.wf {k : Int} (h : Small k) : (Lit.int .i64 k).wf = true := by
  obtain ⟨h1, h2⟩ := h
  have e1 : IntKind.i64.min = -9223372036854775808 := by decide
  have e2 : IntKind.i64.max = 9223372036854775807 := by decide
  simp only [Lit.wf, Bool.and_eq_true, decide_eq_true_eq, e1, e2]
  omega

/-- Block b is a map of at most n entries; f k is what key k has. -/
def MapI (w : World) (b n : Nat) (f : Int → Option Int) : Prop :=
  ∃ D : DataW Unit, w.ownsMap Tryd.prog 3 (plainElem Tryd.prog 3) b n D ∧ ∀ k, Small k → Maps.has D (.int .i64 k) = (f k).isSome ∧ D.atKey (.int .i64 k) (.lit (.int .i64 0)) = .lit (.int .i64 ((f k).getD 0))
theorem zeroInt (w : World) : (zeroValue 3).run Tryd.prog w = .ok (.int .i64 0) w := by kernel_rfl
theorem MapI.lt {w : World} {b n : Nat} {f : Int → Option Int} (h : MapI w b n f) : b < w.heap.size := by
  obtain ⟨D, h1, _⟩ := h
  exact h1.lt
theorem MapI.only {w w' : World} {b n : Nat} {f : Int → Option Int} {S : List Nat} (h : MapI w b n f) (ho : Only S w w') (hb : b ∉ S) : MapI w' b n f := by
  obtain ⟨D, ⟨es, clock, h1, h2⟩, h3⟩ := h
  exact ⟨D, ⟨es, clock, ho.heap h1 hb, h2⟩, h3⟩
theorem MapI.made (w : World) : MapI (w.alloc (.map #[] 0)) w.heap.size 0 (fun _ => none) :=
  ⟨.map [], World.ownsMap_made w _ _ _, fun _ _ => ⟨rfl, rfl⟩⟩
set_option maxRecDepth 100000 in
theorem MapI.look {w : World} {b n : Nat} {f : Int → Option Int} (h : MapI w b n f) {k : Int} (hk : Small k) :
    (Instr.lookup 110 (.map (some b)) (.int .i64 k) false).run Tryd.prog w = .ok (.int .i64 ((f k).getD 0)) w := by
  obtain ⟨D, h1, h2⟩ := h
  obtain ⟨c, hr, hc, _⟩ := h1.lookup_int (q := .i64) (int_keyed Tryd.underlying3) Tryd.underlying110 Tryd.underlying3 (zeroInt w) (keyOf_int_mk Tryd.underlying3 hk.wf)
  have h3 := (h2 k hk).2
  rw [hc] at h3
  simp only [DataW.lit.injEq, Lit.int.injEq, true_and] at h3
  rw [hr, h3]
theorem MapI.store {w : World} {b n : Nat} {f : Int → Option Int} (h : MapI w b n f) (hn : n < 1000000) {k v : Int} (hk : Small k) (hv : Small v) :
    ∃ w', (Instr.mapUpdate 110 (.map (some b)) (.int .i64 k) (.int .i64 v)).run Tryd.prog w = .ok () w' ∧ MapI w' b (n + 1) (fun x => if x = k then some v else f x) ∧ Only [b] w w' := by
  obtain ⟨D, h1, h2⟩ := h
  obtain ⟨w', hr, ho, hg⟩ := h1.update (int_keyed Tryd.underlying3) Tryd.underlying110 (by simp only [maxLen]; omega) (keyOf_int_mk Tryd.underlying3 hk.wf) (plainElem_int Tryd.underlying3 hv.wf)
  refine ⟨w', hr, ⟨_, ho, fun x hx => ?_⟩, Only.of_grown hg (by simp)⟩
  show _ = (if x = k then some v else f x).isSome ∧ _ = DataW.lit (Lit.int .i64 ((if x = k then some v else f x).getD 0))
  by_cases e : x = k
  · subst e
    have hD := h1.isMap
    rw [if_pos rfl]
    exact ⟨by rw [has_put_same hD (by trivial)]; rfl, by rw [atKey_put_same hD (by trivial)]; rfl⟩
  · rw [if_neg e]
    have hne : Lit.int .i64 x ≠ Lit.int .i64 k := fun h => e (by injection h)
    exact ⟨by rw [has_put_other hne]; exact (h2 x hx).1, by rw [atKey_put_other hne]; exact (h2 x hx).2⟩
end Go.Proofs.YtigpnopeacicpaaDoor
