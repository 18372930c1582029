/-
  A map from ints to values of any type that the call has made, as a function of its keys, with its exact size.
-/
import Derived.Test.YtigpnopeacicpaaDoorTaMapI
namespace Go.Proofs.YtigpnopeacicpaaDoor
open Go.RowKit Go.Maps

/-- Each value reads as itself. -/
def selfV (v : Value) : Option (DataW Value × List MemPlace) := some (.held v, [])
/-- Block b is a map of n entries; f k is what key k has. -/
def MapV (w : World) (b n : Nat) (f : Int → Option Value) : Prop :=
  ∃ D : DataW Value, w.ownsMap Tryd.prog 3 selfV b n D ∧ Maps.size D = n ∧ ∀ k, Small k → Maps.has D (.int .i64 k) = (f k).isSome ∧ ∀ z, D.atKey (.int .i64 k) (.held z) = .held ((f k).getD z)
section
variable {w w' : World} {b n : Nat} {f : Int → Option Value} {k : Int} {v z : Value} {M E : TypeId}
theorem MapV.lt (h : MapV w b n f) : b < w.heap.size := by
  obtain ⟨D, h1, _⟩ := h
  exact h1.lt
theorem MapV.only {S : List Nat} (h : MapV w b n f) (ho : Only S w w') (hb : b ∉ S) : MapV w' b n f := by
  obtain ⟨D, ⟨es, clock, h1, h2⟩, h3⟩ := h
  exact ⟨D, ⟨es, clock, ho.heap h1 hb, h2⟩, h3⟩
theorem MapV.made (w : World) : MapV (w.alloc (.map #[] 0)) w.heap.size 0 (fun _ => none) :=
  ⟨.map [], World.ownsMap_made w _ _ _, rfl, fun _ _ => ⟨rfl, fun _ => rfl⟩⟩
theorem MapV.look (h : MapV w b n f) (hM : Tryd.prog.underlying M = some (.map 3 E)) (hz : (zeroValue E).run Tryd.prog w = .ok z w) (hk : Small k) : (Instr.lookup M (.map (some b)) (.int .i64 k) false).run Tryd.prog w = .ok ((f k).getD z) w := by
  obtain ⟨D, h1, _, h2⟩ := h
  obtain ⟨v, ps, hr, hv⟩ := h1.lookup (int_keyed Tryd.underlying3) hM hz (zd := .held z) (zp := []) rfl (keyOf_int_mk Tryd.underlying3 hk.wf)
  rw [(h2 k hk).2 z] at hv
  simp only [selfV, Option.some.injEq, Prod.mk.injEq, DataW.held.injEq] at hv
  rw [hr, hv.1]
theorem MapV.look_ok (h : MapV w b n f) (hM : Tryd.prog.underlying M = some (.map 3 E)) (hz : (zeroValue E).run Tryd.prog w = .ok z w) (hk : Small k) : (Instr.lookup M (.map (some b)) (.int .i64 k) true).run Tryd.prog w = .ok (.tuple #[(f k).getD z, .bool (f k).isSome]) w := by
  obtain ⟨D, h1, _, h2⟩ := h
  obtain ⟨v, ps, hr, hv⟩ := h1.look_ok (int_keyed Tryd.underlying3) hM hz (zd := .held z) (zp := []) rfl (keyOf_int_mk Tryd.underlying3 hk.wf)
  rw [(h2 k hk).2 z] at hv
  simp only [selfV, Option.some.injEq, Prod.mk.injEq, DataW.held.injEq] at hv
  rw [hr, (h2 k hk).1, hv.1]
theorem MapV.len (h : MapV w b n f) (hM : Tryd.prog.underlying M = some (.map 3 E)) (ty : TypeId) : (Builtin.len_ #[M] ty #[.map (some b)]).run Tryd.prog w = .ok (.int .i64 n) w := by
  obtain ⟨D, h1, h2, _⟩ := h
  rw [h1.len hM, h2]
theorem MapV.store (h : MapV w b n f) (hM : Tryd.prog.underlying M = some (.map 3 E)) (hn : n < 1000000) (hk : Small k) (v : Value) :
    ∃ w', (Instr.mapUpdate M (.map (some b)) (.int .i64 k) v).run Tryd.prog w = .ok () w' ∧ MapV w' b (if (f k).isSome then n else n + 1) (fun x => if x = k then some v else f x) ∧ Only [b] w w' := by
  obtain ⟨D, h1, h0, h2⟩ := h
  obtain ⟨w', hr, ho, hg⟩ := h1.update (int_keyed Tryd.underlying3) hM (by simp only [maxLen]; omega) (keyOf_int_mk Tryd.underlying3 hk.wf) (val := v) (d := .held v) (ps := []) rfl
  have ht : Tidy D := h1.tidy (int_keyed Tryd.underlying3)
  have hs : Maps.size (D.put (.int .i64 k) (.held v)) = if (f k).isSome then n else n + 1 := by
    rw [size_put ht, (h2 k hk).1, h0]
  refine ⟨w', hr, ⟨_, ?_, hs, fun x hx => ?_⟩, Only.of_grown hg (by simp)⟩
  · rw [← hs]
    obtain ⟨es, clock, q1, q2, q3, q4⟩ := ho
    refine ⟨es, clock, q1, q2, ?_, q4⟩
    rw [q4]
    simp [Maps.size, length_sorted]
  · show _ = (if x = k then some v else f x).isSome ∧ ∀ z, _ = DataW.held ((if x = k then some v else f x).getD z)
    by_cases e : x = k
    · subst e
      have hD := h1.isMap
      rw [if_pos rfl]
      exact ⟨by rw [has_put_same hD (by trivial)]; rfl, fun z => by rw [atKey_put_same hD (by trivial)]; rfl⟩
    · rw [if_neg e]
      have hne : Lit.int .i64 x ≠ Lit.int .i64 k := fun h => e (by injection h)
      exact ⟨by rw [has_put_other hne]; exact (h2 x hx).1, fun z => by rw [atKey_put_other hne]; exact (h2 x hx).2 z⟩
end
end Go.Proofs.YtigpnopeacicpaaDoor
