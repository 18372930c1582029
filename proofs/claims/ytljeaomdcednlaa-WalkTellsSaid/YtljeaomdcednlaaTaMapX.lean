/-
  A map[int]int that the call has made, as a function of its keys, with its exact size.
-/
import Derived.Test.YtljeaomdcednlaaTaMapI
namespace Go.Proofs.Ytljeaomdcednlaa
open Go.RowKit Go.Maps

/-- Block b is a map of n entries; f k is what key k has. -/
def MapX (w : World) (b n : Nat) (f : Int → Option Int) : Prop :=
  ∃ D : DataW Unit, w.ownsMap Try.prog 3 (plainElem Try.prog 3) b n D ∧ Maps.size D = n ∧ ∀ k, Small k → Maps.has D (.int .i64 k) = (f k).isSome ∧ D.atKey (.int .i64 k) (.lit (.int .i64 0)) = .lit (.int .i64 ((f k).getD 0))
section
variable {w w' : World} {b n : Nat} {f : Int → Option Int} {k v : Int}
theorem MapX.toI (h : MapX w b n f) : MapI w b n f := by
  obtain ⟨D, h1, _, h2⟩ := h
  exact ⟨D, h1, h2⟩
theorem MapX.lt (h : MapX w b n f) : b < w.heap.size := h.toI.lt
theorem MapX.only {S : List Nat} (h : MapX w b n f) (ho : Only S w w') (hb : b ∉ S) : MapX w' b n f := by
  obtain ⟨D, ⟨es, clock, h1, h2⟩, h3⟩ := h
  exact ⟨D, ⟨es, clock, ho.heap h1 hb, h2⟩, h3⟩
theorem MapX.made (w : World) : MapX (w.alloc (.map #[] 0)) w.heap.size 0 (fun _ => none) :=
  ⟨.map [], World.ownsMap_made w _ _ _, rfl, fun _ _ => ⟨rfl, rfl⟩⟩
theorem MapX.look (h : MapX w b n f) (hk : Small k) : (Instr.lookup 42 (.map (some b)) (.int .i64 k) false).run Try.prog w = .ok (.int .i64 ((f k).getD 0)) w := h.toI.look hk
theorem MapX.look_ok (h : MapX w b n f) (hk : Small k) : (Instr.lookup 42 (.map (some b)) (.int .i64 k) true).run Try.prog w = .ok (.tuple #[.int .i64 ((f k).getD 0), .bool (f k).isSome]) w := by
  obtain ⟨D, h1, _, h2⟩ := h
  obtain ⟨v, ps, hr, hv⟩ := h1.look_ok (int_keyed Try.underlying3) Try.underlying42 (zeroInt w) (plainElem_int Try.underlying3 (by decide)) (keyOf_int_mk Try.underlying3 hk.wf)
  obtain ⟨c, rfl, hc, hwc⟩ := plainElem_int_inv Try.underlying3 hv
  have h3 := (h2 k hk).2
  simp only [Prod.mk.injEq] at hc
  rw [hc.1] at h3
  simp only [DataW.lit.injEq, Lit.int.injEq, true_and] at h3
  rw [hr, (h2 k hk).1, h3]
theorem MapX.len (h : MapX w b n f) (ty : TypeId) : (Builtin.len_ #[42] ty #[.map (some b)]).run Try.prog w = .ok (.int .i64 n) w := by
  obtain ⟨D, h1, h2, _⟩ := h
  rw [h1.len Try.underlying42, h2]
theorem MapX.store (h : MapX w b n f) (hn : n < 1000000) (hk : Small k) (hv : Small v) :
    ∃ w', (Instr.mapUpdate 42 (.map (some b)) (.int .i64 k) (.int .i64 v)).run Try.prog w = .ok () w' ∧ MapX w' b (if (f k).isSome then n else n + 1) (fun x => if x = k then some v else f x) ∧ Only [b] w w' := by
  obtain ⟨D, h1, h0, h2⟩ := h
  obtain ⟨w', hr, ho, hg⟩ := h1.update (int_keyed Try.underlying3) Try.underlying42 (by simp only [maxLen]; omega) (keyOf_int_mk Try.underlying3 hk.wf) (plainElem_int Try.underlying3 hv.wf)
  have ht : Tidy D := h1.tidy (int_keyed Try.underlying3)
  have hs : Maps.size (D.put (.int .i64 k) (.lit (.int .i64 v))) = if (f k).isSome then n else n + 1 := by
    rw [size_put ht, (h2 k hk).1, h0]
  refine ⟨w', hr, ⟨_, ?_, hs, fun x hx => ?_⟩, Only.of_grown hg (by simp)⟩
  · rw [← hs]
    obtain ⟨es, clock, q1, q2, q3, q4⟩ := ho
    refine ⟨es, clock, q1, q2, ?_, q4⟩
    rw [q4]
    simp [Maps.size, length_sorted]
  · show _ = (if x = k then some v else f x).isSome ∧ _ = DataW.lit (Lit.int .i64 ((if x = k then some v else f x).getD 0))
    by_cases e : x = k
    · subst e
      have hD := h1.isMap
      rw [if_pos rfl]
      exact ⟨by rw [has_put_same hD (by trivial)]; rfl, by rw [atKey_put_same hD (by trivial)]; rfl⟩
    · rw [if_neg e]
      have hne : Lit.int .i64 x ≠ Lit.int .i64 k := fun h => e (by injection h)
      exact ⟨by rw [has_put_other hne]; exact (h2 x hx).1, by rw [atKey_put_other hne]; exact (h2 x hx).2⟩
end
end Go.Proofs.Ytljeaomdcednlaa
