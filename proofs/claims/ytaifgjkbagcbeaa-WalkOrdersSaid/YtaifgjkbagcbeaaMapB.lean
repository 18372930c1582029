/-
  A map[int]bool that the call has made, as a function of its keys.
-/
import Derived.Test.YtaifgjkbagcbeaaMapI
namespace Go.Proofs.Ytaifgjkbagcbeaa
open Go.RowKit Go.Maps

/-- Block b is a map of at most n entries; f k is what key k reads as. -/
def MapB (w : World) (b n : Nat) (f : Int → Bool) : Prop :=
  ∃ D : DataW Unit, w.ownsMap Try.prog 3 (plainElem Try.prog 4) b n D ∧ ∀ k, Small k → D.atKey (.int .i64 k) (.lit (.bool false)) = .lit (.bool (f k))
theorem zeroBool (w : World) : (zeroValue 4).run Try.prog w = .ok (.bool false) w := by kernel_rfl
theorem plainElem_bool_inv' {P : Program} {e : TypeId} (he : P.underlying e = some .bool) {v : Value} {z : DataW Unit × List MemPlace} (h : plainElem P e v = some z) : ∃ x, v = .bool x ∧ z = (.lit (.bool x), []) := by
  unfold plainElem at h
  rw [he] at h
  cases v <;> simp at h
  exact ⟨_, rfl, h.symm⟩
theorem plainElem_bool_inv {v : Value} {z : DataW Unit × List MemPlace} (h : plainElem Try.prog 4 v = some z) : ∃ x, v = .bool x ∧ z = (.lit (.bool x), []) := plainElem_bool_inv' Try.underlying4 h
section
variable {w w' : World} {b n : Nat} {f : Int → Bool} {k : Int}
theorem MapB.lt (h : MapB w b n f) : b < w.heap.size := by
  obtain ⟨D, h1, _⟩ := h
  exact h1.lt
theorem MapB.only {S : List Nat} (h : MapB w b n f) (ho : Only S w w') (hb : b ∉ S) : MapB w' b n f := by
  obtain ⟨D, ⟨es, clock, h1, h2⟩, h3⟩ := h
  exact ⟨D, ⟨es, clock, ho.heap h1 hb, h2⟩, h3⟩
theorem MapB.made (w : World) : MapB (w.alloc (.map #[] 0)) w.heap.size 0 (fun _ => false) :=
  ⟨.map [], World.ownsMap_made w _ _ _, fun _ _ => rfl⟩
theorem MapB.look (h : MapB w b n f) (hk : Small k) : (Instr.lookup 51 (.map (some b)) (.int .i64 k) false).run Try.prog w = .ok (.bool (f k)) w := by
  obtain ⟨D, h1, h2⟩ := h
  obtain ⟨v, ps, hr, hv⟩ := h1.lookup (int_keyed Try.underlying3) Try.underlying51 (zeroBool w) (plainElem_bool Try.underlying4 false) (keyOf_int_mk Try.underlying3 hk.wf)
  obtain ⟨x, rfl, hx⟩ := plainElem_bool_inv hv
  have h3 := h2 k hk
  simp only [Prod.mk.injEq] at hx
  rw [hx.1] at h3
  simp only [DataW.lit.injEq, Lit.bool.injEq] at h3
  rw [hr, h3]
theorem MapB.store (h : MapB w b n f) (hn : n < 1000000) (hk : Small k) (v : Bool) :
    ∃ w', (Instr.mapUpdate 51 (.map (some b)) (.int .i64 k) (.bool v)).run Try.prog w = .ok () w' ∧ MapB w' b (n + 1) (fun x => if x = k then v else f x) ∧ Only [b] w w' := by
  obtain ⟨D, h1, h2⟩ := h
  obtain ⟨w', hr, ho, hg⟩ := h1.update (int_keyed Try.underlying3) Try.underlying51 (by simp only [maxLen]; omega) (keyOf_int_mk Try.underlying3 hk.wf) (plainElem_bool Try.underlying4 v)
  refine ⟨w', hr, ⟨_, ho, fun x hx => ?_⟩, Only.of_grown hg (by simp)⟩
  show _ = DataW.lit (Lit.bool (if x = k then v else f x))
  by_cases e : x = k
  · subst e
    rw [if_pos rfl, atKey_put_same h1.isMap (by trivial)]
  · rw [if_neg e]
    have hne : Lit.int .i64 x ≠ Lit.int .i64 k := fun h => e (by injection h)
    rw [atKey_put_other hne]
    exact h2 x hx
end
end Go.Proofs.Ytaifgjkbagcbeaa
