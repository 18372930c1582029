/-
  A map[int]int that the law has made, as a function of its keys, with its exact size; all its keys are known; what a range over it meets.
-/
import Derived.Test.YtljeaomdcednlaaTaMapX
import Derived.Maps.RangeWalk
namespace Go.Proofs.Ytljeaomdcednlaa
open Go.RowKit Go.Maps

/-- Block b is a map of n entries; f k is what key k has. -/
def MapK (w : World) (b n : Nat) (f : Int → Option Int) : Prop :=
  ∃ D : DataW Unit, w.ownsMap Try.prog 3 (plainElem Try.prog 3) b n D ∧ Maps.size D = n ∧ (∀ kl, Maps.has D kl = true → ∃ k, Small k ∧ kl = .int .i64 k) ∧ ∀ k, Small k → Maps.has D (.int .i64 k) = (f k).isSome ∧ D.atKey (.int .i64 k) (.lit (.int .i64 0)) = .lit (.int .i64 ((f k).getD 0))
section
variable {w w' : World} {b n : Nat} {f : Int → Option Int} {k v : Int}
theorem MapK.toX (h : MapK w b n f) : MapX w b n f := by
  obtain ⟨D, h1, h0, _, h2⟩ := h
  exact ⟨D, h1, h0, h2⟩
theorem MapK.lt (h : MapK w b n f) : b < w.heap.size := h.toX.lt
theorem MapK.only {S : List Nat} (h : MapK w b n f) (ho : Only S w w') (hb : b ∉ S) : MapK w' b n f := by
  obtain ⟨D, ⟨es, clock, h1, h2⟩, h3⟩ := h
  exact ⟨D, ⟨es, clock, ho.heap h1 hb, h2⟩, h3⟩
theorem MapK.made (w : World) : MapK (w.alloc (.map #[] 0)) w.heap.size 0 (fun _ => none) :=
  ⟨.map [], World.ownsMap_made w _ _ _, rfl, fun kl h => (by simp [Maps.has] at h), fun _ _ => ⟨rfl, rfl⟩⟩
theorem MapK.look (h : MapK w b n f) (hk : Small k) : (Instr.lookup 42 (.map (some b)) (.int .i64 k) false).run Try.prog w = .ok (.int .i64 ((f k).getD 0)) w := h.toX.look hk
theorem MapK.store (h : MapK w b n f) (hn : n < 1000000) (hk : Small k) (hv : Small v) :
    ∃ w', (Instr.mapUpdate 42 (.map (some b)) (.int .i64 k) (.int .i64 v)).run Try.prog w = .ok () w' ∧ MapK w' b (if (f k).isSome then n else n + 1) (fun x => if x = k then some v else f x) ∧ Only [b] w w' := by
  obtain ⟨D, h1, h0, hK, h2⟩ := h
  obtain ⟨w', hr, ho, hg⟩ := h1.update (int_keyed Try.underlying3) Try.underlying42 (by simp only [maxLen]; omega) (keyOf_int_mk Try.underlying3 hk.wf) (plainElem_int Try.underlying3 hv.wf)
  have ht : Tidy D := h1.tidy (int_keyed Try.underlying3)
  have hs : Maps.size (D.put (.int .i64 k) (.lit (.int .i64 v))) = if (f k).isSome then n else n + 1 := by
    rw [size_put ht, (h2 k hk).1, h0]
  refine ⟨w', hr, ⟨_, ?_, hs, fun kl hkl => ?_, fun x hx => ?_⟩, Only.of_grown hg (by simp)⟩
  · rw [← hs]
    obtain ⟨es, clock, q1, q2, q3, q4⟩ := ho
    refine ⟨es, clock, q1, q2, ?_, q4⟩
    rw [q4]
    simp [Maps.size, length_sorted]
  · by_cases e : kl = .int .i64 k
    · exact ⟨k, hk, e⟩
    · rw [has_put_other e] at hkl
      exact hK kl hkl
  · show _ = (if x = k then some v else f x).isSome ∧ _ = DataW.lit (Lit.int .i64 ((if x = k then some v else f x).getD 0))
    by_cases e : x = k
    · subst e
      have hD := h1.isMap
      rw [if_pos rfl]
      exact ⟨by rw [has_put_same hD (by trivial)]; rfl, by rw [atKey_put_same hD (by trivial)]; rfl⟩
    · rw [if_neg e]
      have hne : Lit.int .i64 x ≠ Lit.int .i64 k := fun h => e (by injection h)
      exact ⟨by rw [has_put_other hne]; exact (h2 x hx).1, by rw [atKey_put_other hne]; exact (h2 x hx).2⟩
/-- What stands in memory while one ranges over it: cnt entries are still to come, those that left tells. -/
def RangK (w : World) (b r n : Nat) (f : Int → Option Int) (left : Lit → Bool) (cnt : Nat) : Prop :=
  ∃ D : DataW Unit, w.ranges Try.prog 3 (plainElem Try.prog 3) b r n D left cnt ∧ (∀ kl, left kl = true → Maps.has D kl = true) ∧ (∀ kl, Maps.has D kl = true → ∃ k, Small k ∧ kl = .int .i64 k) ∧
    ∀ k, Small k → Maps.has D (.int .i64 k) = (f k).isSome ∧ D.atKey (.int .i64 k) (.lit (.int .i64 0)) = .lit (.int .i64 ((f k).getD 0))
theorem RangK.left_eq {w : World} {b r n cnt : Nat} {f : Int → Option Int} {left : Lit → Bool} (h : RangK w b r n f left cnt) : w.rangeLeft b r = cnt := by
  obtain ⟨D, hr, _⟩ := h
  exact hr.left_eq
section
variable {ops : Array Oper} {rest : List Oper} {o : Oper} {a : Act} {Q : Exit → Act → World → Prop}
theorem wpList_range_k (w : World) (hg : o.guard = none) (m : Operand) (hop : o.op = Op.range 42 m) (b n : Nat) (f : Int → Option Int) (hm : a.eval m = .map (some b)) (h : MapK w b n f)
    (hK : ∀ w' left cnt, RangK w' b w.heap.size n f left cnt → Only [] w w' → wpList Try.prog ops Q rest (a.put o.dst (.pointer (some ⟨w.heap.size, 0, none⟩))) w') :
    wpList Try.prog ops Q (o :: rest) a w := by
  obtain ⟨D, h1, h0, hk, h2⟩ := h
  exact wpList_range_own w hg m 42 hop 3 3 (int_keyed Try.underlying3) Try.underlying42 _ b n D hm h1 (fun w' hr hg' _ => hK w' _ _ ⟨D, hr, fun _ h => h, hk, h2⟩ (Only.of_grown hg' (by simp)))
theorem wpList_next_k (w : World) (hg : o.guard = none) (it : Operand) (hop : o.op = Op.next it false) (b r n : Nat) (f : Int → Option Int) (left : Lit → Bool) (cnt : Nat) (hit : a.eval it = .pointer (some ⟨r, 0, none⟩)) (h : RangK w b r n f left cnt)
    (hDone : cnt = 0 → wpList Try.prog ops Q rest (a.put o.dst (.tuple #[.bool false])) w)
    (hMore : ∀ (x : Int) (w' : World) (left' : Lit → Bool) (cnt' : Nat), Small x → (f x).isSome = true → RangK w' b r n f left' cnt' → cnt' < cnt → Only [r] w w' →
      (Instr.entry (.pointer (some ⟨r, 0, none⟩))).run Try.prog w' = .ok (.tuple #[.int .i64 x, .int .i64 ((f x).getD 0)]) w' → wpList Try.prog ops Q rest (a.put o.dst (.tuple #[.bool true, .int .i64 x, .int .i64 ((f x).getD 0)])) w') :
    wpList Try.prog ops Q (o :: rest) a w := by
  obtain ⟨D, hr, hl, hk, h2⟩ := h
  refine wpList_next_ranges_ii w hg it hop 3 3 .i64 .i64 (int_keyed Try.underlying3) Try.underlying3 Try.underlying3 b r n D left cnt hit hr (fun h _ => hDone h) ?_
  intro x c w' cnt' _ _ hlx hat hr' hlt hgr _ hen
  obtain ⟨k, hsk, e⟩ := hk _ (hl _ hlx)
  have e' : x = k := by injection e
  subst e'
  have h3 := h2 x hsk
  have h4 := h3.2
  rw [hat] at h4
  have h5 : c = (f x).getD 0 := by
    simp only [DataW.lit.injEq, Lit.int.injEq, true_and] at h4
    exact h4
  subst h5
  refine hMore x w' _ cnt' hsk ?_ ⟨D, hr', fun kl h => ?_, hk, h2⟩ hlt (Only.of_grown hgr (by simp)) hen
  · rw [← h3.1]
    exact hl _ hlx
  · simp only [Bool.and_eq_true] at h
    exact hl _ h.1
end
end
end Go.Proofs.Ytljeaomdcednlaa
