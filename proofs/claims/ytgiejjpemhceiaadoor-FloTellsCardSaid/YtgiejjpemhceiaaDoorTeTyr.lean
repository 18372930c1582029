/-
  Typed regions: new variables made in one region lie apart from each other.
-/
import Derived.Test.YtgiejjpemhceiaaDoorTeGTyp
namespace Go.Proofs.YtgiejjpemhceiaaDoor
open Go.RowKit
section
variable {P : Program}
section
variable {l : List Oper} {Ps : List VP} {a0 a : Act} {w0 w : World} {listed : Array Bool} {Q : Exit → Act → World → Prop} {jss : List (List Nat)}
def allocB (l : List Oper) (al : List Nat) (T : TypeId) : Bool := al.all fun k => match l[k]? with
  | none => false
  | some o => o.guard.isNone && (match o.op with | .alloc t => t == T | _ => false) && (match o.dst with | some _ => true | none => false)
def Fresh (l : List Oper) (al : List Nat) (listed : Array Bool) (a : Act) (w : World) : Prop := ∃ f : Nat → Nat, (∀ i ∈ al, listed.getD i false = true → f i < w.heap.size ∧ ∀ d, dstOf l i = some d → a.tmps.getD d undef = .pointer (some ⟨f i, 0, none⟩)) ∧ (∀ i ∈ al, ∀ j ∈ al, listed.getD i false = true → listed.getD j false = true → i ≠ j → f i ≠ f j)
theorem Fresh.step {al : List Nat} {T : TypeId} {k : Nat} {o : Oper} {u : Value} {w' : World} (h : Fresh l al listed a w) (_ : allocB l al T = true) (hsp : ∀ k o, l[k]? = some o → (∀ d, o.dst = some d → d < a0.tmps.size ∧ ∀ i, i < k → dstOf l i ≠ some d) ∧ (∀ i ∈ waits o, i < k) ∧ (∀ i d, dstOf l i = some d → i ∈ waits o ∨ d ∉ o.looksAt l.toArray))
    (hw : Way l Ps a0 w0 listed a w) (hk : l[k]? = some o) (hu : listed.getD k false = false) (ho : Only [] w w') (hn : k ∈ al → u = .pointer (some ⟨w.heap.size, 0, none⟩) ∧ w.heap.size < w'.heap.size) : Fresh l al (listed.setIfInBounds k true) (a.put o.dst u) w' := by
  obtain ⟨f, h1, h2⟩ := h
  have hlt : k < l.length := (List.getElem?_eq_some_iff.1 hk).1
  have hll : k < listed.size := by rw [hw.lsize]; exact hlt
  have hdk : dstOf l k = o.dst := by unfold dstOf; rw [hk]; rfl
  have hdiff : ∀ i d, i ≠ k → dstOf l i = some d → o.dst ≠ some d := fun i d hne hi hc => by
    unfold dstOf at hi
    cases hx : l[i]? with
    | none => rw [hx] at hi; cases hi
    | some x =>
      rw [hx] at hi
      rcases Nat.lt_or_gt_of_ne hne with h1 | h1
      · exact ((hsp k o hk).1 d hc).2 i h1 (by unfold dstOf; rw [hx]; exact hi)
      · exact ((hsp i x hx).1 d hi).2 k h1 (by rw [hdk]; exact hc)
  have old : ∀ i, i ≠ k → (listed.setIfInBounds k true).getD i false = true → listed.getD i false = true := fun i hik hi => by
    rw [getD_set _ _ _ hll] at hi
    have : k ≠ i := fun hc => hik hc.symm
    simpa [this] using hi
  have keep : ∀ i d, i ≠ k → dstOf l i = some d → (a.put o.dst u).tmps.getD d undef = a.tmps.getD d undef := fun i d hik hd => by
    cases hdo : o.dst with
    | none => rfl
    | some d' =>
      rw [getD_put, if_neg]
      intro hc
      exact hdiff i d hik hd (by rw [hdo, hc.1])
  refine ⟨fun i => if i = k then w.heap.size else f i, fun i hi hli => ?_, fun i hi j hj hli hlj hij => ?_⟩
  · dsimp only
    by_cases hik : i = k
    · subst hik
      rw [if_pos rfl]
      obtain ⟨e1, e2⟩ := hn hi
      refine ⟨e2, fun d hd => ?_⟩
      rw [hdk] at hd
      rw [hd, getD_put, if_pos ⟨rfl, by rw [hw.size]; exact ((hsp i o hk).1 d hd).1⟩]
      exact e1
    · rw [if_neg hik]
      obtain ⟨e1, e2⟩ := h1 i hi (old i hik hli)
      exact ⟨Nat.lt_of_lt_of_le e1 ho.size, fun d hd => by rw [keep i d hik hd]; exact e2 d hd⟩
  · dsimp only
    by_cases hik : i = k
    · have hjk : j ≠ k := fun hc => hij (hik.trans hc.symm)
      rw [if_pos hik, if_neg hjk]
      have := (h1 j hj (old j hjk hlj)).1
      omega
    · by_cases hjk : j = k
      · rw [if_neg hik, if_pos hjk]
        have := (h1 i hi (old i hik hli)).1
        omega
      · rw [if_neg hik, if_neg hjk]
        exact h2 i hi j hj (old i hik hli) (old j hjk hlj) hij
end
end
end Go.Proofs.YtgiejjpemhceiaaDoor
