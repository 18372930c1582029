/-
  Add and Mul; a dag that the law itself has made ('Own'), two of them side by side ('Two'); alive.
-/
import Derived.Test.YtmjnifjohfljaaaTaDagF
namespace Go.Proofs.Ytmjnifjohfljaaa
open Go.RowKit

/-- What a call leaves that hands back an id. -/
def QPost (d : Nat) (v : Value) (r : Option Nat) (id : Int) (ns' : List Nd) (w : World) (e : Ending) (w' : World) : Prop :=
  ∃ v', e = .returned (.int .i64 id) ∧ DagIs w' d v' r ns' ∧ Step d v r w v' w'

theorem PPost.q {d : Nat} {v : Value} {r : Option Nat} {ns : List Nd} {n : Nd} {id : Int} {ns' : List Nd} (h1 : putId r ns n = id) (h2 : putNs r ns n = ns') {w : World} : ∀ e w', PPost d v r ns n w e w' → QPost d v r id ns' w e w' :=
  fun _ _ ⟨v', he, hd, hs⟩ => ⟨v', by rw [he, h1], by rw [← h2]; exact hd, hs⟩

theorem FPost.q {d : Nat} {v : Value} {r : Option Nat} {p : List Nd × Int} {id : Int} {ns' : List Nd} (h : p = (ns', id)) {w : World} : ∀ e w', FPost d v r p w e w' → QPost d v r id ns' w e w' :=
  fun _ _ ⟨v', he, hd, hs⟩ => ⟨v', by rw [he, h], by rw [h] at hd; exact hd, hs⟩

/-- A dag of the law's own: all its blocks are new since w0. -/
structure Own (w0 w : World) (d : Nat) (v : Value) (r : Option Nat) (ns : List Nd) : Prop where
  is : DagIs w d v r ns
  fresh : ∀ k ∈ foot d v r, w0.heap.size ≤ k
  only : Only [] w0 w

theorem Step.foot {d : Nat} {v v' : Value} {r : Option Nat} {w w' : World} (h : Step d v r w v' w') : ∀ k ∈ foot d v' r, k ∈ foot d v r ∨ w.heap.size ≤ k := by
  intro k hk
  simp only [Proofs.Ytmjnifjohfljaaa.foot, List.mem_cons, List.mem_append, Option.mem_toList] at hk ⊢
  rcases hk with hk | hk | hk
  · exact .inl (.inl hk)
  · rcases h.1 with e | ⟨g, hg, e⟩
    · exact .inl (.inr (.inl (by rw [← e]; exact hk)))
    · right
      have : g = k := by simpa using e.symm.trans hk
      omega
  · exact .inl (.inr (.inr hk))

theorem Own.step {w0 w w' : World} {d : Nat} {v v' : Value} {r : Option Nat} {ns ns' : List Nd} (h : Own w0 w d v r ns) (hs : Step d v r w v' w') (hd : DagIs w' d v' r ns') : Own w0 w' d v' r ns' :=
  ⟨hd, fun k hk => by
    rcases hs.foot k hk with h1 | h1
    · exact h.fresh k h1
    · exact Nat.le_trans h.only.size h1, h.only.trans hs.2 (fun k hk => .inr (h.fresh k hk))⟩

theorem Own.other {w0 w w' : World} {d : Nat} {v : Value} {r : Option Nat} {ns : List Nd} {S : List Nat} (h : Own w0 w d v r ns) (ho : Only S w w') (hS : ∀ k ∈ S, w0.heap.size ≤ k) (hn : ∀ k ∈ foot d v r, k ∉ S) : Own w0 w' d v r ns :=
  ⟨h.is.only ho hn, h.fresh, h.only.trans ho (fun k hk => .inr (hS k hk))⟩

theorem own_new {w w' : World} {r : Option Nat} (hd : DagIs w' w.heap.size (.slice none 0 0) r []) (hr : ∀ m, r = some m → w.heap.size ≤ m) (ho : Only [] w w') : Own w w' w.heap.size (.slice none 0 0) r [] :=
  ⟨hd, fun k hk => by
    simp only [Proofs.Ytmjnifjohfljaaa.foot, List.mem_cons, List.mem_append, Option.mem_toList] at hk
    rcases hk with hk | hk | hk
    · omega
    · simp [Value.ownBlock] at hk
    · exact hr k hk, ho⟩

end Go.Proofs.Ytmjnifjohfljaaa
