/-
  A walk's numbers of the reference's: the values at hand and what they read as.
-/
import Derived.Test.YtmjnifjohfljaaaGreatDoorTaGRef
namespace Go.Proofs.YtmjnifjohfljaaaGreatDoor
open Go.RowKit

def RVs (w : World) : List Value → List Nat → Prop
  | [], [] => True
  | v :: vs, n :: ns => RV w v n ∧ RVs w vs ns
  | _, _ => False
theorem RVs.only {w w' : World} (ho : Only [] w w') : ∀ {vs : List Value} {ns : List Nat}, RVs w vs ns → RVs w' vs ns
  | [], [], h => h
  | [], _ :: _, h => h.elim
  | _ :: _, [], h => h.elim
  | _ :: _, _ :: _, h => ⟨h.1.only ho, RVs.only ho h.2⟩
theorem RVs.get {w : World} : ∀ {vs : List Value} {ns : List Nat} (i : Nat) {v : Value} {n : Nat}, RVs w vs ns → vs[i]? = some v → ns[i]? = some n → RV w v n
  | [], [], i, v, n, _, h1, _ => by simp at h1
  | [], _ :: _, _, _, _, h, _, _ => h.elim
  | _ :: _, [], _, _, _, h, _, _ => h.elim
  | v :: vs, n :: ns, 0, _, _, h, h1, h2 => by
    simp only [List.getElem?_cons_zero, Option.some.injEq] at h1 h2
    subst h1 h2
    exact h.1
  | v :: vs, n :: ns, i + 1, _, _, h, h1, h2 => RVs.get i h.2 (by simpa using h1) (by simpa using h2)
theorem RVs.at {w : World} {vs : List Value} {ns : List Nat} (h : Hid (RVs w vs ns)) (i : Nat) {v : Value} {n : Nat} (h1 : vs[i]? = some v) (h2 : ns[i]? = some n) : Hid (RV w v n) := RVs.get i h.out h1 h2
end Go.Proofs.YtmjnifjohfljaaaGreatDoor
