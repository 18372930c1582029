/-
  The reference's dyads: Round.
-/
import Derived.Test.YtkibkmdgibemkaaDoorTbRdF
namespace Go.Proofs.YtkibkmdgibemkaaDoor
set_option linter.unusedSimpArgs false
open Go.RowKit

/-- Two numbers of the reference's at once. -/
def isRP (m n : Nat) : VP := fun u w => ∃ A k c B j d, u = .tuple #[.slice A k c, .slice B j d] ∧ RV w (.slice A k c) m ∧ RV w (.slice B j d) n

theorem isRP.lasts (m n : Nat) : Lasts (isRP m n) := fun _ _ _ ⟨A, k, c, B, j, d, h1, h2, h3⟩ ho => ⟨A, k, c, B, j, d, h1, h2.only ho, h3.only ho⟩

theorem all_isRP {m n : Nat} {w : World} {K : Value → Prop} (h : ∀ A k c B j d, Hid (RV w (.slice A k c) m) → Hid (RV w (.slice B j d) n) → K (.tuple #[.slice A k c, .slice B j d])) : ∀ v, isRP m n v w → K v := fun v ⟨A, k, c, B, j, d, h1, h2, h3⟩ => by
  subst h1
  exact h A k c B j d h2 h3

theorem grow_rp {f : FuncId} {args : Array Value} {w : World} {m n : Nat} (h : Calls Tryd.prog f args w (RDPost m n w)) :
    Calls Tryd.prog f args w fun e w'' => ∃ u, e = .returned u ∧ Only [] w w'' ∧ isRP (m / n) (m % n) u w'' :=
  h.mono fun _ _ ⟨A, k, c, A', k', c', he, h1, h2, _, ho⟩ => ⟨_, he, ho, A, k, c, A', k', c', rfl, h1, h2⟩

theorem qbits_v (p : Int) (P : Nat) (hP : widthP p = P) (w : World) : Calls Tryd.prog 61 #[.int .i64 p] w fun e w' => e = .returned (.int .i64 (P : Int)) ∧ w = w' := by
  have h : (P : Int) = min (max p 1) 65536 := by rw [← hP]; unfold widthP; omega
  rw [h]
  clear h hP
  go_enter Tryd.func61, Tryd.ntmps61
  go_wp2
  go_ret
  exact ⟨rfl, rfl⟩

end Go.Proofs.YtkibkmdgibemkaaDoor
