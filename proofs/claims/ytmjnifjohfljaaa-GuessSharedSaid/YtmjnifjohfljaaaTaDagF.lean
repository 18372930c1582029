/-
  fold, Add, Mul: several operands from left to right.
-/
import Derived.Test.YtmjnifjohfljaaaTaDagS
namespace Go.Proofs.Ytmjnifjohfljaaa
open Go.RowKit

theorem putNs_le (r : Option Nat) (ns : List Nd) (n : Nd) : (putNs r ns n).length ≤ ns.length + 1 := by
  unfold putNs
  split
  · split <;> simp
  · omega

def FPost (d : Nat) (v : Value) (r : Option Nat) (p : List Nd × Int) (w : World) (e : Ending) (w' : World) : Prop :=
  ∃ v', e = .returned (.int .i64 p.2) ∧ DagIs w' d v' r p.1 ∧ Step d v r w v' w'

end Go.Proofs.Ytmjnifjohfljaaa
