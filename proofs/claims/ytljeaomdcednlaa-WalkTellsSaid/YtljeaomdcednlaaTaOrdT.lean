/-
  WalkOrders: the plain law.
-/
import Derived.Test.YtljeaomdcednlaaTaDepT
import Derived.Test.YtljeaomdcednlaaTaDepth
namespace Go.Proofs.Ytljeaomdcednlaa

theorem Reach.mono {ns : List Nd} {R R' : Int → Prop} (h : ∀ x, R x → R' x) {x : Int} (hx : Reach ns R x) : Reach ns R' x := by
  induction hx with
  | root x hr h0 h1 => exact .root x (h x hr) h0 h1
  | kid x c _ hc ih => exact .kid x c ih hc
theorem Reach.trans {ns : List Nd} {R : Int → Prop} {c x : Int} (hc : Reach ns R c) (hx : Reach ns (· ∈ [c]) x) : Reach ns R x := by
  induction hx with
  | root x hr h0 h1 =>
    have : x = c := by simpa using hr
    exact this ▸ hc
  | kid x c _ hk ih => exact .kid x c ih hk
end Go.Proofs.Ytljeaomdcednlaa
