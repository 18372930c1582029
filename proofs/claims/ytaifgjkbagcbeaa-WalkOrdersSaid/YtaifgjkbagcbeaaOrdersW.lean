/-
  WalkOrders: the walk, off arguments as they are opened.
-/
import Derived.Test.YtaifgjkbagcbeaaOrders
import Derived.Test.YtaifgjkbagcbeaaIntsIn
namespace Go.Proofs.Ytaifgjkbagcbeaa

theorem IntsIn.read {w : World} {A : Option Addr} {L : List Int} (h : IntsIn w A L) : IRead w A L := fun k hk => by
  obtain ⟨b, o, e, hc⟩ := h k hk
  exact ⟨b, o, e, hc k hk⟩
theorem walkOrders_any (A : Option Addr) (c : Nat) (L : List Int) (B : Option Addr) (c' : Nat) (M : List Int) (a b : Int) (w : World) (hA : IntsIn w A L) (_ : L.length ≤ c) (_ : c ≤ maxLen) (hB : IntsIn w B M) (_ : M.length ≤ c') (_ : c' ≤ maxLen)
    (_ : (Lit.int .i64 a).wf = true) (_ : (Lit.int .i64 b).wf = true) : Calls Try.prog 4 #[.slice A L.length c, .slice B M.length c', .int .i64 a, .int .i64 b] w fun e w' => e = .returned (.bool true) ∧ Only [] w w' :=
  orders_any A B c c' L M a b w hA.read hB.read
end Go.Proofs.Ytaifgjkbagcbeaa
