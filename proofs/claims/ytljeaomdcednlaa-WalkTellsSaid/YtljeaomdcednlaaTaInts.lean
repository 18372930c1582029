/-
  compassbook.SameInts.
-/
import Derived.Test.YtljeaomdcednlaaTaLoadE
namespace Go.Proofs.Ytljeaomdcednlaa
open Go.RowKit

set_option maxRecDepth 100000 in
theorem sameints_any (A B : Option Addr) (c c' : Nat) (xs : List Int) (w : World) (hA : Hid (IRead w A xs)) (hB : Hid (IRead w B xs)) (hl : (xs.length : Int) ≤ 20001) :
    Calls Try.prog 11 #[.slice A xs.length c, .slice B xs.length c'] w fun e w' => e = .returned (.bool true) ∧ Only [] w w' := by
  go_enter Try.func11, Try.ntmps11
  go_wp2_with fail
  go_loopw [5] (fun i wr => ∃ k : Nat, k ≤ xs.length ∧ i = .int .i64 (k : Int) ∧ Only [] w wr) (fun i _ => xs.length - (intOf i).toNat)
  case atStart => exact ⟨0, Nat.zero_le _, rfl, Only.refl _ _⟩
  case round =>
    obtain ⟨k, hk, rfl, ho⟩ := hrel
    have Ho := Lib.hid ho
    clear ho
    by_cases hlt : k < xs.length
    · obtain ⟨b, o, rfl, h1⟩ := hA.out k hlt
      obtain ⟨b', o', rfl, h2⟩ := hB.out k hlt
      have p0 := Ho.out.cell h1 (by simp)
      have q0 := Ho.out.cell h2 (by simp)
      clear h1 h2
      generalize xs[k]?.getD 0 = n at p0 q0
      have hk' : (k : Int) < (xs.length : Int) := by omega
      go_wp2_with fail
      go_quiet (fail)
      go_wp2_with fail
      go_roundw
      case rel => exact ⟨k + 1, by omega, by go_num, Ho.out.drewN _⟩
      case measure => simp [intOf]; omega
    · have hnl : ¬ (k : Int) < (xs.length : Int) := by omega
      go_wp2_with fail
      go_ret
      exact ⟨rfl, Ho.out⟩
end Go.Proofs.Ytljeaomdcednlaa
