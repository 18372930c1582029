/-
  DyadTops: for every number.
-/
import Derived.Test.YtcknigodcjjahaaDoorLawDtB
namespace Go.Proofs.YtcknigodcjjahaaDoor
open Go.RowKit

theorem dyadTops_any (n1 : Bool) (A1 : Option Addr) (c1 : Nat) (L1 : List Nat) (e1 : Int) (w : World)
    (h1 : LimbsIn w A1 L1) (_ : L1.length ≤ c1) (_ : c1 ≤ maxLen) (_ : -9223372036854775808 ≤ e1 ∧ e1 ≤ 9223372036854775807) (htab : Tab w) (hT : Tab6 w) :
    Calls Tryd.prog 7 #[.agg #[.bool n1, .slice A1 L1.length c1, .int .i64 e1]] w fun e w' => e = .returned (.bool true) ∧ Only [] w w' := by
  cases hl : lightN [⟨n1, A1, L1.length, c1, e1⟩] with
  | false => exact dtops_out n1 A1 L1 c1 e1 w (Lib.hid htab) (Lib.hid hT) hl
  | true =>
    simp only [lightN, List.all_cons, List.all_nil, NR.ok, Bool.and_true, Bool.and_eq_true, decide_eq_true_eq] at hl
    exact dtops_in n1 A1 L1 c1 ⟨sg n1 (val L1), e1⟩ w (Lib.hid rfl) (Lib.hid h1) (Lib.hid htab) (Lib.hid hT) (by omega) (by show _ ≤ e1 ∧ e1 ≤ _; omega)
end Go.Proofs.YtcknigodcjjahaaDoor
