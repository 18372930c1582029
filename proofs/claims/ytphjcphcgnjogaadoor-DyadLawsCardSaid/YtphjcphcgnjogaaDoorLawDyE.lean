/-
  DyadLaws: for every three numbers.
-/
import Derived.Test.YtphjcphcgnjogaaDoorLawDyB
namespace Go.Proofs.YtphjcphcgnjogaaDoor
open Go.RowKit

theorem dyadLaws_any (n1 : Bool) (A1 : Option Addr) (c1 : Nat) (L1 : List Nat) (e1 : Int) (n2 : Bool) (A2 : Option Addr) (c2 : Nat) (L2 : List Nat) (e2 : Int) (n3 : Bool) (A3 : Option Addr) (c3 : Nat) (L3 : List Nat) (e3 : Int) (w : World)
    (h1 : LimbsIn w A1 L1) (_ : L1.length ≤ c1) (_ : c1 ≤ maxLen) (_ : -9223372036854775808 ≤ e1 ∧ e1 ≤ 9223372036854775807) (h2 : LimbsIn w A2 L2) (_ : L2.length ≤ c2) (_ : c2 ≤ maxLen) (_ : -9223372036854775808 ≤ e2 ∧ e2 ≤ 9223372036854775807) (h3 : LimbsIn w A3 L3) (_ : L3.length ≤ c3) (_ : c3 ≤ maxLen) (_ : -9223372036854775808 ≤ e3 ∧ e3 ≤ 9223372036854775807) (htab : Tab w) (hT : Tab6 w) :
    Calls Tryd.prog 6 #[.agg #[.bool n1, .slice A1 L1.length c1, .int .i64 e1], .agg #[.bool n2, .slice A2 L2.length c2, .int .i64 e2], .agg #[.bool n3, .slice A3 L3.length c3, .int .i64 e3]] w fun e w' => e = .returned (.bool true) ∧ Only [] w w' := by
  cases hl : lightN [⟨n1, A1, L1.length, c1, e1⟩, ⟨n2, A2, L2.length, c2, e2⟩, ⟨n3, A3, L3.length, c3, e3⟩] with
  | false => exact dlaws_out n1 n2 n3 A1 A2 A3 L1 L2 L3 c1 c2 c3 e1 e2 e3 w (Lib.hid htab) (Lib.hid hT) hl
  | true =>
    simp only [lightN, List.all_cons, List.all_nil, NR.ok, Bool.and_true, Bool.and_eq_true, decide_eq_true_eq] at hl
    exact dlaws_in n1 n2 n3 A1 A2 A3 L1 L2 L3 c1 c2 c3 ⟨sg n1 (val L1), e1⟩ ⟨sg n2 (val L2), e2⟩ ⟨sg n3 (val L3), e3⟩ w (Lib.hid rfl) (Lib.hid rfl) (Lib.hid rfl) (Lib.hid h1) (Lib.hid h2) (Lib.hid h3) (Lib.hid htab) (Lib.hid hT) (by omega) (by omega) (by omega) (by show _ ≤ e1 ∧ e1 ≤ _; omega) (by show _ ≤ e2 ∧ e2 ≤ _; omega) (by show _ ≤ e3 ∧ e3 ≤ _; omega)
end Go.Proofs.YtphjcphcgnjogaaDoor
