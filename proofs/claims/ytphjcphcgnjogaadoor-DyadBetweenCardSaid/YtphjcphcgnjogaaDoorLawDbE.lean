/-
  DyadBetween: for every two numbers and every precision.
-/
import Derived.Test.YtphjcphcgnjogaaDoorLawDbB
namespace Go.Proofs.YtphjcphcgnjogaaDoor
open Go.RowKit

theorem dyadBetween_any (n1 : Bool) (A1 : Option Addr) (c1 : Nat) (L1 : List Nat) (e1 : Int) (n2 : Bool) (A2 : Option Addr) (c2 : Nat) (L2 : List Nat) (e2 : Int) (p : Int) (w : World)
    (h1 : LimbsIn w A1 L1) (_ : L1.length ≤ c1) (_ : c1 ≤ maxLen) (_ : -9223372036854775808 ≤ e1 ∧ e1 ≤ 9223372036854775807) (h2 : LimbsIn w A2 L2) (_ : L2.length ≤ c2) (_ : c2 ≤ maxLen) (_ : -9223372036854775808 ≤ e2 ∧ e2 ≤ 9223372036854775807) (_ : (Lit.int .i64 p).wf = true) (htab : Tab w) (hT : Tab6 w) :
    Calls Tryd.prog 7 #[.agg #[.bool n1, .slice A1 L1.length c1, .int .i64 e1], .agg #[.bool n2, .slice A2 L2.length c2, .int .i64 e2], .int .i64 p] w fun e w' => e = .returned (.bool true) ∧ Only [] w w' := by
  by_cases hl : lightN [⟨n1, A1, L1.length, c1, e1⟩, ⟨n2, A2, L2.length, c2, e2⟩] = false ∨ p < 1 ∨ 300 < p
  · exact dbetw_out n1 n2 A1 A2 L1 L2 c1 c2 e1 e2 p w (Lib.hid htab) (Lib.hid hT) hl
  · simp only [not_or, Bool.not_eq_false] at hl
    obtain ⟨hl, q3, q4⟩ := hl
    simp only [lightN, List.all_cons, List.all_nil, NR.ok, Bool.and_true, Bool.and_eq_true, decide_eq_true_eq] at hl
    exact dbetw_in n1 n2 A1 A2 L1 L2 c1 c2 ⟨sg n1 (val L1), e1⟩ ⟨sg n2 (val L2), e2⟩ p w (Lib.hid rfl) (Lib.hid rfl) (Lib.hid h1) (Lib.hid h2) (Lib.hid htab) (Lib.hid hT) (by omega) (by omega) q3 q4 (by show _ ≤ e1 ∧ e1 ≤ _; omega) (by show _ ≤ e2 ∧ e2 ≤ _; omega)
end Go.Proofs.YtphjcphcgnjogaaDoor
