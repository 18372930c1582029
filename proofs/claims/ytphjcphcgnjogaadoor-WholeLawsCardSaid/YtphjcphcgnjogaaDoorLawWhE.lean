/-
  WholeLaws: for every list and every two ints.
-/
import Derived.Test.YtphjcphcgnjogaaDoorLawWhole
import Derived.Test.YtphjcphcgnjogaaDoorDoorN
namespace Go.Proofs.YtphjcphcgnjogaaDoor
open Go.RowKit

theorem wholeLaws_any (A : Option Addr) (c : Nat) (L : List Int) (a b : Int) (w : World) (hA : IntsIn w A L) (_ : L.length ≤ c) (_ : c ≤ maxLen) (ha : (Lit.int .i64 a).wf = true) (hb : (Lit.int .i64 b).wf = true) (htab : Tab w) (_ : Tab6 w) :
    Calls Tryd.prog 3 #[.slice A L.length c, .int .i64 a, .int .i64 b] w fun e w' => e = .returned (.bool true) ∧ Only [] w w' := by
  by_cases hl : (20 : Int) < (L.length : Int)
  · exact wlaws_out A c L a b w (Lib.hid htab) hl
  · exact wlaws_in A c L a b w (Lib.hid htab) (Lib.hid hA) (Lib.hid (wf_i64 ha)) (Lib.hid (wf_i64 hb)) (by omega)
end Go.Proofs.YtphjcphcgnjogaaDoor
