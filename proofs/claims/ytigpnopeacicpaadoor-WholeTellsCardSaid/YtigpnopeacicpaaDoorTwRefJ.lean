/-
  The reference's numbers: DivMod, Sqrt.
-/
import Derived.Test.YtigpnopeacicpaaDoorTwRefI
namespace Go.Proofs.YtigpnopeacicpaaDoor
open Go.RowKit

theorem rdivmod_v {w : World} {a b : Value} {m n : Nat} (ha : Hid (RV w a m)) (hb : Hid (RV w b n)) (hfa : Hid (Few m)) (hfb : Hid (Few n)) (hn : 0 < n) : Calls Tryd.prog 53 #[a, b] w (RDPost m n w) := by
  by_cases hlt : m < n
  · exact rdivmod_lt ha hb hfa hfb (Lib.hid hlt)
  · have h2 : (R.limbsOf n).length ≠ 0 := fun h => by rw [R.limbsOf_len0] at h; omega
    by_cases h1 : (R.limbsOf n).length = 1
    · exact rdivmod_one ha hb hfa hfb (Lib.hid (by omega)) (Lib.hid h1)
    · exact rdivmod_long ha hb hfa hfb (Lib.hid (by omega)) (Lib.hid (by omega))

end Go.Proofs.YtigpnopeacicpaaDoor
