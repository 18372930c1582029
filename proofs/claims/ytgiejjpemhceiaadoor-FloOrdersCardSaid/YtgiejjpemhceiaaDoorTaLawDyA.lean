/-
  DyadLaws: what is not light.
-/
import Derived.Test.YtgiejjpemhceiaaDoorTaDyN
import Derived.Test.YtgiejjpemhceiaaDoorTaTyr
namespace Go.Proofs.YtgiejjpemhceiaaDoor
set_option linter.unusedSimpArgs false
open Go.RowKit

theorem cmpV_d {w : World} {a b : Value} {x y : Dy} {N : Nat} (c : Int) (ha : Hid (DV w a x)) (hb : Hid (DV w b y)) (hx : Hid (Bnd N x)) (hy : Hid (Bnd N y)) (hN : N ≤ 2000000) (hc : cmpQ x.q y.q = c) : Calls Tryd.prog 58 #[a, b] w fun e w' => e = .returned (.int .i64 c) ∧ Only [] w w' := hc ▸ cmp_d ha hb hx hy hN

theorem addV_d {w : World} {a b : Value} {x y : Dy} {N : Nat} (r : Dy) (hr : dAdd x y = r) (ha : Hid (DV w a x)) (hb : Hid (DV w b y)) (hx : Hid (Bnd N x)) (hy : Hid (Bnd N y)) (hN : N ≤ 2000000) (hT : Hid (Tab6 w)) : Calls Tryd.prog 54 #[a, b] w (DPost r w) := hr ▸ add_d ha hb hx hy hN hT

end Go.Proofs.YtgiejjpemhceiaaDoor
