/-
  WholeOrders: for every three numbers.
-/
import Derived.Test.YtphjcphcgnjogaaDoorLawWo
import Derived.Test.YtphjcphcgnjogaaDoorArrIn
namespace Go.Proofs.YtphjcphcgnjogaaDoor
open Go.RowKit

theorem LimIn.nv {w : World} {A : Option Addr} {c : Nat} {L : List Nat} (h : LimIn w A c L) (hl : L.length ≤ 40) : NV w (.slice A L.length c) (val L) := NV.mk ⟨h.1.1, h.1.2, by omega⟩ h.2.1 (by omega)
theorem val_40 {L : List Nat} (h : Limb L) (hl : L.length ≤ 40) : val L < BB ^ 40 := Nat.lt_of_lt_of_le (val_lt h) (Nat.pow_le_pow_right BB_pos hl)
theorem wholeOrders_any (xa : Option Addr) (xc : Nat) (xL : List Nat) (ya : Option Addr) (yc : Nat) (yL : List Nat) (za : Option Addr) (zc : Nat) (zL : List Nat) (bx by_ bz : Bool) (w : World) (fx : LimIn w xa xc xL) (fy : LimIn w ya yc yL) (fz : LimIn w za zc zL) (htab : Tab w) (_ : Tab6 w) :
    Calls Tryd.prog 4 #[.agg #[.slice xa xL.length xc, .slice ya yL.length yc, .slice za zL.length zc], .agg #[.bool bx, .bool by_, .bool bz]] w fun e w' => e = .returned (.bool true) ∧ Only [] w w' := by
  cases hl : lightB [⟨xa, xL.length, xc⟩, ⟨ya, yL.length, yc⟩, ⟨za, zL.length, zc⟩] with
  | false => exact orders_out xa ya za _ xc _ yc _ zc bx by_ bz w (Lib.hid htab) hl
  | true =>
    have h := hl
    simp only [lightB, List.all_cons, List.all_nil, Bool.and_true, Bool.and_eq_true, decide_eq_true_eq] at h
    exact orders_in xa ya za _ xc _ yc _ zc bx by_ bz (val xL) (val yL) (val zL) _ _ _ w (Lib.hid htab) hl (Lib.hid (fx.nv h.1)) (Lib.hid (fy.nv h.2.1)) (Lib.hid (fz.nv h.2.2)) (Lib.hid rfl) (Lib.hid rfl) (Lib.hid rfl) (Lib.hid (val_40 fx.1.2 h.1)) (Lib.hid (val_40 fy.1.2 h.2.1)) (Lib.hid (val_40 fz.1.2 h.2.2))
end Go.Proofs.YtphjcphcgnjogaaDoor
