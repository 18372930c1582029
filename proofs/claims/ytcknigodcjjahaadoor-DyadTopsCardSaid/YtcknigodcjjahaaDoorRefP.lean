/-
  The reference's Parse.
-/
import Derived.Test.YtcknigodcjjahaaDoorRefD
import Derived.Test.YtcknigodcjjahaaDoorPars
namespace Go.Proofs.YtcknigodcjjahaaDoor
open Go.RowKit

theorem LRead.lt {w : World} {A : Option Addr} {xs : List Nat} (h : LRead w A xs) (h0 : 0 < xs.length) : ∀ a, A = some a → a.block < w.heap.size := by
  obtain ⟨b, o, rfl, hc⟩ := h 0 h0
  rintro a ha
  injection ha with ha
  subst ha
  exact World.block_lt_of_cell? w _ hc

theorem rmul_v {w : World} {a b : Value} {m n : Nat} (ha : Hid (RV w a m)) (hb : Hid (RV w b n)) (hfa : Hid (Few m)) (hfb : Hid (Few n)) : Calls Tryd.prog 24 #[a, b] w (RPost (m * n) w) := by
  obtain ⟨A, c, rfl, h1, h2⟩ := ha.out
  obtain ⟨B, d, rfl, k1, k2⟩ := hb.out
  have := hfa.out.digits
  have := hfb.out.digits
  have h := rmul_any A B _ _ c d (R.limbsOf m) (R.limbsOf n) w (Lib.hid h1) (Lib.hid k1) (Lib.hid (R.limb_limbsOf m)) (Lib.hid (R.limb_limbsOf n)) (Lib.hid rfl) (Lib.hid rfl) (by omega) (Lib.hid (fun a h h0 => h1.lt h0 a h)) (Lib.hid (fun a h h0 => k1.lt h0 a h))
  rw [R.val_limbsOf, R.val_limbsOf] at h
  exact h

theorem rsmall_lit (v : Nat) (z : Int) (w : World) (hv : Hid (v < BB)) (hz : Hid ((v : Int) = z)) : Calls Tryd.prog 39 #[.int .u64 z] w (RPost v w) := by
  have h := rsmall_any v w hv
  rw [hz.out] at h
  exact h

/-- What the reference's Parse leaves. -/
def RParsePost (l : List UInt8) (w : World) (e : Ending) (w' : World) : Prop :=
  (parseN l = none ∧ e = .returned (.tuple #[.slice none 0 0, .bool false]) ∧ Only [] w w') ∨
  (∃ n A k c, parseN l = some n ∧ e = .returned (.tuple #[.slice A k c, .bool true]) ∧ RV w' (.slice A k c) n ∧ Only [] w w')

end Go.Proofs.YtcknigodcjjahaaDoor
