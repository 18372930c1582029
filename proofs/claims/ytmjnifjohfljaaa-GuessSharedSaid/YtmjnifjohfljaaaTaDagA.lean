/-
  THE SMALL FUNCTIONS OF dag, code, flo, fail: what each computes.
-/
import Derived.Test.YtmjnifjohfljaaaProg
import Derived.Test.YtmjnifjohfljaaaTaMem
namespace Go.Proofs.Ytmjnifjohfljaaa
open Go.RowKit

/-- A node as plain data: kind, the float64's bits, the operands. -/
structure Nd where
  k : Int
  f : Nat
  a : Int
  b : Int
  deriving DecidableEq
def Nd.val (n : Nd) : Value := .agg #[.int .i64 n.k, .float .f64 n.f, .int .i64 n.a, .int .i64 n.b]
def Nd.cells (n : Nd) : List Value := [.int .i64 n.k, .float .f64 n.f, .int .i64 n.a, .int .i64 n.b]
def Nd.keyVal (n : Nd) : Value := .agg #[.int .i64 n.k, .int .i64 n.a, .int .i64 n.b, .int .u64 (n.f : Int)]
def flat (ns : List Nd) : List Value := ns.flatMap Nd.cells

def finB (f : Nat) : Bool := decide (f / 4503599627370496 % 2048 ≠ 2047)
def fitsB (v : Int) : Bool := decide (0 ≤ v ∧ v ≤ 65535)
def validB (k : Int) (f : Nat) (a b : Int) : Bool :=
  decide ((k = 0 ∧ a = 0 ∧ b = 0) ∨ (1 ≤ k ∧ k ≤ 5 ∧ (k = 5 → b = 0) ∧ f = 0 ∧ 0 ≤ a ∧ a ≤ 65535 ∧ 0 ≤ b ∧ b ≤ 65535))
def hasB (n : Nat) (id : Int) : Bool := decide (0 ≤ id ∧ id < n)
def takesB (n : Nat) (k : Int) (f : Nat) (a b : Int) : Bool :=
  validB k f a b && (if k = 0 then finB f else if k = 5 then hasB n a else hasB n a && hasB n b)

theorem bits_run (b : Nat) (w : World) : (callFunc 22 #[.float .f64 b]).run Try.prog w = .ok (.value (.int .u64 (b : Int))) w := by
  kernel_rfl

theorem fin_arith (b : Nat) (hb : b < 18446744073709551616) : (bits BinOp.and IntKind.u64 ((b : Int) / 4503599627370496) 2047 != 2047) = finB b := by
  have h1 : ((b : Int) / 4503599627370496) = ((b / 4503599627370496 : Nat) : Int) := by omega
  rw [h1, show (2047 : Int) = ((2047 : Nat) : Int) from rfl, u64_and_nat _ _ (by omega) (by omega)]
  have h2 : (b / 4503599627370496) &&& 2047 = (b / 4503599627370496) % 2048 := Nat.and_two_pow_sub_one_eq_mod _ 11
  rw [h2]
  unfold finB
  rw [Bool.eq_iff_iff]
  simp
  omega

set_option maxHeartbeats 400000 in
theorem finite_any (b : Nat) (hb : b < 2 ^ 64) (w : World) :
    Calls Try.prog 14 #[.float .f64 b] w fun e w' => e = .returned (.bool (finB b)) ∧ w = w' := by
  have h := bits_run
  have hf := Lib.hid (fin_arith b hb)
  clear hb
  go_enter Try.func14, Try.ntmps14
  go_wp2
  go_ret
  exact ⟨by simp [hf.out], rfl⟩

set_option maxHeartbeats 400000 in
theorem fits_any (v : Int) (w : World) :
    Calls Try.prog 44 #[.int .i64 v] w fun e w' => e = .returned (.bool (fitsB v)) ∧ w = w' := by
  go_enter Try.func44, Try.ntmps44
  go_wp2
  all_goals (go_ret; refine ⟨?_, rfl⟩; simp [fitsB]; try omega)

set_option maxHeartbeats 800000 in
theorem cvalid_any (k : Int) (f : Nat) (a b : Int) (w : World) :
    Calls Try.prog 33 #[.agg #[.int .i64 k, .float .f64 f, .int .i64 a, .int .i64 b]] w fun e w' => e = .returned (.bool (validB k f a b)) ∧ Only [] w w' := by
  have h := bits_run
  go_enter Try.func33, Try.ntmps33
  go_wp2_with (go_at_call 44; (with_reducible refine (fits_any _ _).mono ?_); rintro e w' ⟨rfl, rfl⟩)
  all_goals go_ret
  all_goals (refine ⟨?_, ((Only.refl [] w).alloc _)⟩)
  all_goals clear h
  all_goals (simp_all [validB, fitsB]; try (first | omega | (rw [Bool.eq_iff_iff]; simp; done)))
end Go.Proofs.Ytmjnifjohfljaaa
