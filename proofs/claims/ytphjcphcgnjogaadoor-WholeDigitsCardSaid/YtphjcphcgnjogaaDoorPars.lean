/-
  nat.Parse: the number of decimal digits.
-/
import Derived.Test.YtphjcphcgnjogaaDoorScl
import Derived.Laws.MakeOwn
namespace Go.Proofs.YtphjcphcgnjogaaDoor
open Go.RowKit

def isDig (c : UInt8) : Bool := decide (48 ≤ (c.toNat : Int)) && decide ((c.toNat : Int) ≤ 57)
theorem isDig_iff (c : UInt8) : isDig c = true ↔ 48 ≤ c.toNat ∧ c.toNat ≤ 57 := by
  unfold isDig
  rw [Bool.and_eq_true, decide_eq_true_eq, decide_eq_true_eq]
  omega
/-- What digits are worth. -/
def dval (l : List UInt8) : Nat := l.foldl (fun n c => n * 10 + (c.toNat - 48)) 0
theorem dval_nil : dval [] = 0 := rfl
theorem dval_snoc (l : List UInt8) (c : UInt8) : dval (l ++ [c]) = dval l * 10 + (c.toNat - 48) := by simp [dval, List.foldl_append]
theorem dval_from : ∀ (m : List UInt8) (n : Nat), m.foldl (fun n c => n * 10 + (c.toNat - 48)) n = n * 10 ^ m.length + dval m
  | [], n => by simp [dval]
  | c :: m, n => by
    unfold dval
    rw [List.foldl_cons, List.foldl_cons, dval_from m, dval_from m (0 * 10 + (c.toNat - 48)), List.length_cons, Nat.pow_succ, Nat.zero_mul, Nat.zero_add, Nat.add_mul, Nat.mul_comm (10 ^ m.length) 10, ← Nat.mul_assoc]
    omega
theorem dval_append (l m : List UInt8) : dval (l ++ m) = dval l * 10 ^ m.length + dval m := by
  unfold dval
  rw [List.foldl_append, dval_from]
  rfl
theorem dval_lt : ∀ (m : List UInt8), m.all isDig = true → dval m < 10 ^ m.length
  | [], _ => by simp [dval]
  | c :: m, h => by
    rw [List.all_cons, Bool.and_eq_true] at h
    have h1 := (isDig_iff c).1 h.1
    have h2 := dval_lt m h.2
    have e : dval (c :: m) = (c.toNat - 48) * 10 ^ m.length + dval m := by
      have := dval_append [c] m
      rw [List.singleton_append] at this
      rw [this]
      simp [dval]
    rw [e, List.length_cons, Nat.pow_succ]
    have h3 : (c.toNat - 48) * 10 ^ m.length ≤ 9 * 10 ^ m.length := Nat.mul_le_mul_right _ (by omega)
    omega
/-- What a stretch of digits is worth. -/
def dseg (l : List UInt8) (s k : Nat) : Nat := dval ((l.drop s).take (k - s))
theorem dseg_self (l : List UInt8) (s : Nat) : dseg l s s = 0 := by unfold dseg; rw [Nat.sub_self, List.take_zero]; rfl
theorem dseg_succ (l : List UInt8) (s k : Nat) (hs : s ≤ k) (hk : k < l.length) : dseg l s (k + 1) = dseg l s k * 10 + ((l[k]?.getD 0).toNat - 48) := by
  unfold dseg
  have h1 : k + 1 - s = (k - s) + 1 := by omega
  have h2 : k - s < (l.drop s).length := by rw [List.length_drop]; omega
  rw [h1, List.take_succ_eq_append_getElem h2, dval_snoc, List.getElem_drop]
  congr 2
  rw [List.getElem?_eq_getElem hk]
  simp only [Option.getD_some]
  congr 1
  simp [show s + (k - s) = k by omega]
theorem dval_seg (l : List UInt8) (s e : Nat) (hs : s ≤ e) (he : e ≤ l.length) : dval (l.take e) = dval (l.take s) * 10 ^ (e - s) + dseg l s e := by
  have h : l.take e = l.take s ++ (l.drop s).take (e - s) := by
    have h1 := List.take_add (l := l) (i := s) (j := e - s)
    rw [show s + (e - s) = e by omega] at h1
    exact h1
  rw [h, dval_append]
  unfold dseg
  rw [List.length_take, List.length_drop, Nat.min_eq_left (by omega)]
theorem dseg_lt (l : List UInt8) (s k : Nat) (hs : s ≤ k) (hk : k ≤ l.length) (h : l.all isDig = true) : dseg l s k < 10 ^ (k - s) := by
  unfold dseg
  have h1 : ((l.drop s).take (k - s)).all isDig = true := by
    rw [List.all_eq_true] at h ⊢
    exact fun x hx => h x (List.mem_of_mem_drop (List.mem_of_mem_take hx))
  have h2 := dval_lt _ h1
  rwa [List.length_take, List.length_drop, Nat.min_eq_left (by omega)] at h2
/-- What Parse tells. -/
def parseN (l : List UInt8) : Option Nat := if l.length = 0 ∨ 20000 < l.length then none else if l.all isDig = true then some (dval l) else none
theorem parse_none1 {l : List UInt8} (h : l.length = 0 ∨ 20000 < l.length) : parseN l = none := by unfold parseN; rw [if_pos h]
theorem parse_none2 {l : List UInt8} {k : Nat} (hk : k < l.length) (h : isDig (l[k]?.getD 0) = false) : parseN l = none := by
  unfold parseN
  split
  · rfl
  · rw [if_neg]
    intro ha
    rw [List.all_eq_true] at ha
    have := ha l[k] (List.getElem_mem hk)
    rw [List.getElem?_eq_getElem hk, Option.getD_some] at h
    rw [h] at this
    cases this
theorem parse_some {l : List UInt8} (h1 : l.length ≠ 0) (h2 : l.length ≤ 20000) (h : l.all isDig = true) : parseN l = some (dval l) := by
  unfold parseN
  rw [if_neg (by omega), if_pos h]
/-- What Parse leaves. -/
def ParsePost (l : List UInt8) (w : World) (e : Ending) (w' : World) : Prop :=
  (parseN l = none ∧ e = .returned (.tuple #[.slice none 0 0, .bool false]) ∧ Only [] w w') ∨
  (∃ n A k c u, u = .slice A k c ∧ parseN l = some n ∧ e = .returned (.tuple #[.slice A k c, .bool true]) ∧ Res w w' u n ∧ NV w' u n ∧ Only [] w w')

end Go.Proofs.YtphjcphcgnjogaaDoor
