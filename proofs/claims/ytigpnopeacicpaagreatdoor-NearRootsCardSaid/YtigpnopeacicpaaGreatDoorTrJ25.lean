/-
  Joined texts.
-/
import Derived.Test.YtigpnopeacicpaaGreatDoorTrJ19
import Derived.Test.YtigpnopeacicpaaGreatDoorTrGRd
/-
  Balls: Quo.
-/
namespace Go.Proofs.YtigpnopeacicpaaGreatDoor
set_option linter.unusedSimpArgs false
open Go.RowKit

structure IX where
  s : Bool
  a : Option Addr
  k : Nat
  c : Nat
  z : Int
def IVL (w : World) (L : List IX) : Prop := ∀ (i : Nat) (y : IX), L[i]? = some y → IV w (.agg #[.bool y.s, .slice y.a y.k y.c]) y.z
theorem IVL.nil (w : World) : IVL w [] := fun i y h => by simp at h
theorem IVL.cons {w : World} {L : List IX} (h : IVL w L) {s : Bool} {A : Option Addr} {k c : Nat} {z : Int} (hv : IV w (.agg #[.bool s, .slice A k c]) z) : IVL w (⟨s, A, k, c, z⟩ :: L) := fun i y hy => by
  rcases i with _ | i
  · obtain rfl := (Option.some.inj hy).symm; exact hv
  · exact h i y hy
theorem IVL.step {w w' : World} {L : List IX} (h : IVL w L) (ho : Only [] w w') : IVL w' L := fun i y hy => (h i y hy).only ho
theorem IVL.far3 {w : World} {L : List IX} (h : IVL w L) {g : Nat} {t : TypeId} {cs : List Value} {x y u : Value} (hb : Blk w g t cs) (hn : NoLimb cs) : IVL (((w.setCell ⟨g, 0, none⟩ x).setCell ⟨g, 1, none⟩ y).setCell ⟨g, 2, none⟩ u) L := fun i z hz => (h i z hz).set3 hb hn
theorem IVL.at {w : World} {L : List IX} (h : Hid (IVL w L)) (i : Nat) {s : Bool} {A : Option Addr} {k c : Nat} {z : Int} (hi : L[i]? = some ⟨s, A, k, c, z⟩) : Hid (IV w (.agg #[.bool s, .slice A k c]) z) := h.out i _ hi
theorem KB.far3 {w0 w : World} {L : List EB} (h : KB w0 w L) {g : Nat} {u v x : Value} (hne : ∀ (j : Nat) (y : EB), L[j]? = some y → y.g ≠ g) (hg : w0.heap.size ≤ g) : KB w0 (((w.setCell ⟨g, 0, none⟩ u).setCell ⟨g, 1, none⟩ v).setCell ⟨g, 2, none⟩ x) L :=
  ⟨h.only.trans (only_set3 w g u v x) (fun k hk => .inr (by simp at hk; omega)), fun j y hj => (h.all j y hj).only (only_set3 w g u v x) (by simp; exact hne j y hj)⟩
theorem DB.tail {w0 w : World} {L : List DX} {b : DX} (h : DB w0 w (b :: L)) : DB w0 w L :=
  ⟨h.only, fun i x hx => h.all (i + 1) x hx, fun i x hx => h.base (i + 1) x hx, fun i j x y hij hx hy => h.ne (i + 1) (j + 1) x y (by omega) hx hy⟩
theorem ne3 {a b c : EB} {g : Nat} (h1 : a.g ≠ g) (h2 : b.g ≠ g) (h3 : c.g ≠ g) : ∀ (j : Nat) (y : EB), [a, b, c][j]? = some y → y.g ≠ g := fun j y hy => by
  rcases j with _ | _ | _ | j
  · obtain rfl := (Option.some.inj hy).symm; exact h1
  · obtain rfl := (Option.some.inj hy).symm; exact h2
  · obtain rfl := (Option.some.inj hy).symm; exact h3
  · simp at hy
def QBPost (x y : Dy) (ok : Bool) (w : World) (e : Ending) (w' : World) : Prop := ∃ s A k c t B m d, e = .returned (.tuple #[.agg #[.bool s, .slice A k c, .int .i64 x.e, .bool t, .slice B m d, .int .i64 y.e], .bool ok]) ∧ Cn s k x.z ∧ IV w' (.agg #[.bool s, .slice A k c]) x.z ∧ Cn t m y.z ∧ IV w' (.agg #[.bool t, .slice B m d]) y.z ∧ Only [] w w'
theorem qbfin {ok : Bool} {x y : Dy} {w w1 w2 : World} {b : Nat} {t : TypeId} {cs : List Value} {s s' : Bool} {A A' : Option Addr} {k c k' c' : Nat} (hc : Hid (Cn s k x.z)) (hv : Hid (IV w1 (.agg #[.bool s, .slice A k c]) x.z)) (hc' : Hid (Cn s' k' y.z)) (hv' : Hid (IV w1 (.agg #[.bool s', .slice A' k' c']) y.z)) (hb : w.heap.size ≤ b) (hB : Blk w1 b t cs) (hn : NoLimb cs) (ho : Only [] w w1) (ho2 : Only [b] w1 w2) :
    QBPost x y ok w (.returned (.tuple #[.agg #[.bool s, .slice A k c, .int .i64 x.e, .bool s', .slice A' k' c', .int .i64 y.e], .bool ok])) w2 :=
  ⟨s, A, k, c, s', A', k', c', rfl, hc.out, hv.out.farS ho2 (fun g hg => by rw [List.mem_singleton] at hg; subst hg; exact hv.out.far_blk hB hn), hc'.out, hv'.out.farS ho2 (fun g hg => by rw [List.mem_singleton] at hg; subst hg; exact hv'.out.far_blk hB hn), ho.trans ho2 (fun k hk => .inr (by simp at hk; omega))⟩
def at5 (n : Nat) (a b c d e : Dy) : Dy := match n with | 0 => a | 1 => b | 2 => c | 3 => d | _ => e
end Go.Proofs.YtigpnopeacicpaaGreatDoor

/-
  Balls: Quo, whatever comes in; compasslaw5.alive.
-/
namespace Go.Proofs.YtigpnopeacicpaaGreatDoor
set_option linter.unusedSimpArgs false
open Go.RowKit

def minD (a b : Dy) : Dy := if b.q < a.q then b else a
def maxD (a b : Dy) : Dy := if a.q < b.q then b else a
theorem cmpQ_lt0 {a b : Rat} : cmpQ a b < 0 ↔ a < b := by
  rcases rat_tri a b with h | h | h
  · rw [cmpQ_lt h]; exact ⟨fun _ => h, fun _ => by decide⟩
  · rw [cmpQ_eq h]; exact ⟨fun hc => absurd hc (by decide), fun hc => absurd hc (by grind)⟩
  · rw [cmpQ_gt h]; exact ⟨fun hc => absurd hc (by decide), fun hc => absurd hc (by grind)⟩
theorem cmpQ_gt0 {a b : Rat} : 0 < cmpQ a b ↔ b < a := by
  rcases rat_tri a b with h | h | h
  · rw [cmpQ_lt h]; exact ⟨fun hc => absurd hc (by decide), fun hc => absurd hc (by grind)⟩
  · rw [cmpQ_eq h]; exact ⟨fun hc => absurd hc (by decide), fun hc => absurd hc (by grind)⟩
  · rw [cmpQ_gt h]; exact ⟨fun _ => h, fun _ => by decide⟩
theorem minD_pick (a b : Dy) : (cmpQ b.q a.q < 0 → b = minD a b) ∧ (¬ cmpQ b.q a.q < 0 → a = minD a b) := by
  rw [cmpQ_lt0]
  unfold minD
  exact ⟨fun h => by rw [if_pos h], fun h => by rw [if_neg h]⟩
theorem maxD_pick (a b : Dy) : (0 < cmpQ b.q a.q → b = maxD a b) ∧ (¬ 0 < cmpQ b.q a.q → a = maxD a b) := by
  rw [cmpQ_gt0]
  unfold maxD
  exact ⟨fun h => by rw [if_pos h], fun h => by rw [if_neg h]⟩
theorem minD_bnd {N : Nat} {a b : Dy} (h : Bnd N a) (h' : Bnd N b) : Bnd N (minD a b) := by unfold minD; split <;> assumption
theorem maxD_bnd {N : Nat} {a b : Dy} (h : Bnd N a) (h' : Bnd N b) : Bnd N (maxD a b) := by unfold maxD; split <;> assumption
theorem atV_b {w : World} {a : Value} {x : Dy} {N : Nat} (r : Dy) (hr : nrm x.z x.e = r) (ha : Hid (DV w a x)) (bx : Hid (Bnd N x)) (hN : N ≤ 8000000) (hT : Hid (Tab6 w)) : Calls Tryz.prog 32 #[a] w (BPost r r w) := hr ▸ at_b ha bx hN hT
end Go.Proofs.YtigpnopeacicpaaGreatDoor

/-
  Balls, plain: rounding grows with the number and with the width; products and quotients of corners.
-/
namespace Go.Proofs.YtigpnopeacicpaaGreatDoor
set_option linter.unusedSimpArgs false

theorem Short.mono {P P' : Nat} {s : Dy} (h : Short P s) (hP : P ≤ P') : Short P' s := Nat.lt_of_lt_of_le h (two_mono hP)
def mulLo (x y u v : Dy) : Dy := minD (minD (minD (dMul x u) (dMul x v)) (dMul y u)) (dMul y v)
def mulHi (x y u v : Dy) : Dy := maxD (maxD (maxD (dMul x u) (dMul x v)) (dMul y u)) (dMul y v)
end Go.Proofs.YtigpnopeacicpaaGreatDoor
