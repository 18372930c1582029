/-
  Joined texts.
-/
import Derived.Test.YtigpnopeacicpaaGreatDoorTnJ14
import Derived.Test.YtigpnopeacicpaaGreatDoorTnGDyP
import Derived.Test.YtigpnopeacicpaaGreatDoorTnJ8
/-
  Dyads in boxes; a first call whose answer is known (compasslaw3.alive).
-/
namespace Go.Proofs.YtigpnopeacicpaaGreatDoor
set_option linter.unusedSimpArgs false
open Go.RowKit

/-! ### Boxes of dyads -/

structure DX where
  g : Nat
  s : Bool
  a : Option Addr
  k : Nat
  c : Nat
  x : Dy

def DX.ok (w : World) (b : DX) : Prop := Blk w b.g 32 [.bool b.s, .slice b.a b.k b.c, .int .i64 b.x.e] ∧ IV w (.agg #[.bool b.s, .slice b.a b.k b.c]) b.x.z

structure DB (w0 w : World) (L : List DX) : Prop where
  only : Only [] w0 w
  all : ∀ (i : Nat) (x : DX), L[i]? = some x → DX.ok w x
  base : ∀ (i : Nat) (x : DX), L[i]? = some x → w0.heap.size ≤ x.g
  ne : ∀ (i j : Nat) (x y : DX), i ≠ j → L[i]? = some x → L[j]? = some y → x.g ≠ y.g

theorem DB.start (w : World) : DB w w [] := ⟨Only.refl _ _, fun i x h => by simp at h, fun i x h => by simp at h, fun i j x y _ h => by simp at h⟩

theorem DB.step {w0 w w' : World} {L : List DX} (h : DB w0 w L) (ho : Only [] w w') : DB w0 w' L := ⟨h.only.nil_trans ho, fun i x hx => ⟨(h.all i x hx).1.only ho (by simp), (h.all i x hx).2.only ho⟩, h.base, h.ne⟩

theorem DB.new {w0 w : World} {L : List DX} (h : DB w0 w L) {s : Bool} {A : Option Addr} {k c : Nat} {x : Dy} (hv : IV w (.agg #[.bool s, .slice A k c]) x.z) :
    DB w0 (w.alloc (.cells #[.bool s, .slice A k c, .int .i64 x.e] 32)) (⟨w.heap.size, s, A, k, c, x⟩ :: L) := by
  have ho : Only [] w (w.alloc (.cells #[.bool s, .slice A k c, .int .i64 x.e] 32)) := (Only.refl [] w).alloc _
  have h' := h.step ho
  refine ⟨h'.only, fun i y hy => ?_, fun i y hy => ?_, fun i j y z hij hy hz => ?_⟩
  · rcases i with _ | i
    · obtain rfl := (Option.some.inj hy).symm
      exact ⟨Blk.new w _ _, hv.only ho⟩
    · exact h'.all i y hy
  · rcases i with _ | i
    · obtain rfl := (Option.some.inj hy).symm
      exact h.only.size
    · exact h.base i y hy
  · rcases i with _ | i
    · rcases j with _ | j
      · omega
      · obtain rfl := (Option.some.inj hy).symm
        have := (h.all j z hz).1.lt
        show w.heap.size ≠ z.g
        omega
    · rcases j with _ | j
      · obtain rfl := (Option.some.inj hz).symm
        have := (h.all i y hy).1.lt
        show y.g ≠ w.heap.size
        omega
      · exact h.ne i j y z (by omega) hy hz

theorem DB.cells {w0 w : World} {L : List DX} (h : Hid (DB w0 w L)) (i : Nat) {g : Nat} {s : Bool} {A : Option Addr} {k c : Nat} {x : Dy} (hi : L[i]? = some ⟨g, s, A, k, c, x⟩) :
    w.cell? ⟨g, 0, none⟩ = some (.bool s) ∧ w.cell? ⟨g, 1, none⟩ = some (.slice A k c) ∧ w.cell? ⟨g, 2, none⟩ = some (.int .i64 x.e) ∧ w.frozen? ⟨g, 0, none⟩ = false ∧ w.frozen? ⟨g, 1, none⟩ = false ∧ w.frozen? ⟨g, 2, none⟩ = false :=
  have hb := (h.out.all i _ hi).1
  ⟨hb.cell 0, hb.cell 1, hb.cell 2, hb.frozen 0, hb.frozen 1, hb.frozen 2⟩

theorem DB.iv {w0 w : World} {L : List DX} (h : Hid (DB w0 w L)) (i : Nat) {g : Nat} {s : Bool} {A : Option Addr} {k c : Nat} {x : Dy} (hi : L[i]? = some ⟨g, s, A, k, c, x⟩) : Hid (IV w (.agg #[.bool s, .slice A k c]) x.z) := (h.out.all i _ hi).2

theorem DB.dv {w0 w : World} {L : List DX} (h : Hid (DB w0 w L)) (i : Nat) {g : Nat} {s : Bool} {A : Option Addr} {k c : Nat} {x : Dy} (hi : L[i]? = some ⟨g, s, A, k, c, x⟩) : Hid (DV w (.agg #[.bool s, .slice A k c, .int .i64 x.e]) x) := DV.of (DB.iv h i hi)

/-- Another number in a box. -/
theorem DB.put {w0 w : World} {L : List DX} (h : DB w0 w L) (i : Nat) {g : Nat} {s0 s : Bool} {A0 A : Option Addr} {k0 k c0 c : Nat} {x0 x : Dy} (hi : L[i]? = some ⟨g, s0, A0, k0, c0, x0⟩) (hv : IV w (.agg #[.bool s, .slice A k c]) x.z) :
    DB w0 (((w.setCell ⟨g, 0, none⟩ (.bool s)).setCell ⟨g, 1, none⟩ (.slice A k c)).setCell ⟨g, 2, none⟩ (.int .i64 x.e)) (L.set i ⟨g, s, A, k, c, x⟩) := by
  have hb := h.all i _ hi
  have ho := only_set3 w g (.bool s) (.slice A k c) (.int .i64 x.e)
  have hg : w0.heap.size ≤ g := h.base i _ hi
  have hlen : i < L.length := (List.getElem?_eq_some_iff.1 hi).1
  have far : ∀ {r : Bool} {C : Option Addr} {j l : Nat} {z : Int}, IV w (.agg #[.bool r, .slice C j l]) z → IV (((w.setCell ⟨g, 0, none⟩ (.bool s)).setCell ⟨g, 1, none⟩ (.slice A k c)).setCell ⟨g, 2, none⟩ (.int .i64 x.e)) (.agg #[.bool r, .slice C j l]) z := fun hiv =>
    hiv.farS ho (fun g' hg' => by rw [List.mem_singleton] at hg'; subst hg'; exact hiv.far_blk hb.1 (noLimb3 _ _ _ _ _))
  have hne : ∀ (j : Nat) (y : DX), L[j]? = some y → j ≠ i → y.g ≠ g := fun j y hy hj => h.ne j i y _ hj hy hi
  have key : ∀ (j : Nat) (y : DX), (L.set i ⟨g, s, A, k, c, x⟩)[j]? = some y → (j = i ∧ y = ⟨g, s, A, k, c, x⟩) ∨ (j ≠ i ∧ L[j]? = some y) := fun j y hy => by
    by_cases hij : i = j
    · subst hij
      rw [List.getElem?_set_self hlen] at hy
      exact .inl ⟨rfl, (Option.some.inj hy).symm⟩
    · rw [List.getElem?_set_ne hij] at hy
      exact .inr ⟨Ne.symm hij, hy⟩
  have gk : ∀ (j : Nat) (y : DX), (L.set i ⟨g, s, A, k, c, x⟩)[j]? = some y → ∃ y', L[j]? = some y' ∧ y'.g = y.g := fun j y hy => by
    rcases key j y hy with ⟨rfl, rfl⟩ | ⟨_, h2⟩
    · exact ⟨_, hi, rfl⟩
    · exact ⟨_, h2, rfl⟩
  refine ⟨h.only.trans ho (fun k hk => .inr (by simp at hk; omega)), fun j y hy => ?_, fun j y hy => ?_, fun j l y z hjl hy hz => ?_⟩
  · rcases key j y hy with ⟨rfl, rfl⟩ | ⟨h1, h2⟩
    · exact ⟨((hb.1.set_ 0 (.bool s)).set_ 1 (.slice A k c)).set_ 2 (.int .i64 x.e), far hv⟩
    · obtain ⟨h3, h4⟩ := h.all j y h2
      exact ⟨h3.only ho (by simp; exact hne j y h2 h1), far h4⟩
  · obtain ⟨y', h1, h2⟩ := gk j y hy
    have := h.base j y' h1; omega
  · obtain ⟨y', h1, h2⟩ := gk j y hy
    obtain ⟨z', h3, h4⟩ := gk l z hz
    have := h.ne j l y' z' hjl h1 h3; omega

/-- What else stands behind such a store. -/
theorem IV.set3 {w : World} {r : Bool} {C : Option Addr} {j l g : Nat} {z : Int} {t : TypeId} {cs : List Value} {x y u : Value} (h : IV w (.agg #[.bool r, .slice C j l]) z) (hb : Blk w g t cs) (hn : NoLimb cs) : IV (((w.setCell ⟨g, 0, none⟩ x).setCell ⟨g, 1, none⟩ y).setCell ⟨g, 2, none⟩ u) (.agg #[.bool r, .slice C j l]) z :=
  h.farS (only_set3 w g x y u) (fun g' hg' => by rw [List.mem_singleton] at hg'; subst hg'; exact h.far_blk hb hn)

theorem Blk.set3 {w : World} {g g' : Nat} {t : TypeId} {cs : List Value} {x y u : Value} (h : Blk w g t cs) (hne : g ≠ g') : Blk (((w.setCell ⟨g', 0, none⟩ x).setCell ⟨g', 1, none⟩ y).setCell ⟨g', 2, none⟩ u) g t cs := h.only (only_set3 w g' x y u) (by simp; exact hne)

/-! ### Small numbers -/

theorem nrm_eval {z e : Int} (k m : Nat) (h : z.natAbs = 2 ^ k * (2 * m + 1)) : nrm z e = ⟨sg (decide (z < 0)) (2 * m + 1), e + (k : Int)⟩ := by
  have h0 : z ≠ 0 := by
    intro hc
    rw [hc] at h
    have h1 : 0 < 2 ^ k := Nat.pow_pos (by omega)
    have h2 := Nat.mul_le_mul_left (2 ^ k) (show 1 ≤ 2 * m + 1 by omega)
    rw [← h] at h2
    have h3 : Int.natAbs 0 = 0 := rfl
    omega
  rw [nrm_nz e h0, h, lowN_is, Nat.mul_div_cancel_left _ (Nat.pow_pos (by omega))]

theorem nrm_3 : nrm 3 0 = ⟨3, 0⟩ := by rw [nrm_eval 0 1 (by decide)]; rfl

theorem bnd_s {z e : Int} (h1 : z.natAbs < 16) (h2 : -4 ≤ e) (h3 : e ≤ 4) : Bnd 4 ⟨z, e⟩ := ⟨h1, h2, h3⟩

end Go.Proofs.YtigpnopeacicpaaGreatDoor

/-
  Numbers as they are handed in: Of, Light; short.
-/
namespace Go.Proofs.YtigpnopeacicpaaGreatDoor
set_option linter.unusedSimpArgs false
open Go.RowKit

/-- A whole number that is read. -/
def isWV (z : Int) : VP := fun u w => ∃ s A k c, u = .agg #[.bool s, .slice A k c] ∧ IV w u z

theorem isWV.lasts (z : Int) : Lasts (isWV z) := fun _ _ _ ⟨s, A, k, c, h1, h4⟩ ho => ⟨s, A, k, c, h1, h4.only ho⟩

theorem all_isWV {z : Int} {w : World} {K : Value → Prop} (h : ∀ s A k c, Hid (IV w (.agg #[.bool s, .slice A k c]) z) → K (.agg #[.bool s, .slice A k c])) : ∀ v, isWV z v w → K v := fun v ⟨s, A, k, c, h1, h4⟩ => by
  subst h1
  exact h s A k c h4

/-- A number as it is handed in. -/
structure NR where
  s : Bool
  a : Option Addr
  n : Nat
  c : Nat
  e : Int

def NR.v (x : NR) : Value := .agg #[.bool x.s, .slice x.a x.n x.c, .int .i64 x.e]

def NR.ok (x : NR) : Bool := decide (x.n ≤ 40) && decide (-3000 ≤ x.e) && decide (x.e ≤ 3000)

end Go.Proofs.YtigpnopeacicpaaGreatDoor
