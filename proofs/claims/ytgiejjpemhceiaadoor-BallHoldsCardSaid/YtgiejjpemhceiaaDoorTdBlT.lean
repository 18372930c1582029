/-
  Balls in boxes: a list of boxes at hand, each with a ball in it; balls as values of a typed region.
-/
import Derived.Test.YtgiejjpemhceiaaDoorTdBlR
namespace Go.Proofs.YtgiejjpemhceiaaDoor
set_option linter.unusedSimpArgs false
open Go.RowKit

structure YX where
  g : Nat
  s : Bool
  a : Option Addr
  k : Nat
  c : Nat
  t : Bool
  b : Option Addr
  m : Nat
  d : Nat
  x : Dy
  y : Dy
def YX.cs (b : YX) : List Value := [.bool b.s, .slice b.a b.k b.c, .int .i64 b.x.e, .bool b.t, .slice b.b b.m b.d, .int .i64 b.y.e]
def YX.ok (w : World) (b : YX) : Prop := Blk w b.g 51 b.cs ∧ IV w (.agg #[.bool b.s, .slice b.a b.k b.c]) b.x.z ∧ IV w (.agg #[.bool b.t, .slice b.b b.m b.d]) b.y.z
structure YB (w0 w : World) (L : List YX) : Prop where
  only : Only [] w0 w
  all : ∀ (i : Nat) (x : YX), L[i]? = some x → YX.ok w x
  base : ∀ (i : Nat) (x : YX), L[i]? = some x → w0.heap.size ≤ x.g
  ne : ∀ (i j : Nat) (x y : YX), i ≠ j → L[i]? = some x → L[j]? = some y → x.g ≠ y.g
theorem YB.step {w0 w w' : World} {L : List YX} (h : YB w0 w L) (ho : Only [] w w') : YB w0 w' L := ⟨h.only.nil_trans ho, fun i x hx => ⟨(h.all i x hx).1.only ho (by simp), (h.all i x hx).2.1.only ho, (h.all i x hx).2.2.only ho⟩, h.base, h.ne⟩
theorem YB.new {w0 w : World} {L : List YX} (h : YB w0 w L) {s t : Bool} {A B : Option Addr} {k c m d : Nat} {x y : Dy} (hv : IV w (.agg #[.bool s, .slice A k c]) x.z) (hv' : IV w (.agg #[.bool t, .slice B m d]) y.z) :
    YB w0 (w.alloc (.cells #[.bool s, .slice A k c, .int .i64 x.e, .bool t, .slice B m d, .int .i64 y.e] 51)) (⟨w.heap.size, s, A, k, c, t, B, m, d, x, y⟩ :: L) := by
  have ho : Only [] w (w.alloc (.cells #[.bool s, .slice A k c, .int .i64 x.e, .bool t, .slice B m d, .int .i64 y.e] 51)) := (Only.refl [] w).alloc _
  have h' := h.step ho
  refine ⟨h'.only, fun i y hy => ?_, fun i y hy => ?_, fun i j y z hij hy hz => ?_⟩
  · rcases i with _ | i
    · obtain rfl := (Option.some.inj hy).symm
      exact ⟨Blk.new w _ _, hv.only ho, hv'.only ho⟩
    · exact h'.all i y hy
  · rcases i with _ | i
    · obtain rfl := (Option.some.inj hy).symm
      exact h.only.size
    · exact h.base i y hy
  · rcases i with _ | i
    · rcases j with _ | j
      · omega
      · obtain rfl := (Option.some.inj hy).symm
        have := (h.all j z hz).1.lt
        show w.heap.size ≠ z.g
        omega
    · rcases j with _ | j
      · obtain rfl := (Option.some.inj hz).symm
        have := (h.all i y hy).1.lt
        show y.g ≠ w.heap.size
        omega
      · exact h.ne i j y z (by omega) hy hz
theorem YB.cells {w0 w : World} {L : List YX} (h : Hid (YB w0 w L)) (i : Nat) {g : Nat} {s t : Bool} {A B : Option Addr} {k c m d : Nat} {x y : Dy} (hi : L[i]? = some ⟨g, s, A, k, c, t, B, m, d, x, y⟩) :
    w.cell? ⟨g, 0, none⟩ = some (.bool s) ∧ w.cell? ⟨g, 1, none⟩ = some (.slice A k c) ∧ w.cell? ⟨g, 2, none⟩ = some (.int .i64 x.e) ∧ w.cell? ⟨g, 3, none⟩ = some (.bool t) ∧ w.cell? ⟨g, 4, none⟩ = some (.slice B m d) ∧ w.cell? ⟨g, 5, none⟩ = some (.int .i64 y.e) :=
  have hb := (h.out.all i _ hi).1
  ⟨hb.cell 0, hb.cell 1, hb.cell 2, hb.cell 3, hb.cell 4, hb.cell 5⟩
theorem YB.bv {w0 w : World} {L : List YX} (h : Hid (YB w0 w L)) (i : Nat) {g : Nat} {s t : Bool} {A B : Option Addr} {k c m d : Nat} {x y : Dy} (hi : L[i]? = some ⟨g, s, A, k, c, t, B, m, d, x, y⟩) : Hid (BV w (.agg #[.bool s, .slice A k c, .int .i64 x.e, .bool t, .slice B m d, .int .i64 y.e]) x y) :=
  have hb := (h.out.all i _ hi).2
  Lib.hid ⟨s, A, k, c, t, B, m, d, rfl, hb.1, hb.2⟩
theorem YB.lo {w0 w : World} {L : List YX} (h : Hid (YB w0 w L)) (i : Nat) {g : Nat} {s t : Bool} {A B : Option Addr} {k c m d : Nat} {x y : Dy} (hi : L[i]? = some ⟨g, s, A, k, c, t, B, m, d, x, y⟩) : Hid (DV w (.agg #[.bool s, .slice A k c, .int .i64 x.e]) x) := DV.of (Lib.hid (h.out.all i _ hi).2.1)
theorem YB.hi {w0 w : World} {L : List YX} (h : Hid (YB w0 w L)) (i : Nat) {g : Nat} {s t : Bool} {A B : Option Addr} {k c m d : Nat} {x y : Dy} (hi : L[i]? = some ⟨g, s, A, k, c, t, B, m, d, x, y⟩) : Hid (DV w (.agg #[.bool t, .slice B m d, .int .i64 y.e]) y) := DV.of (Lib.hid (h.out.all i _ hi).2.2)

/-! ### Balls as values -/
def isB (x y : Dy) : VP := fun v w => BV w v x y
theorem isB.lasts (x y : Dy) : Lasts (isB x y) := fun _ _ _ h ho => h.only ho
theorem all_isB {x y : Dy} {w : World} {K : Value → Prop} (h : ∀ s A k c t B m d, Hid (IV w (.agg #[.bool s, .slice A k c]) x.z) → Hid (IV w (.agg #[.bool t, .slice B m d]) y.z) → K (.agg #[.bool s, .slice A k c, .int .i64 x.e, .bool t, .slice B m d, .int .i64 y.e])) : ∀ v, isB x y v w → K v := fun v ⟨s, A, k, c, t, B, m, d, h1, h2, h3⟩ => by
  subst h1
  exact h s A k c t B m d h2 h3
theorem BV.of {w : World} {x y : Dy} {s t : Bool} {A B : Option Addr} {k c m d : Nat} (h : Hid (IV w (.agg #[.bool s, .slice A k c]) x.z)) (h' : Hid (IV w (.agg #[.bool t, .slice B m d]) y.z)) : Hid (BV w (.agg #[.bool s, .slice A k c, .int .i64 x.e, .bool t, .slice B m d, .int .i64 y.e]) x y) := ⟨s, A, k, c, t, B, m, d, rfl, h.out, h'.out⟩
theorem grow_b {f : FuncId} {args : Array Value} {w : World} {x y : Dy} (h : Calls Tryd.prog f args w (BPost x y w)) :
    Calls Tryd.prog f args w fun e w'' => ∃ u, e = .returned u ∧ Only [] w w'' ∧ isB x y u w'' :=
  h.mono fun _ _ ⟨s, A, k, c, t, B, m, d, h1, _, h2, _, h3, h4⟩ => ⟨_, h1, h4, s, A, k, c, t, B, m, d, rfl, h2, h3⟩
theorem grow_bv {f : FuncId} {args : Array Value} {w : World} {x y : Dy} (h : Calls Tryd.prog f args w (BVPost x y w)) :
    Calls Tryd.prog f args w fun e w'' => ∃ u, e = .returned u ∧ Only [] w w'' ∧ isB x y u w'' :=
  h.mono fun _ _ ⟨s, A, k, c, t, B, m, d, h1, h2, h3, h4⟩ => ⟨_, h1, h4, s, A, k, c, t, B, m, d, rfl, h2, h3⟩
end Go.Proofs.YtgiejjpemhceiaaDoor
