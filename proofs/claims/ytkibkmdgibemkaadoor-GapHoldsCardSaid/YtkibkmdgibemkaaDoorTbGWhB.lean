/-
  Whole numbers: sums and products of several.
-/
import Derived.Test.YtkibkmdgibemkaaDoorTbGWhA
import Derived.Test.YtkibkmdgibemkaaDoorTbGNatA
import Derived.ProofKit
import Derived.OpenShut
import Derived.ShutString
import Derived.ChangeOld
import Derived.Below
import Derived.Deep.Slices
import Derived.Deep.Fields
import Derived.ChangeSame
namespace Go.Proofs.YtkibkmdgibemkaaDoor
open Go.RowKit
set_option linter.unusedSimpArgs false

/-- A whole number's value in a row. -/
structure WI where
  s : Bool
  a : Option Addr
  n : Nat
  c : Nat
  z : Int
def WI.v (x : WI) : Value := .agg #[.bool x.s, .slice x.a x.n x.c]
def WsRead (w : World) (A : Option Addr) (L : List WI) : Prop :=
  ∀ (k : Nat) (hk : k < L.length), ∃ b o, A = some ⟨b, o, none⟩ ∧ w.cell? ⟨b, o + k * 2, none⟩ = some (.bool L[k].s) ∧ w.cell? ⟨b, o + k * 2 + 1, none⟩ = some (.slice L[k].a L[k].n L[k].c) ∧ IV w L[k].v L[k].z
theorem WsRead.only {w w' : World} {A : Option Addr} {L : List WI} (h : WsRead w A L) (ho : Only [] w w') : WsRead w' A L := fun k hk => by
  obtain ⟨b, o, h1, h2, h3, h4⟩ := h k hk
  exact ⟨b, o, h1, ho.cell h2 (by simp), ho.cell h3 (by simp), h4.only ho⟩
/-- The loop over a row: the number so far. -/
structure WLoop (w w1 wr : World) (b g : Nat) (s : Bool) (A : Option Addr) (k c : Nat) (z : Int) : Prop where
  only : Only [] w wr
  lt : w.heap.size = b
  sz : w1.heap.size = b + 2
  gt : b + 1 < g
  b0 : Blk wr (b + 1) 35 [.bool false, .slice none 0 0]
  b1 : Blk wr g 35 [.bool s, .slice A k c]
  sign : s = decide (z < 0)
  res : Res w1 wr (.slice A k c) z.natAbs
  iv : IV wr (.agg #[.bool s, .slice A k c]) z
theorem WLoop.step {w w1 wr w' : World} {b g : Nat} {s : Bool} {A : Option Addr} {k c : Nat} {z : Int} (h : WLoop w w1 wr b g s A k c z) (ho : Only [] wr w') : WLoop w w1 w' b g s A k c z :=
  ⟨h.only.nil_trans ho, h.lt, h.sz, h.gt, h.b0.only ho (by simp), h.b1.only ho (by simp), h.sign, h.res.nil ho, h.iv.only ho⟩
theorem WLoop.cells {w w1 wr : World} {b g : Nat} {s : Bool} {A : Option Addr} {k c : Nat} {z : Int} (h : WLoop w w1 wr b g s A k c z) :
    wr.cell? ⟨g, 0, none⟩ = some (.bool s) ∧ wr.cell? ⟨g, 1, none⟩ = some (.slice A k c) ∧ wr.frozen? ⟨g, 0, none⟩ = false ∧ wr.frozen? ⟨g, 1, none⟩ = false ∧
    wr.cell? ⟨b + 1, 0, none⟩ = some (.bool false) ∧ wr.cell? ⟨b + 1, 1, none⟩ = some (.slice none 0 0) ∧ wr.frozen? ⟨b + 1, 0, none⟩ = false ∧ wr.frozen? ⟨b + 1, 1, none⟩ = false :=
  ⟨h.b1.cell 0, h.b1.cell 1, h.b1.frozen 0, h.b1.frozen 1, h.b0.cell 0, h.b0.cell 1, h.b0.frozen 0, h.b0.frozen 1⟩
/-- A new number, written over the old one. -/
theorem WLoop.set_ {w w1 wr wx : World} {b g : Nat} {s s' : Bool} {A A' : Option Addr} {k c k' c' : Nat} {z z' : Int} (h : WLoop w w1 wr b g s A k c z) (h2 : s' = decide (z' < 0) ∧ Res wx wr (.slice A' k' c') z'.natAbs) (hw : b + 2 ≤ wx.heap.size) (hg : g < wx.heap.size) (hf : Few z'.natAbs) :
    WLoop w w1 ((wr.setCell ⟨g, 0, none⟩ (.bool s')).setCell ⟨g, 1, none⟩ (.slice A' k' c')) b g s' A' k' c' z' := by
  have ho := only_set2 wr g (.bool s') (.slice A' k' c')
  have hr : Res w1 ((wr.setCell ⟨g, 0, none⟩ (.bool s')).setCell ⟨g, 1, none⟩ (.slice A' k' c')) (.slice A' k' c') z'.natAbs := (h2.2.only ho (fun x hx hc => by
    have := h2.2.fresh x hx
    simp at hc
    omega)).pre (by rw [h.sz]; exact hw)
  have hb1 := (h.b1.set_ 0 (.bool s')).set_ 1 (.slice A' k' c')
  have hgw := h.gt
  have hlt := h.lt
  refine ⟨h.only.trans ho (fun x hx => .inr (by simp at hx; omega)), h.lt, h.sz, h.gt, h.b0.only ho (by simp; omega), hb1, h2.1, hr, ?_⟩
  exact ⟨s', A', k', c', _, rfl, NV.of_res hr hf, by rw [h2.1, sg_self]⟩
end Go.Proofs.YtkibkmdgibemkaaDoor
/-
  Whole numbers: quotients.
-/
namespace Go.Proofs.YtkibkmdgibemkaaDoor
open Go.RowKit
set_option linter.unusedSimpArgs false

end Go.Proofs.YtkibkmdgibemkaaDoor
/-
  Whole numbers: digits.
-/
namespace Go.Proofs.YtkibkmdgibemkaaDoor
open Go.RowKit
set_option linter.unusedSimpArgs false

end Go.Proofs.YtkibkmdgibemkaaDoor
/-
  Whole numbers: boxes at hand, rows of one, alive.
-/
namespace Go.Proofs.YtkibkmdgibemkaaDoor
open Go.RowKit
set_option linter.unusedSimpArgs false

theorem growIf_no {P : Program} {l : List Oper} {o : Oper} {a : Act} {w : World} {p : VP} {g : Nat} {want b : Bool} {d : Nat} (h : o.guard = some (g, want)) (hd : dstOf l g = some d) (hv : a.tmps[d]? = some (.bool b)) (hb : want = !b) (hh : p undef w) : growIf P l o a w p := by
  have hd' : (l.toArray[g]?).bind (·.dst) = some d := by unfold dstOf at hd; simpa using hd
  subst hb
  unfold growIf Region.wanted yielded
  rw [h]
  simp only [hd', Option.bind_some, hv]
  cases b <;> exact hh
/-- A whole number in a block of its own. -/
structure BX where
  g : Nat
  s : Bool
  a : Option Addr
  k : Nat
  c : Nat
  z : Int
def BX.v (x : BX) : Value := .agg #[.bool x.s, .slice x.a x.k x.c]
def BX.ok (w : World) (x : BX) : Prop := Blk w x.g 35 [.bool x.s, .slice x.a x.k x.c] ∧ IV w x.v x.z
/-- The boxes at hand. -/
structure WB (w0 w : World) (L : List BX) : Prop where
  only : Only [] w0 w
  all : ∀ (i : Nat) (x : BX), L[i]? = some x → BX.ok w x
theorem WB.step {w0 w w' : World} {L : List BX} (h : WB w0 w L) (ho : Only [] w w') : WB w0 w' L := ⟨h.only.nil_trans ho, fun i x hx => ⟨(h.all i x hx).1.only ho (by simp), (h.all i x hx).2.only ho⟩⟩
theorem WB.push {w0 w : World} {L : List BX} (h : WB w0 w L) {x : BX} (hx : BX.ok w x) : WB w0 w (x :: L) := ⟨h.only, fun i y hy => by
  cases i with
  | zero => simp at hy; subst hy; exact hx
  | succ i => exact h.all i y (by simpa using hy)⟩
/-- A new box. -/
theorem WB.new {w0 w : World} {L : List BX} (h : WB w0 w L) {s : Bool} {A : Option Addr} {k c : Nat} {z : Int} (hv : IV w (.agg #[.bool s, .slice A k c]) z) : WB w0 (w.alloc (.cells #[.bool s, .slice A k c] 35)) (⟨w.heap.size, s, A, k, c, z⟩ :: L) := by
  have ho : Only [] w (w.alloc (.cells #[.bool s, .slice A k c] 35)) := (Only.refl [] w).alloc _
  exact (h.step ho).push ⟨Blk.new w 35 [.bool s, .slice A k c], hv.only ho⟩
theorem WB.iv {w0 w : World} {L : List BX} (h : Hid (WB w0 w L)) (i : Nat) {g : Nat} {s : Bool} {A : Option Addr} {k c : Nat} {z : Int} (hi : L[i]? = some ⟨g, s, A, k, c, z⟩) : Hid (IV w (.agg #[.bool s, .slice A k c]) z) := (h.out.all i _ hi).2
theorem WB.blk {w0 w : World} {L : List BX} (h : Hid (WB w0 w L)) (i : Nat) {g : Nat} {s : Bool} {A : Option Addr} {k c : Nat} {z : Int} (hi : L[i]? = some ⟨g, s, A, k, c, z⟩) : Blk w g 35 [.bool s, .slice A k c] := (h.out.all i _ hi).1
theorem WB.cells {w0 w : World} {L : List BX} (h : Hid (WB w0 w L)) (i : Nat) {g : Nat} {s : Bool} {A : Option Addr} {k c : Nat} {z : Int} (hi : L[i]? = some ⟨g, s, A, k, c, z⟩) :
    w.cell? ⟨g, 0, none⟩ = some (.bool s) ∧ w.cell? ⟨g, 1, none⟩ = some (.slice A k c) ∧ w.frozen? ⟨g, 0, none⟩ = false ∧ w.frozen? ⟨g, 1, none⟩ = false :=
  ⟨(WB.blk h i hi).cell 0, (WB.blk h i hi).cell 1, (WB.blk h i hi).frozen 0, (WB.blk h i hi).frozen 1⟩

theorem all_isRow {t : TypeId} {n : Nat} {cs : List Value} {w : World} {K : Value → Prop} (h : ∀ g, Hid (Blk w g t cs) → K (.slice (some ⟨g, 0, none⟩) n n)) : ∀ v, isRow t n cs v w → K v := fun v ⟨g, h1, h2⟩ => by
  subst h1
  exact h g h2
/-- A new struct's block. -/
def isPtr (w0 : World) (t : TypeId) (cs : List Value) : VP := fun u w => ∃ g, u = .pointer (some ⟨g, 0, none⟩) ∧ Blk w g t cs ∧ w0.heap.size ≤ g
theorem isPtr.lasts (w0 : World) (t : TypeId) (cs : List Value) : Lasts (isPtr w0 t cs) := fun _ _ _ ⟨g, h1, h2, h3⟩ ho => ⟨g, h1, h2.only ho (by simp), h3⟩
theorem isPtr.new {w0 w : World} (ho : Only [] w0 w) (t : TypeId) (cs : List Value) : Only [] w (w.alloc (.cells cs.toArray t)) ∧ isPtr w0 t cs (.pointer (some ⟨w.heap.size, 0, none⟩)) (w.alloc (.cells cs.toArray t)) := ⟨(Only.refl [] w).alloc _, _, rfl, Blk.new w t cs, ho.size⟩
theorem all_isPtr {w0 : World} {t : TypeId} {cs : List Value} {w : World} {K : Value → Prop} (h : ∀ g, Hid (Blk w g t cs) → Hid (w0.heap.size ≤ g) → K (.pointer (some ⟨g, 0, none⟩))) : ∀ v, isPtr w0 t cs v w → K v := fun v ⟨g, h1, h2, h3⟩ => by
  subst h1
  exact h g h2 h3
theorem cmpV_w {w : World} {a b : Value} {x y : Int} (c : Int) (ha : Hid (IV w a x)) (hb : Hid (IV w b y)) (hc : cmpI x y = c) : Calls Tryd.prog 30 #[a, b] w fun e w' => e = .returned (.int .i64 c) ∧ Only [] w w' := hc ▸ cmp_w ha hb
section
variable {l : List Oper} {Ps : List VP} {w : World} {K : Act → Prop} {a : Act} {i : Nat} {is : List Nat}
end
end Go.Proofs.YtkibkmdgibemkaaDoor
/-
  Whole numbers: rows of whole numbers that grow.
-/
namespace Go.Proofs.YtkibkmdgibemkaaDoor
open Go.RowKit
set_option linter.unusedSimpArgs false

/-- A number's limbs lie elsewhere than in the block g. -/
def Far (g : Nat) (a : Option Addr) (k : Nat) : Prop := 0 < k → ∀ p, a = some p → p.block ≠ g
theorem NV.farS {w w' : World} {S : List Nat} {A : Option Addr} {k c n : Nat} (h : NV w (.slice A k c) n) (ho : Only S w w') (hf : ∀ g ∈ S, Far g A k) : NV w' (.slice A k c) n := by
  obtain ⟨A', c', xs, e, h2, h3, h4, h5⟩ := h
  injection e with e1 e2 e3
  subst e1 e3
  refine ⟨A, c, xs, by rw [e2], ⟨fun j hj => ?_, h2.limb, h2.len⟩, h3, h4, h5⟩
  obtain ⟨b, o, e3, hc⟩ := h2.read j hj
  exact ⟨b, o, e3, ho.cell hc (fun hm => hf b hm (by omega) _ e3 rfl)⟩
theorem IV.farS {w w' : World} {S : List Nat} {s : Bool} {A : Option Addr} {k c : Nat} {z : Int} (h : IV w (.agg #[.bool s, .slice A k c]) z) (ho : Only S w w') (hf : ∀ g ∈ S, Far g A k) : IV w' (.agg #[.bool s, .slice A k c]) z :=
  ⟨s, A, k, c, _, rfl, h.mag.farS ho hf, h.sign⟩
/-- A box's block holds no limbs. -/
theorem IV.far_box {w : World} {s s' : Bool} {A A' : Option Addr} {k c k' c' g : Nat} {z : Int} {t : TypeId} (h : IV w (.agg #[.bool s, .slice A k c]) z) (hb : Blk w g t [.bool s', .slice A' k' c']) : Far g A k := fun hk p hp hc => by
  obtain ⟨A1, c1, xs, e, h2, h3, h4, h5⟩ := h.mag
  injection e with e1 e2 e3
  subst e1 e2
  obtain ⟨b, o, e2, hcell⟩ := h2.read 0 hk
  rw [hp] at e2
  injection e2 with e2
  subst e2
  simp only at hc
  subst hc
  rw [hb.cell] at hcell
  rcases o with _ | _ | o <;> simp at hcell
theorem Res.far {w0 w : World} {A : Option Addr} {k c n g : Nat} (h : Res w0 w (.slice A k c) n) (hg : g < w0.heap.size) : Far g A k := fun hk p hp hc => by
  subst hp
  have hb := h.fresh p.block
  rcases h.at_.2 with ⟨e, h0⟩ | ⟨g', cap, cur, e, _⟩
  · cases e
  · injection e with e1 _ _
    injection e1 with e1
    subst e1
    have h1 : w0.heap.size ≤ g' := hb rfl
    have h2 : g' = g := hc
    omega

def flatW (I : List WI) : List Value := I.flatMap fun i => [.bool i.s, .slice i.a i.n i.c]
theorem flatW_get (I : List WI) (k : Nat) (h : k < I.length) : (flatW I)[k * 2]? = some (.bool I[k].s) ∧ (flatW I)[k * 2 + 1]? = some (.slice I[k].a I[k].n I[k].c) := by
  induction I generalizing k with
  | nil => simp at h
  | cons i I ih =>
    cases k with
    | zero => exact ⟨rfl, rfl⟩
    | succ k =>
      have := ih k (by simpa using h)
      have e : flatW (i :: I) = [.bool i.s, .slice i.a i.n i.c] ++ flatW I := rfl
      rw [e, List.getElem?_append_right (by simp; omega), List.getElem?_append_right (by simp; omega)]
      rw [show (k + 1) * 2 - [Value.bool i.s, Value.slice i.a i.n i.c].length = k * 2 by simp; omega, show (k + 1) * 2 + 1 - [Value.bool i.s, Value.slice i.a i.n i.c].length = k * 2 + 1 by simp; omega]
      simpa using this
/-- A row of whole numbers of the call's own. -/
structure WRow (w : World) (u : Value) (I : List WI) : Prop where
  own : w.ownsRow 0 35 2 u I.length (flatW I)
  its : ∀ i ∈ I, IV w i.v i.z
  far : ∀ g, u.ownBlock = some g → ∀ i ∈ I, Far g i.a i.n
theorem WRow.nil (w : World) : WRow w (.slice none 0 0) [] := ⟨World.ownsRow_nil _ _ _ _, fun i h => by simp at h, fun _ h => by cases h⟩
theorem WRow.only {w w' : World} {S : List Nat} {u : Value} {I : List WI} (h : WRow w u I) (ho : Only S w w') (hS : ∀ g ∈ S, (∀ i ∈ I, Far g i.a i.n) ∧ u.ownBlock ≠ some g) : WRow w' u I :=
  ⟨owns_only h.own ho (fun g hg hc => (hS g hc).2 hg), fun i hi => (h.its i hi).farS ho (fun g hg => (hS g hg).1 i hi), h.far⟩
theorem WRow.read {w : World} {u : Value} {I : List WI} (h : WRow w u I) : ∃ A c, u = .slice A I.length c ∧ WsRead w A I ∧ I.length ≤ c := by
  rcases id h.own.2 with ⟨rfl, h0⟩ | ⟨g, cap, cur, rfl, _, hg, hn, hm, _⟩
  · exact ⟨none, 0, by rw [h0], fun k hk => by omega, by omega⟩
  · refine ⟨_, cap, rfl, fun k hk => ⟨g, 0, rfl, ?_⟩, hn⟩
    have hc := World.ownsRow.cells h.own (g := g) rfl
    have h1 := hc (k * 2) _ (flatW_get I k hk).1
    have h2 := hc (k * 2 + 1) _ (flatW_get I k hk).2
    rw [addr_plus] at h1 h2
    exact ⟨h1, h2, h.its _ (List.getElem_mem hk)⟩
theorem WRow.lt {w : World} {u : Value} {I : List WI} (h : WRow w u I) : ∀ g, u.ownBlock = some g → g < w.heap.size := fun g hg => (World.ownsRow.lt h.own g hg).2
end Go.Proofs.YtkibkmdgibemkaaDoor
/-
  An argument that is a slice of ints, opened: it reads as L.
-/
namespace Go.Proofs.YtkibkmdgibemkaaDoor
open Go.ChangeShapes Go.WideShapes Go.ChangeAt Go.RowKit Go.Deep

end Go.Proofs.YtkibkmdgibemkaaDoor
