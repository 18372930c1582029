/-
  Whole numbers: sums and products of several.
-/
import Derived.Test.YtigpnopeacicpaaDoorTaGWhA
import Derived.Test.YtigpnopeacicpaaDoorTaGNatA
import Derived.ProofKit
import Derived.OpenShut
import Derived.ShutString
import Derived.ChangeOld
import Derived.Below
import Derived.Deep.Slices
import Derived.Deep.Fields
import Derived.ChangeSame
namespace Go.Proofs.YtigpnopeacicpaaDoor
open Go.RowKit
set_option linter.unusedSimpArgs false

/-- A whole number's value in a row. -/
structure WI where
  s : Bool
  a : Option Addr
  n : Nat
  c : Nat
  z : Int
def WI.v (x : WI) : Value := .agg #[.bool x.s, .slice x.a x.n x.c]
def WsRead (w : World) (A : Option Addr) (L : List WI) : Prop :=
  ∀ (k : Nat) (hk : k < L.length), ∃ b o, A = some ⟨b, o, none⟩ ∧ w.cell? ⟨b, o + k * 2, none⟩ = some (.bool L[k].s) ∧ w.cell? ⟨b, o + k * 2 + 1, none⟩ = some (.slice L[k].a L[k].n L[k].c) ∧ IV w L[k].v L[k].z
theorem WsRead.only {w w' : World} {A : Option Addr} {L : List WI} (h : WsRead w A L) (ho : Only [] w w') : WsRead w' A L := fun k hk => by
  obtain ⟨b, o, h1, h2, h3, h4⟩ := h k hk
  exact ⟨b, o, h1, ho.cell h2 (by simp), ho.cell h3 (by simp), h4.only ho⟩
/-- The loop over a row: the number so far. -/
structure WLoop (w w1 wr : World) (b g : Nat) (s : Bool) (A : Option Addr) (k c : Nat) (z : Int) : Prop where
  only : Only [] w wr
  lt : w.heap.size = b
  sz : w1.heap.size = b + 2
  gt : b + 1 < g
  b0 : Blk wr (b + 1) 44 [.bool false, .slice none 0 0]
  b1 : Blk wr g 44 [.bool s, .slice A k c]
  sign : s = decide (z < 0)
  res : Res w1 wr (.slice A k c) z.natAbs
  iv : IV wr (.agg #[.bool s, .slice A k c]) z
theorem WLoop.cells {w w1 wr : World} {b g : Nat} {s : Bool} {A : Option Addr} {k c : Nat} {z : Int} (h : WLoop w w1 wr b g s A k c z) :
    wr.cell? ⟨g, 0, none⟩ = some (.bool s) ∧ wr.cell? ⟨g, 1, none⟩ = some (.slice A k c) ∧ wr.frozen? ⟨g, 0, none⟩ = false ∧ wr.frozen? ⟨g, 1, none⟩ = false ∧
    wr.cell? ⟨b + 1, 0, none⟩ = some (.bool false) ∧ wr.cell? ⟨b + 1, 1, none⟩ = some (.slice none 0 0) ∧ wr.frozen? ⟨b + 1, 0, none⟩ = false ∧ wr.frozen? ⟨b + 1, 1, none⟩ = false :=
  ⟨h.b1.cell 0, h.b1.cell 1, h.b1.frozen 0, h.b1.frozen 1, h.b0.cell 0, h.b0.cell 1, h.b0.frozen 0, h.b0.frozen 1⟩
/-- A new number, written over the old one. -/
theorem WLoop.set_ {w w1 wr wx : World} {b g : Nat} {s s' : Bool} {A A' : Option Addr} {k c k' c' : Nat} {z z' : Int} (h : WLoop w w1 wr b g s A k c z) (h2 : s' = decide (z' < 0) ∧ Res wx wr (.slice A' k' c') z'.natAbs) (hw : b + 2 ≤ wx.heap.size) (hg : g < wx.heap.size) (hf : Few z'.natAbs) :
    WLoop w w1 ((wr.setCell ⟨g, 0, none⟩ (.bool s')).setCell ⟨g, 1, none⟩ (.slice A' k' c')) b g s' A' k' c' z' := by
  have ho := only_set2 wr g (.bool s') (.slice A' k' c')
  have hr : Res w1 ((wr.setCell ⟨g, 0, none⟩ (.bool s')).setCell ⟨g, 1, none⟩ (.slice A' k' c')) (.slice A' k' c') z'.natAbs := (h2.2.only ho (fun x hx hc => by
    have := h2.2.fresh x hx
    simp at hc
    omega)).pre (by rw [h.sz]; exact hw)
  have hb1 := (h.b1.set_ 0 (.bool s')).set_ 1 (.slice A' k' c')
  have hgw := h.gt
  have hlt := h.lt
  refine ⟨h.only.trans ho (fun x hx => .inr (by simp at hx; omega)), h.lt, h.sz, h.gt, h.b0.only ho (by simp; omega), hb1, h2.1, hr, ?_⟩
  exact ⟨s', A', k', c', _, rfl, NV.of_res hr hf, by rw [h2.1, sg_self]⟩
end Go.Proofs.YtigpnopeacicpaaDoor
/-
  Whole numbers: quotients.
-/
namespace Go.Proofs.YtigpnopeacicpaaDoor
open Go.RowKit
set_option linter.unusedSimpArgs false

end Go.Proofs.YtigpnopeacicpaaDoor
/-
  Whole numbers: digits.
-/
namespace Go.Proofs.YtigpnopeacicpaaDoor
open Go.RowKit
set_option linter.unusedSimpArgs false

end Go.Proofs.YtigpnopeacicpaaDoor
/-
  Whole numbers: boxes at hand, rows of one, alive.
-/
namespace Go.Proofs.YtigpnopeacicpaaDoor
open Go.RowKit
set_option linter.unusedSimpArgs false

/-- A whole number in a block of its own. -/
structure BX where
  g : Nat
  s : Bool
  a : Option Addr
  k : Nat
  c : Nat
  z : Int
def BX.v (x : BX) : Value := .agg #[.bool x.s, .slice x.a x.k x.c]
def BX.ok (w : World) (x : BX) : Prop := Blk w x.g 44 [.bool x.s, .slice x.a x.k x.c] ∧ IV w x.v x.z
/-- The boxes at hand. -/
structure WB (w0 w : World) (L : List BX) : Prop where
  only : Only [] w0 w
  all : ∀ (i : Nat) (x : BX), L[i]? = some x → BX.ok w x
theorem WB.step {w0 w w' : World} {L : List BX} (h : WB w0 w L) (ho : Only [] w w') : WB w0 w' L := ⟨h.only.nil_trans ho, fun i x hx => ⟨(h.all i x hx).1.only ho (by simp), (h.all i x hx).2.only ho⟩⟩
theorem WB.push {w0 w : World} {L : List BX} (h : WB w0 w L) {x : BX} (hx : BX.ok w x) : WB w0 w (x :: L) := ⟨h.only, fun i y hy => by
  cases i with
  | zero => simp at hy; subst hy; exact hx
  | succ i => exact h.all i y (by simpa using hy)⟩
/-- A new box. -/
theorem WB.new {w0 w : World} {L : List BX} (h : WB w0 w L) {s : Bool} {A : Option Addr} {k c : Nat} {z : Int} (hv : IV w (.agg #[.bool s, .slice A k c]) z) : WB w0 (w.alloc (.cells #[.bool s, .slice A k c] 44)) (⟨w.heap.size, s, A, k, c, z⟩ :: L) := by
  have ho : Only [] w (w.alloc (.cells #[.bool s, .slice A k c] 44)) := (Only.refl [] w).alloc _
  exact (h.step ho).push ⟨Blk.new w 44 [.bool s, .slice A k c], hv.only ho⟩
theorem WB.iv {w0 w : World} {L : List BX} (h : Hid (WB w0 w L)) (i : Nat) {g : Nat} {s : Bool} {A : Option Addr} {k c : Nat} {z : Int} (hi : L[i]? = some ⟨g, s, A, k, c, z⟩) : Hid (IV w (.agg #[.bool s, .slice A k c]) z) := (h.out.all i _ hi).2
theorem WB.blk {w0 w : World} {L : List BX} (h : Hid (WB w0 w L)) (i : Nat) {g : Nat} {s : Bool} {A : Option Addr} {k c : Nat} {z : Int} (hi : L[i]? = some ⟨g, s, A, k, c, z⟩) : Blk w g 44 [.bool s, .slice A k c] := (h.out.all i _ hi).1
theorem WB.cells {w0 w : World} {L : List BX} (h : Hid (WB w0 w L)) (i : Nat) {g : Nat} {s : Bool} {A : Option Addr} {k c : Nat} {z : Int} (hi : L[i]? = some ⟨g, s, A, k, c, z⟩) :
    w.cell? ⟨g, 0, none⟩ = some (.bool s) ∧ w.cell? ⟨g, 1, none⟩ = some (.slice A k c) ∧ w.frozen? ⟨g, 0, none⟩ = false ∧ w.frozen? ⟨g, 1, none⟩ = false :=
  ⟨(WB.blk h i hi).cell 0, (WB.blk h i hi).cell 1, (WB.blk h i hi).frozen 0, (WB.blk h i hi).frozen 1⟩

theorem all_isRow {t : TypeId} {n : Nat} {cs : List Value} {w : World} {K : Value → Prop} (h : ∀ g, Hid (Blk w g t cs) → K (.slice (some ⟨g, 0, none⟩) n n)) : ∀ v, isRow t n cs v w → K v := fun v ⟨g, h1, h2⟩ => by
  subst h1
  exact h g h2
/-- A new struct's block. -/
def isPtr (w0 : World) (t : TypeId) (cs : List Value) : VP := fun u w => ∃ g, u = .pointer (some ⟨g, 0, none⟩) ∧ Blk w g t cs ∧ w0.heap.size ≤ g
theorem isPtr.lasts (w0 : World) (t : TypeId) (cs : List Value) : Lasts (isPtr w0 t cs) := fun _ _ _ ⟨g, h1, h2, h3⟩ ho => ⟨g, h1, h2.only ho (by simp), h3⟩
theorem isPtr.new {w0 w : World} (ho : Only [] w0 w) (t : TypeId) (cs : List Value) : Only [] w (w.alloc (.cells cs.toArray t)) ∧ isPtr w0 t cs (.pointer (some ⟨w.heap.size, 0, none⟩)) (w.alloc (.cells cs.toArray t)) := ⟨(Only.refl [] w).alloc _, _, rfl, Blk.new w t cs, ho.size⟩
theorem all_isPtr {w0 : World} {t : TypeId} {cs : List Value} {w : World} {K : Value → Prop} (h : ∀ g, Hid (Blk w g t cs) → Hid (w0.heap.size ≤ g) → K (.pointer (some ⟨g, 0, none⟩))) : ∀ v, isPtr w0 t cs v w → K v := fun v ⟨g, h1, h2, h3⟩ => by
  subst h1
  exact h g h2 h3
section
variable {l : List Oper} {Ps : List VP} {w : World} {K : Act → Prop} {a : Act} {i : Nat} {is : List Nat}
end
end Go.Proofs.YtigpnopeacicpaaDoor
/-
  Whole numbers: rows of whole numbers that grow.
-/
namespace Go.Proofs.YtigpnopeacicpaaDoor
open Go.RowKit
set_option linter.unusedSimpArgs false

theorem lt_of_cell {w : World} {p : Addr} {v : Value} (h : w.cell? p = some v) : p.block < w.heap.size := by
  unfold World.cell? at h
  split at h
  · exact lt_of_heap (by assumption)
  · cases h
/-- A number's limbs lie elsewhere than in the block g. -/
def Far (g : Nat) (a : Option Addr) (k : Nat) : Prop := 0 < k → ∀ p, a = some p → p.block ≠ g
theorem NV.addr_lt {w : World} {A : Option Addr} {k c n : Nat} (h : NV w (.slice A k c) n) (hk : 0 < k) {p : Addr} (hp : A = some p) : p.block < w.heap.size := by
  obtain ⟨A', c', xs, e, h2, h3, h4, h5⟩ := h
  injection e with e1 e2 e3
  subst e1 e2
  obtain ⟨b, o, e2, hc⟩ := h2.read 0 hk
  rw [hp] at e2
  injection e2 with e2
  subst e2
  exact lt_of_cell hc
theorem NV.farS {w w' : World} {S : List Nat} {A : Option Addr} {k c n : Nat} (h : NV w (.slice A k c) n) (ho : Only S w w') (hf : ∀ g ∈ S, Far g A k) : NV w' (.slice A k c) n := by
  obtain ⟨A', c', xs, e, h2, h3, h4, h5⟩ := h
  injection e with e1 e2 e3
  subst e1 e3
  refine ⟨A, c, xs, by rw [e2], ⟨fun j hj => ?_, h2.limb, h2.len⟩, h3, h4, h5⟩
  obtain ⟨b, o, e3, hc⟩ := h2.read j hj
  exact ⟨b, o, e3, ho.cell hc (fun hm => hf b hm (by omega) _ e3 rfl)⟩
theorem IV.farS {w w' : World} {S : List Nat} {s : Bool} {A : Option Addr} {k c : Nat} {z : Int} (h : IV w (.agg #[.bool s, .slice A k c]) z) (ho : Only S w w') (hf : ∀ g ∈ S, Far g A k) : IV w' (.agg #[.bool s, .slice A k c]) z :=
  ⟨s, A, k, c, _, rfl, h.mag.farS ho hf, h.sign⟩
theorem IV.far_new {w : World} {s : Bool} {A : Option Addr} {k c g : Nat} {z : Int} (h : IV w (.agg #[.bool s, .slice A k c]) z) (hg : w.heap.size ≤ g) : Far g A k := fun hk p hp hc => by
  have := h.mag.addr_lt hk hp
  omega
theorem Res.far {w0 w : World} {A : Option Addr} {k c n g : Nat} (h : Res w0 w (.slice A k c) n) (hg : g < w0.heap.size) : Far g A k := fun hk p hp hc => by
  subst hp
  have hb := h.fresh p.block
  rcases h.at_.2 with ⟨e, h0⟩ | ⟨g', cap, cur, e, _⟩
  · cases e
  · injection e with e1 _ _
    injection e1 with e1
    subst e1
    have h1 : w0.heap.size ≤ g' := hb rfl
    have h2 : g' = g := hc
    omega

def flatW (I : List WI) : List Value := I.flatMap fun i => [.bool i.s, .slice i.a i.n i.c]
theorem flatW_snoc (I : List WI) (i : WI) : flatW (I ++ [i]) = flatW I ++ [.bool i.s, .slice i.a i.n i.c] := by simp [flatW]
theorem flatW_get (I : List WI) (k : Nat) (h : k < I.length) : (flatW I)[k * 2]? = some (.bool I[k].s) ∧ (flatW I)[k * 2 + 1]? = some (.slice I[k].a I[k].n I[k].c) := by
  induction I generalizing k with
  | nil => simp at h
  | cons i I ih =>
    cases k with
    | zero => exact ⟨rfl, rfl⟩
    | succ k =>
      have := ih k (by simpa using h)
      have e : flatW (i :: I) = [.bool i.s, .slice i.a i.n i.c] ++ flatW I := rfl
      rw [e, List.getElem?_append_right (by simp; omega), List.getElem?_append_right (by simp; omega)]
      rw [show (k + 1) * 2 - [Value.bool i.s, Value.slice i.a i.n i.c].length = k * 2 by simp; omega, show (k + 1) * 2 + 1 - [Value.bool i.s, Value.slice i.a i.n i.c].length = k * 2 + 1 by simp; omega]
      simpa using this
/-- A row of whole numbers of the call's own. -/
structure WRow (w : World) (u : Value) (I : List WI) : Prop where
  own : w.ownsRow 0 44 2 u I.length (flatW I)
  its : ∀ i ∈ I, IV w i.v i.z
  far : ∀ g, u.ownBlock = some g → ∀ i ∈ I, Far g i.a i.n
theorem WRow.nil (w : World) : WRow w (.slice none 0 0) [] := ⟨World.ownsRow_nil _ _ _ _, fun i h => by simp at h, fun _ h => by cases h⟩
theorem WRow.only {w w' : World} {S : List Nat} {u : Value} {I : List WI} (h : WRow w u I) (ho : Only S w w') (hS : ∀ g ∈ S, (∀ i ∈ I, Far g i.a i.n) ∧ u.ownBlock ≠ some g) : WRow w' u I :=
  ⟨owns_only h.own ho (fun g hg hc => (hS g hc).2 hg), fun i hi => (h.its i hi).farS ho (fun g hg => (hS g hg).1 i hi), h.far⟩
theorem WRow.read {w : World} {u : Value} {I : List WI} (h : WRow w u I) : ∃ A c, u = .slice A I.length c ∧ WsRead w A I ∧ I.length ≤ c := by
  rcases id h.own.2 with ⟨rfl, h0⟩ | ⟨g, cap, cur, rfl, _, hg, hn, hm, _⟩
  · exact ⟨none, 0, by rw [h0], fun k hk => by omega, by omega⟩
  · refine ⟨_, cap, rfl, fun k hk => ⟨g, 0, rfl, ?_⟩, hn⟩
    have hc := World.ownsRow.cells h.own (g := g) rfl
    have h1 := hc (k * 2) _ (flatW_get I k hk).1
    have h2 := hc (k * 2 + 1) _ (flatW_get I k hk).2
    rw [addr_plus] at h1 h2
    exact ⟨h1, h2, h.its _ (List.getElem_mem hk)⟩
theorem WRow.lt {w : World} {u : Value} {I : List WI} (h : WRow w u I) : ∀ g, u.ownBlock = some g → g < w.heap.size := fun g hg => (World.ownsRow.lt h.own g hg).2
/-- One more. -/
theorem WRow.grow {w w' : World} {u : Value} {I : List WI} {i : WI} {g cap : Nat} (h : WRow w u I) (hi : IV w i.v i.z) (hfi : ∀ g, u.ownBlock = some g → Far g i.a i.n) (hown : w'.ownsRow 0 44 2 (.slice (some ⟨g, 0, none⟩) (I.length + 1) cap) (I.length + 1) (flatW I ++ [.bool i.s, .slice i.a i.n i.c])) (ho : Only u.ownBlock.toList w w') (hg : u.ownBlock = some g ∨ w.heap.size ≤ g) :
    WRow w' (.slice (some ⟨g, 0, none⟩) (I.length + 1) cap) (I ++ [i]) := by
  have hS : ∀ x ∈ u.ownBlock.toList, (∀ i ∈ I, Far x i.a i.n) ∧ Far x i.a i.n := fun x hx => by
    have hx' : u.ownBlock = some x := by simpa using hx
    exact ⟨h.far x hx', hfi x hx'⟩
  refine ⟨?_, fun j hj => ?_, fun x hx j hj => ?_⟩
  · rw [flatW_snoc, List.length_append]; exact hown
  · rcases List.mem_append.1 hj with hj | hj
    · exact (h.its j hj).farS ho (fun x hx => (hS x hx).1 j hj)
    · rw [List.mem_singleton] at hj
      subst hj
      exact hi.farS ho (fun x hx => (hS x hx).2)
  · have hxg : g = x := by simpa [Value.ownBlock] using hx
    subst hxg
    rcases hg with hg | hg
    · rcases List.mem_append.1 hj with hj | hj
      · exact h.far g hg j hj
      · rw [List.mem_singleton] at hj; subst hj; exact hfi g hg
    · rcases List.mem_append.1 hj with hj | hj
      · exact (h.its j hj).far_new hg
      · rw [List.mem_singleton] at hj; subst hj; exact hi.far_new hg
end Go.Proofs.YtigpnopeacicpaaDoor
/-
  An argument that is a slice of ints, opened: it reads as L.
-/
namespace Go.Proofs.YtigpnopeacicpaaDoor
open Go.ChangeShapes Go.WideShapes Go.ChangeAt Go.RowKit Go.Deep

def IntsIn (w : World) (A : Option Addr) (L : List Int) : Prop := (∀ j, j < L.length → ∃ b o, A = some ⟨b, o, none⟩ ∧ ∀ i, i < L.length → w.cell? ⟨b, o + i, none⟩ = some (.int .i64 (L[i]?.getD 0))) ∧ ∀ v ∈ L, -9223372036854775808 ≤ v ∧ v ≤ 9223372036854775807
theorem wf_i64 {v : Int} (h : (Lit.int .i64 v).wf = true) : -9223372036854775808 ≤ v ∧ v ≤ 9223372036854775807 := by
  have e1 : IntKind.i64.min = -9223372036854775808 := by kernel_rfl
  have e2 : IntKind.i64.max = 9223372036854775807 := by kernel_rfl
  simp only [Lit.wf, e1, e2, Bool.and_eq_true, decide_eq_true_eq] at h
  omega

theorem ints_in {H : Type} {enc : TypeId × Value → H} {w : World} {base : Nat} {spare : Nat → Bool} {held : Bool} {fuel : Nat} {cs : List Value} {x : DataW H × List MemPlace} {t : TypeId} (ht : Tryd.prog.underlying t = some (.slice 3))
    (h : DataW.trod enc Tryd.prog w base spare held fuel t cs = some x) :
    ∃ A c L, cs = [.slice A (List.length L) c] ∧ List.length L ≤ c ∧ c ≤ maxLen ∧ IntsIn w A L := by
  rcases open_slice ht h with ⟨rfl, _⟩ | ⟨a, len, cap, m, n, D, Pl, rfl, _, hl, hcm, hm, _, hi⟩
  · exact ⟨none, 0, [], rfl, Nat.le_refl _, Nat.zero_le _, fun k hk => by simp at hk, fun v hv => by simp at hv⟩
  · have hC : Tryd.prog.cellsOf 3 = 1 := by kernel_rfl
    have hlm : len ≤ m := by rw [hm]; split <;> omega
    have key : ∀ i, i < len → ∃ z : Int, w.cell? (a.add i) = some (.int .i64 z) ∧ (-9223372036854775808 ≤ z ∧ z ≤ 9223372036854775807) := by
      intro i hil
      obtain ⟨cs', hc, ht⟩ := hi i (by omega)
      rw [hC] at hc
      obtain ⟨_, _, hat⟩ := World.cells?_some hc
      obtain ⟨z, rfl, _, hwf⟩ := DataW.trod_int Tryd.underlying3 ht
      have h0 := hat 0 (by omega)
      refine ⟨z, ?_, wf_i64 hwf⟩
      simpa [Addr.add] using h0
    have choose : ∀ len : Nat, (∀ i, i < len → ∃ z : Int, w.cell? (a.add i) = some (.int .i64 z) ∧ (-9223372036854775808 ≤ z ∧ z ≤ 9223372036854775807)) → ∃ L : List Int, L.length = len ∧ ∀ i, i < len → w.cell? (a.add i) = some (.int .i64 (L[i]?.getD 0)) ∧ (-9223372036854775808 ≤ L[i]?.getD 0 ∧ L[i]?.getD 0 ≤ 9223372036854775807) := by
      intro len
      induction len with
      | zero => exact fun _ => ⟨[], rfl, fun i hi => by omega⟩
      | succ len ih =>
        intro key
        obtain ⟨L, hL, hall⟩ := ih (fun i hi => key i (by omega))
        obtain ⟨z, hz⟩ := key len (by omega)
        refine ⟨L ++ [z], by simp [hL], fun i hi => ?_⟩
        by_cases e : i = len
        · subst e
          rw [List.getElem?_append_right (by omega), hL]
          simpa using hz
        · rw [List.getElem?_append_left (by omega)]
          exact hall i (by omega)
    obtain ⟨L, hL, hall⟩ := choose len key
    refine ⟨some a, cap, L, by rw [hL], by omega, hcm, fun k hk => ?_, fun v hv => ?_⟩
    · have h0 := (hall 0 (by omega)).1
      obtain ⟨b, o, sp⟩ := a
      obtain rfl : sp = none := by simpa [Addr.add] using World.cell?_spot h0
      refine ⟨b, o, rfl, fun i hi => ?_⟩
      have := (hall i (by omega)).1
      have ha : (⟨b, o, none⟩ : Addr).add i = ⟨b, o + i, none⟩ := by
        unfold Addr.add
        by_cases h1 : i = 0 <;> simp [h1]
      rwa [ha] at this
    · obtain ⟨i, hi, rfl⟩ := List.getElem_of_mem hv
      have := (hall i (by omega)).2
      rwa [List.getElem?_eq_getElem hi] at this
end Go.Proofs.YtigpnopeacicpaaDoor
