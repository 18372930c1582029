/-
  Whole numbers: rows of whole numbers that grow.
-/
import Derived.Test.YtphjcphcgnjogaaDoorWhG
namespace Go.Proofs.YtphjcphcgnjogaaDoor
open Go.RowKit
set_option linter.unusedSimpArgs false

theorem lt_of_cell {w : World} {p : Addr} {v : Value} (h : w.cell? p = some v) : p.block < w.heap.size := by
  unfold World.cell? at h
  split at h
  · exact lt_of_heap (by assumption)
  · cases h
/-- A number's limbs lie elsewhere than in the block g. -/
def Far (g : Nat) (a : Option Addr) (k : Nat) : Prop := 0 < k → ∀ p, a = some p → p.block ≠ g
theorem NV.addr_lt {w : World} {A : Option Addr} {k c n : Nat} (h : NV w (.slice A k c) n) (hk : 0 < k) {p : Addr} (hp : A = some p) : p.block < w.heap.size := by
  obtain ⟨A', c', xs, e, h2, h3, h4, h5⟩ := h
  injection e with e1 e2 e3
  subst e1 e2
  obtain ⟨b, o, e2, hc⟩ := h2.read 0 hk
  rw [hp] at e2
  injection e2 with e2
  subst e2
  exact lt_of_cell hc
theorem NV.farS {w w' : World} {S : List Nat} {A : Option Addr} {k c n : Nat} (h : NV w (.slice A k c) n) (ho : Only S w w') (hf : ∀ g ∈ S, Far g A k) : NV w' (.slice A k c) n := by
  obtain ⟨A', c', xs, e, h2, h3, h4, h5⟩ := h
  injection e with e1 e2 e3
  subst e1 e3
  refine ⟨A, c, xs, by rw [e2], ⟨fun j hj => ?_, h2.limb, h2.len⟩, h3, h4, h5⟩
  obtain ⟨b, o, e3, hc⟩ := h2.read j hj
  exact ⟨b, o, e3, ho.cell hc (fun hm => hf b hm (by omega) _ e3 rfl)⟩
theorem IV.farS {w w' : World} {S : List Nat} {s : Bool} {A : Option Addr} {k c : Nat} {z : Int} (h : IV w (.agg #[.bool s, .slice A k c]) z) (ho : Only S w w') (hf : ∀ g ∈ S, Far g A k) : IV w' (.agg #[.bool s, .slice A k c]) z :=
  ⟨s, A, k, c, _, rfl, h.mag.farS ho hf, h.sign⟩
/-- A box's block holds no limbs. -/
theorem IV.far_box {w : World} {s s' : Bool} {A A' : Option Addr} {k c k' c' g : Nat} {z : Int} {t : TypeId} (h : IV w (.agg #[.bool s, .slice A k c]) z) (hb : Blk w g t [.bool s', .slice A' k' c']) : Far g A k := fun hk p hp hc => by
  obtain ⟨A1, c1, xs, e, h2, h3, h4, h5⟩ := h.mag
  injection e with e1 e2 e3
  subst e1 e2
  obtain ⟨b, o, e2, hcell⟩ := h2.read 0 hk
  rw [hp] at e2
  injection e2 with e2
  subst e2
  simp only at hc
  subst hc
  rw [hb.cell] at hcell
  rcases o with _ | _ | o <;> simp at hcell
theorem IV.far_new {w : World} {s : Bool} {A : Option Addr} {k c g : Nat} {z : Int} (h : IV w (.agg #[.bool s, .slice A k c]) z) (hg : w.heap.size ≤ g) : Far g A k := fun hk p hp hc => by
  have := h.mag.addr_lt hk hp
  omega
theorem Res.far {w0 w : World} {A : Option Addr} {k c n g : Nat} (h : Res w0 w (.slice A k c) n) (hg : g < w0.heap.size) : Far g A k := fun hk p hp hc => by
  subst hp
  have hb := h.fresh p.block
  rcases h.at_.2 with ⟨e, h0⟩ | ⟨g', cap, cur, e, _⟩
  · cases e
  · injection e with e1 _ _
    injection e1 with e1
    subst e1
    have h1 : w0.heap.size ≤ g' := hb rfl
    have h2 : g' = g := hc
    omega

def flatW (I : List WI) : List Value := I.flatMap fun i => [.bool i.s, .slice i.a i.n i.c]
theorem flatW_snoc (I : List WI) (i : WI) : flatW (I ++ [i]) = flatW I ++ [.bool i.s, .slice i.a i.n i.c] := by simp [flatW]
theorem flatW_len (I : List WI) : (flatW I).length = I.length * 2 := by
  induction I with
  | nil => rfl
  | cons i I ih => simp only [flatW, List.flatMap_cons, List.length_append, List.length_cons, List.length_nil] at ih ⊢; omega
theorem flatW_get (I : List WI) (k : Nat) (h : k < I.length) : (flatW I)[k * 2]? = some (.bool I[k].s) ∧ (flatW I)[k * 2 + 1]? = some (.slice I[k].a I[k].n I[k].c) := by
  induction I generalizing k with
  | nil => simp at h
  | cons i I ih =>
    cases k with
    | zero => exact ⟨rfl, rfl⟩
    | succ k =>
      have := ih k (by simpa using h)
      have e : flatW (i :: I) = [.bool i.s, .slice i.a i.n i.c] ++ flatW I := rfl
      rw [e, List.getElem?_append_right (by simp; omega), List.getElem?_append_right (by simp; omega)]
      rw [show (k + 1) * 2 - [Value.bool i.s, Value.slice i.a i.n i.c].length = k * 2 by simp; omega, show (k + 1) * 2 + 1 - [Value.bool i.s, Value.slice i.a i.n i.c].length = k * 2 + 1 by simp; omega]
      simpa using this
/-- A row of whole numbers of the call's own. -/
structure WRow (w : World) (u : Value) (I : List WI) : Prop where
  own : w.ownsRow 0 27 2 u I.length (flatW I)
  its : ∀ i ∈ I, IV w i.v i.z
  far : ∀ g, u.ownBlock = some g → ∀ i ∈ I, Far g i.a i.n
theorem WRow.nil (w : World) : WRow w (.slice none 0 0) [] := ⟨World.ownsRow_nil _ _ _ _, fun i h => by simp at h, fun _ h => by cases h⟩
theorem WRow.only {w w' : World} {S : List Nat} {u : Value} {I : List WI} (h : WRow w u I) (ho : Only S w w') (hS : ∀ g ∈ S, (∀ i ∈ I, Far g i.a i.n) ∧ u.ownBlock ≠ some g) : WRow w' u I :=
  ⟨owns_only h.own ho (fun g hg hc => (hS g hc).2 hg), fun i hi => (h.its i hi).farS ho (fun g hg => (hS g hg).1 i hi), h.far⟩
theorem WRow.nilOnly {w w' : World} {u : Value} {I : List WI} (h : WRow w u I) (ho : Only [] w w') : WRow w' u I := h.only ho (by simp)
theorem WRow.read {w : World} {u : Value} {I : List WI} (h : WRow w u I) : ∃ A c, u = .slice A I.length c ∧ WsRead w A I ∧ I.length ≤ c := by
  rcases id h.own.2 with ⟨rfl, h0⟩ | ⟨g, cap, cur, rfl, _, hg, hn, hm, _⟩
  · exact ⟨none, 0, by rw [h0], fun k hk => by omega, by omega⟩
  · refine ⟨_, cap, rfl, fun k hk => ⟨g, 0, rfl, ?_⟩, hn⟩
    have hc := World.ownsRow.cells h.own (g := g) rfl
    have h1 := hc (k * 2) _ (flatW_get I k hk).1
    have h2 := hc (k * 2 + 1) _ (flatW_get I k hk).2
    rw [addr_plus] at h1 h2
    exact ⟨h1, h2, h.its _ (List.getElem_mem hk)⟩
theorem WRow.lt {w : World} {u : Value} {I : List WI} (h : WRow w u I) : ∀ g, u.ownBlock = some g → g < w.heap.size := fun g hg => (World.ownsRow.lt h.own g hg).2
/-- One more. -/
theorem WRow.grow {w w' : World} {u : Value} {I : List WI} {i : WI} {g cap : Nat} (h : WRow w u I) (hi : IV w i.v i.z) (hfi : ∀ g, u.ownBlock = some g → Far g i.a i.n) (hown : w'.ownsRow 0 27 2 (.slice (some ⟨g, 0, none⟩) (I.length + 1) cap) (I.length + 1) (flatW I ++ [.bool i.s, .slice i.a i.n i.c])) (ho : Only u.ownBlock.toList w w') (hg : u.ownBlock = some g ∨ w.heap.size ≤ g) :
    WRow w' (.slice (some ⟨g, 0, none⟩) (I.length + 1) cap) (I ++ [i]) := by
  have hS : ∀ x ∈ u.ownBlock.toList, (∀ i ∈ I, Far x i.a i.n) ∧ Far x i.a i.n := fun x hx => by
    have hx' : u.ownBlock = some x := by simpa using hx
    exact ⟨h.far x hx', hfi x hx'⟩
  refine ⟨?_, fun j hj => ?_, fun x hx j hj => ?_⟩
  · rw [flatW_snoc, List.length_append]; exact hown
  · rcases List.mem_append.1 hj with hj | hj
    · exact (h.its j hj).farS ho (fun x hx => (hS x hx).1 j hj)
    · rw [List.mem_singleton] at hj
      subst hj
      exact hi.farS ho (fun x hx => (hS x hx).2)
  · have hxg : g = x := by simpa [Value.ownBlock] using hx
    subst hxg
    rcases hg with hg | hg
    · rcases List.mem_append.1 hj with hj | hj
      · exact h.far g hg j hj
      · rw [List.mem_singleton] at hj; subst hj; exact hfi g hg
    · rcases List.mem_append.1 hj with hj | hj
      · exact (h.its j hj).far_new hg
      · rw [List.mem_singleton] at hj; subst hj; exact hi.far_new hg
end Go.Proofs.YtphjcphcgnjogaaDoor
