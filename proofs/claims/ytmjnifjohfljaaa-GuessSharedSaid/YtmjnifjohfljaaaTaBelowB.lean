/-
  walk.Below: 'visit', the walk.
-/
import Derived.Test.YtmjnifjohfljaaaTaBelowA
namespace Go.Proofs.Ytmjnifjohfljaaa
open Go.RowKit

/-- What has been met: those of the map. -/
def Met (f : Int → Option Int) (x : Int) : Prop := f x = some 1
def Plain01 (f : Int → Option Int) : Prop := ∀ x, f x = none ∨ f x = some 1
def metF (f : Int → Option Int) (id : Int) : Int → Option Int := fun x => if x = id then some 1 else f x
theorem metF_plain {f : Int → Option Int} (h : Plain01 f) (id : Int) : Plain01 (metF f id) := fun x => by
  unfold metF
  by_cases e : x = id
  · exact .inr (by rw [if_pos e])
  · rw [if_neg e]
    exact h x
theorem met_metF {f : Int → Option Int} (id : Int) (y : Int) : Met (metF f id) y ↔ Met f y ∨ y = id := by
  unfold Met metF
  by_cases e : y = id
  · simp [e]
  · simp [e]

/-- Arrays of two ints are as they were. -/
def Keep2 (w w' : World) : Prop := ∀ q cs, Blk w q 62 cs → Blk w' q 62 cs
theorem BelowSt.keep_map {w0 w w' : World} {vb m nn : Nat} {f : Int → Option Int} {sb : Nat} {sv : Value} {S : List Int} {fv : Value} {F : List Int} (h : BelowSt w0 w vb m nn f sb sv S fv F) (ho : Only [m] w w') : Keep2 w w' := by
  intro q cs hq
  obtain ⟨es, clock, hm⟩ := h.map.obj
  exact hq.only ho (by simpa using heap_ne hq hm (by simp))
theorem BelowSt.keep_s {w0 w w' : World} {vb m nn : Nat} {f : Int → Option Int} {sb : Nat} {sv : Value} {S : List Int} {fv : Value} {F : List Int} (h : BelowSt w0 w vb m nn f sb sv S fv F) {x : Int} {u : Value}
    (hgr : (w.alloc (.cells #[.int .i64 x] 3)).grownBy w' sv.ownBlock) : Keep2 w (w'.setCell ⟨sb, 0, none⟩ u) := by
  intro q cs hq
  have ho : Only sv.ownBlock.toList w w' := ((Only.refl _ w).alloc _).trans (Only.of_grown (S := sv.ownBlock.toList) hgr (by simp)) (fun k hk => .inl hk)
  have h1 : Blk w' q 62 cs := hq.only ho (fun hm => by
    obtain ⟨cs', fr, hc⟩ := h.s.typ (g := q) (by simpa using hm)
    exact heap_ne hq hc (by intro e; injection e with _ e2; exact absurd e2 (by decide)) rfl)
  have hne : q ≠ sb := heap_ne hq h.stk (by intro e; injection e with _ e2; exact absurd e2 (by decide))
  exact h1.far hne u
/-- What visit leaves: the same, or the id on the stack. -/
def VPost (w0 w : World) (vb m nn : Nat) (f : Int → Option Int) (sb : Nat) (sv : Value) (S : List Int) (fv : Value) (F : List Int) (id : Int) (e : Ending) (w' : World) : Prop :=
  e = .returned (.tuple #[]) ∧ Keep2 w w' ∧ ((Met f id ∧ BelowSt w0 w' vb m nn f sb sv S fv F) ∨ (¬ Met f id ∧ ∃ sv', BelowSt w0 w' vb m (nn + 1) (metF f id) sb sv' (S ++ [id]) fv F))

set_option maxHeartbeats 800000 in
set_option maxRecDepth 100000 in
theorem visit_any (w0 w : World) (vb m nn : Nat) (f : Int → Option Int) (sb : Nat) (sv : Value) (S : List Int) (fv : Value) (F : List Int) (id : Int) (h : BelowSt w0 w vb m nn f sb sv S fv F) (hf : Plain01 f) (hid : Small id) (hnn : nn < 100000) (hS : Hid (S.length ≤ 100000)) :
    Calls Try.prog 24 #[.int .i64 id, .pointer (some ⟨vb, 0, none⟩), .pointer (some ⟨sb, 0, none⟩)] w (VPost w0 w vb m nn f sb sv S fv F id) := by
  obtain ⟨i0, hi, hz0, hz1, hz2⟩ := int_parts
  have cv : w.cell? ⟨vb, 0, none⟩ = some (.map (some m)) := h.vis.cell 0
  have hl := h.map.look hid
  rcases hf id with e | e
  · have hn : ¬ Met f id := by unfold Met; rw [e]; simp
    rw [e] at hl
    obtain ⟨w1, hup, hm1, ho1⟩ := h.map.store (by omega) hid (v := 1) (by unfold Small; omega)
    have H1 := h.mark (f' := metF f id) hm1 ho1
    have HKm := Lib.hid (h.keep_map ho1)
    have HH := Lib.hid H1
    have Hn := Lib.hid hn
    obtain ⟨A, c, rfl, -⟩ := H1.s.shape
    have cs1 : w1.cell? ⟨sb, 0, none⟩ = some (.slice A S.length c) := H1.stk.cell 0
    have cs1' := ((Only.refl [] w1).alloc (.cells #[.int .i64 id] 3)).cell cs1 (by simp)
    clear h hm1 ho1 H1 e hn hf
    go_enter Try.func24, Try.ntmps24
    go_wp2_with (at_builtin; refine wpList_append_lies _ rfl _ _ _ rfl 0 3 i0 _ 1 8 Try.underlying39 hi hz0 hz1 hz2 rfl (by decide) (.slice A S.length c) S.length (ints S) rfl (by exact HH.out.s.alloc _) ⟨w1.heap.size, 0, none⟩ 1 1 [.int .i64 id] rfl rfl (by exact cell_one_new _ _ _) (by simp [Value.oneCell']) (by decide) (by have := hS.out; simp only [maxLen]; omega) (by have := hS.out; omega) (Nat.zero_le _) (w1.heap.size + 1) (by simp) ?_; intro g cap w2 hown2 hgr2 hat2 hlt2; have G := Lib.hid (HH.out.grow_s hown2 hgr2 hat2); have HKs := Lib.hid (HH.out.keep_s (u := .slice (some ⟨g, 0, none⟩) (S.length + 1) cap) hgr2); have a0 := G.out.1.cell 0; have f0 := G.out.1.frozen 0; simp only [List.getElem?_cons_zero] at a0)
    go_returns
    exact ⟨rfl, fun q cs hq => HKs.out q cs (HKm.out q cs hq), .inr ⟨Hn.out, _, G.out.2⟩⟩
  · rw [e] at hl
    have HH := Lib.hid h
    have Hn : Hid (Met f id) := e
    clear h hf e
    go_enter Try.func24, Try.ntmps24
    go_wp2_with fail
    go_returns
    exact ⟨rfl, fun _ _ hq => hq, .inl ⟨Hn.out, HH.out⟩⟩
end Go.Proofs.Ytmjnifjohfljaaa
