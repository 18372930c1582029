/-
  walk.Below: its closure 'visit'; what stands in memory.
-/
import Derived.Test.YtmjnifjohfljaaaTaMapI
import Derived.Test.YtmjnifjohfljaaaTaLoadE
import Derived.Test.YtmjnifjohfljaaaTaWalkT
namespace Go.Proofs.Ytmjnifjohfljaaa
open Go.RowKit

/-- The memory of a search: the map of those met, the stack, the list of those found. -/
structure BelowSt (w0 w : World) (vb m nn : Nat) (f : Int → Option Int) (sb : Nat) (sv : Value) (S : List Int) (fv : Value) (F : List Int) : Prop where
  vis : Blk w vb 60 [.map (some m)]
  map : MapI w m nn f
  stk : Blk w sb 39 [sv]
  s : IntsAt w sv S
  f : IntsAt w fv F
  ap : ∀ g, sv.ownBlock = some g → fv.ownBlock ≠ some g
  fv_ : w0.heap.size ≤ vb
  fm : w0.heap.size ≤ m
  fs : w0.heap.size ≤ sb
  fsv : ∀ g, sv.ownBlock = some g → w0.heap.size ≤ g
  ffv : ∀ g, fv.ownBlock = some g → w0.heap.size ≤ g
  only : Only [] w0 w

theorem MapI.obj {w : World} {b n : Nat} {f : Int → Option Int} (h : MapI w b n f) : ∃ es clock, w.heap[b]? = some (.map es clock) := by
  obtain ⟨D, ⟨es, clock, h1, _⟩, _⟩ := h
  exact ⟨es, clock, h1⟩
theorem IntsAt.typ {w : World} {u : Value} {xs : List Int} (h : IntsAt w u xs) {g : Nat} (hg : u.ownBlock = some g) : ∃ cs fr, w.heap[g]? = some (.cells cs 3 fr) := by
  rcases h.2 with ⟨rfl, _⟩ | ⟨g', cap, cur, rfl, _, h1, _⟩
  · simp [Value.ownBlock] at hg
  · have e : g' = g := by simpa [Value.ownBlock] using hg
    subst e
    exact ⟨_, _, h1⟩
theorem heap_ne {w : World} {g g' : Nat} {o o' : Obj} (h : w.heap[g]? = some o) (h' : w.heap[g']? = some o') (hne : o ≠ o') : g ≠ g' := by
  rintro rfl
  rw [h] at h'
  exact hne (Option.some.inj h')

section
variable {w0 w w' : World} {vb m nn : Nat} {f : Int → Option Int} {sb : Nat} {sv : Value} {S : List Int} {fv : Value} {F : List Int}
theorem BelowSt.nil (h : BelowSt w0 w vb m nn f sb sv S fv F) (ho : Only [] w w') : BelowSt w0 w' vb m nn f sb sv S fv F :=
  ⟨h.vis.only ho (by simp), h.map.only ho (by simp), h.stk.only ho (by simp), h.s.only ho (by simp), h.f.only ho (by simp), h.ap, h.fv_, h.fm, h.fs, h.fsv, h.ffv, h.only.nil_trans ho⟩
theorem BelowSt.ne_mv (h : BelowSt w0 w vb m nn f sb sv S fv F) : vb ≠ m ∧ sb ≠ m ∧ (∀ g, sv.ownBlock = some g → g ≠ m) ∧ (∀ g, fv.ownBlock = some g → g ≠ m) := by
  obtain ⟨es, clock, hm⟩ := h.map.obj
  refine ⟨heap_ne h.vis hm (by simp), heap_ne h.stk hm (by simp), fun g hg => ?_, fun g hg => ?_⟩
  · obtain ⟨cs, fr, hc⟩ := h.s.typ hg
    exact heap_ne hc hm (by simp)
  · obtain ⟨cs, fr, hc⟩ := h.f.typ hg
    exact heap_ne hc hm (by simp)
theorem BelowSt.ne_s (h : BelowSt w0 w vb m nn f sb sv S fv F) : vb ≠ sb ∧ (∀ g, sv.ownBlock = some g → g ≠ vb ∧ g ≠ sb) ∧ (∀ g, fv.ownBlock = some g → g ≠ vb ∧ g ≠ sb) := by
  refine ⟨heap_ne h.vis h.stk (by intro e; injection e with _ e2; exact absurd e2 (by decide)), fun g hg => ?_, fun g hg => ?_⟩
  · obtain ⟨cs, fr, hc⟩ := h.s.typ hg
    exact ⟨heap_ne hc h.vis (by intro e; injection e with _ e2; exact absurd e2 (by decide)), heap_ne hc h.stk (by intro e; injection e with _ e2; exact absurd e2 (by decide))⟩
  · obtain ⟨cs, fr, hc⟩ := h.f.typ hg
    exact ⟨heap_ne hc h.vis (by intro e; injection e with _ e2; exact absurd e2 (by decide)), heap_ne hc h.stk (by intro e; injection e with _ e2; exact absurd e2 (by decide))⟩
/-- The map has been written. -/
theorem BelowSt.mark (h : BelowSt w0 w vb m nn f sb sv S fv F) {n' : Nat} {f' : Int → Option Int} (hm : MapI w' m n' f') (ho : Only [m] w w') : BelowSt w0 w' vb m n' f' sb sv S fv F := by
  obtain ⟨e1, e2, e3, e4⟩ := h.ne_mv
  exact ⟨h.vis.only ho (by simpa using e1), hm, h.stk.only ho (by simpa using e2), h.s.only ho (fun g hg => by simpa using e3 g hg), h.f.only ho (fun g hg => by simpa using e4 g hg), h.ap, h.fv_, h.fm, h.fs, h.fsv, h.ffv,
    h.only.trans ho (fun k hk => .inr (by have e : k = m := by simpa using hk
                                          have := h.fm
                                          omega))⟩
/-- The stack's variable has been written. -/
theorem BelowSt.stack (h : BelowSt w0 w vb m nn f sb sv S fv F) {sv' : Value} {S' : List Int} (hs : IntsAt w sv' S') (hap : ∀ g, sv'.ownBlock = some g → fv.ownBlock ≠ some g) (hf : ∀ g, sv'.ownBlock = some g → w0.heap.size ≤ g) :
    BelowSt w0 (w.setCell ⟨sb, 0, none⟩ sv') vb m nn f sb sv' S' fv F := by
  have ho : Only [sb] w (w.setCell ⟨sb, 0, none⟩ sv') := (Only.refl _ _).setCell (.inl (by simp)) _
  obtain ⟨e1, e2, e3, e4⟩ := h.ne_mv
  obtain ⟨d1, d2, d3⟩ := h.ne_s
  have hsn : ∀ g, sv'.ownBlock = some g → g ≠ sb := by
    intro g hg
    obtain ⟨cs, fr, hc⟩ := hs.typ hg
    exact heap_ne hc h.stk (by intro e; injection e with _ e2; exact absurd e2 (by decide))
  refine ⟨h.vis.only ho (by simpa using d1), h.map.only ho (by simpa using e2.symm), h.stk.set_ 0 _, hs.only ho (fun g hg => by simpa using hsn g hg), h.f.only ho (fun g hg => by simpa using (d3 g hg).2), hap, h.fv_, h.fm, h.fs, hf, h.ffv, ?_⟩
  refine h.only.trans ho (fun k hk => .inr ?_)
  have e : k = sb := by simpa using hk
  have := h.fs
  omega
/-- A row of ints of another's has grown; what follows of an append to the stack's row. -/
theorem BelowSt.grow_s (h : BelowSt w0 w vb m nn f sb sv S fv F) {g cap : Nat} {x : Int} (hown : w'.ownsRow 0 3 1 (.slice (some ⟨g, 0, none⟩) (S.length + 1) cap) (S.length + 1) (ints S ++ [.int .i64 x]))
    (hgr : (w.alloc (.cells #[.int .i64 x] 3)).grownBy w' sv.ownBlock) (hat : sv.ownBlock = some g ∨ g = w.heap.size + 1) :
    Blk w' sb 39 [sv] ∧ BelowSt w0 (w'.setCell ⟨sb, 0, none⟩ (.slice (some ⟨g, 0, none⟩) (S.length + 1) cap)) vb m nn f sb (.slice (some ⟨g, 0, none⟩) (S.length + 1) cap) (S ++ [x]) fv F := by
  have ho : Only sv.ownBlock.toList w w' := ((Only.refl _ w).alloc _).trans (Only.of_grown (S := sv.ownBlock.toList) hgr (by simp)) (fun k hk => .inl hk)
  obtain ⟨e1, e2, e3, e4⟩ := h.ne_mv
  obtain ⟨d1, d2, d3⟩ := h.ne_s
  have hs' : IntsAt w' (.slice (some ⟨g, 0, none⟩) (S.length + 1) cap) (S ++ [x]) := by
    unfold IntsAt
    simpa [ints] using hown
  have hstk : Blk w' sb 39 [sv] := h.stk.only ho (fun hm => (d2 sb (by simpa using hm)).2 rfl)
  have hmid : ∀ k, (∀ q, sv.ownBlock = some q → q ≠ k) → k ∉ sv.ownBlock.toList := fun k hk hm => hk k (by simpa using hm) rfl
  refine ⟨hstk, ?_⟩
  have h1 : Blk w' vb 60 [.map (some m)] := h.vis.only ho (hmid vb (fun q hq => (d2 q hq).1))
  have h2 : MapI w' m nn f := h.map.only ho (hmid m (fun q hq => e3 q hq))
  have h3 : IntsAt w' fv F := h.f.only ho (fun q hq hm => h.ap q (by simpa using hm) hq)
  have hgf : w0.heap.size ≤ g := by
    rcases hat with e | e
    · exact h.fsv g e
    · have := h.only.size
      omega
  have hgap : ∀ q, (Value.slice (some ⟨g, 0, none⟩) (S.length + 1) cap).ownBlock = some q → fv.ownBlock ≠ some q := by
    intro q hq hq2
    have e : g = q := by simpa [Value.ownBlock] using hq
    subst e
    rcases hat with e | e
    · exact h.ap g e hq2
    · have := h.f.lt g hq2
      omega
  have hsn : g ≠ sb := by
    obtain ⟨cs, fr, hc⟩ := hs'.typ (g := g) rfl
    exact heap_ne hc hstk (by intro e; injection e with _ e2; exact absurd e2 (by decide))
  have hO : Only [] w0 w' := h.only.trans ho (fun k hk => .inr (h.fsv k (by simpa using hk)))
  have ho2 : Only [sb] w' (w'.setCell ⟨sb, 0, none⟩ (.slice (some ⟨g, 0, none⟩) (S.length + 1) cap)) := (Only.refl _ _).setCell (.inl (by simp)) _
  exact ⟨h1.only ho2 (by simpa using d1), h2.only ho2 (by simpa using e2.symm), hstk.set_ 0 _, hs'.only ho2 (fun q hq => by
    have e : g = q := by simpa [Value.ownBlock] using hq
    subst e
    simpa using hsn), h3.only ho2 (fun q hq => by simpa using (d3 q hq).2), hgap, h.fv_, h.fm, h.fs, fun q hq => by
    have e : g = q := by simpa [Value.ownBlock] using hq
    omega, h.ffv, hO.trans ho2 (fun k hk => .inr (by
      have e : k = sb := by simpa using hk
      have := h.fs
      omega))⟩
end
end Go.Proofs.Ytmjnifjohfljaaa
