/-
  Joined texts.
-/
import Derived.Test.YtigpnopeacicpaaDoorTbJ9
import Derived.Test.YtigpnopeacicpaaDoorTbShelf
/-
  walk.Below: its closure 'visit'; what stands in memory.
-/
namespace Go.Proofs.YtigpnopeacicpaaDoor
open Go.RowKit

/-- The memory of a search: the map of those met, the stack, the list of those found. -/
structure BelowSt (w0 w : World) (vb m nn : Nat) (f : Int → Option Int) (sb : Nat) (sv : Value) (S : List Int) (fv : Value) (F : List Int) : Prop where
  vis : Blk w vb 110 [.map (some m)]
  map : MapI w m nn f
  stk : Blk w sb 22 [sv]
  s : IntsAt w sv S
  f : IntsAt w fv F
  ap : ∀ g, sv.ownBlock = some g → fv.ownBlock ≠ some g
  fv_ : w0.heap.size ≤ vb
  fm : w0.heap.size ≤ m
  fs : w0.heap.size ≤ sb
  fsv : ∀ g, sv.ownBlock = some g → w0.heap.size ≤ g
  ffv : ∀ g, fv.ownBlock = some g → w0.heap.size ≤ g
  only : Only [] w0 w

theorem MapI.obj {w : World} {b n : Nat} {f : Int → Option Int} (h : MapI w b n f) : ∃ es clock, w.heap[b]? = some (.map es clock) := by
  obtain ⟨D, ⟨es, clock, h1, _⟩, _⟩ := h
  exact ⟨es, clock, h1⟩
theorem IntsAt.typ {w : World} {u : Value} {xs : List Int} (h : IntsAt w u xs) {g : Nat} (hg : u.ownBlock = some g) : ∃ cs fr, w.heap[g]? = some (.cells cs 3 fr) := by
  rcases h.2 with ⟨rfl, _⟩ | ⟨g', cap, cur, rfl, _, h1, _⟩
  · simp [Value.ownBlock] at hg
  · have e : g' = g := by simpa [Value.ownBlock] using hg
    subst e
    exact ⟨_, _, h1⟩
theorem heap_ne {w : World} {g g' : Nat} {o o' : Obj} (h : w.heap[g]? = some o) (h' : w.heap[g']? = some o') (hne : o ≠ o') : g ≠ g' := by
  rintro rfl
  rw [h] at h'
  exact hne (Option.some.inj h')

section
variable {w0 w w' : World} {vb m nn : Nat} {f : Int → Option Int} {sb : Nat} {sv : Value} {S : List Int} {fv : Value} {F : List Int}
theorem BelowSt.nil (h : BelowSt w0 w vb m nn f sb sv S fv F) (ho : Only [] w w') : BelowSt w0 w' vb m nn f sb sv S fv F :=
  ⟨h.vis.only ho (by simp), h.map.only ho (by simp), h.stk.only ho (by simp), h.s.only ho (by simp), h.f.only ho (by simp), h.ap, h.fv_, h.fm, h.fs, h.fsv, h.ffv, h.only.nil_trans ho⟩
theorem BelowSt.ne_mv (h : BelowSt w0 w vb m nn f sb sv S fv F) : vb ≠ m ∧ sb ≠ m ∧ (∀ g, sv.ownBlock = some g → g ≠ m) ∧ (∀ g, fv.ownBlock = some g → g ≠ m) := by
  obtain ⟨es, clock, hm⟩ := h.map.obj
  refine ⟨heap_ne h.vis hm (by simp), heap_ne h.stk hm (by simp), fun g hg => ?_, fun g hg => ?_⟩
  · obtain ⟨cs, fr, hc⟩ := h.s.typ hg
    exact heap_ne hc hm (by simp)
  · obtain ⟨cs, fr, hc⟩ := h.f.typ hg
    exact heap_ne hc hm (by simp)
theorem BelowSt.ne_s (h : BelowSt w0 w vb m nn f sb sv S fv F) : vb ≠ sb ∧ (∀ g, sv.ownBlock = some g → g ≠ vb ∧ g ≠ sb) ∧ (∀ g, fv.ownBlock = some g → g ≠ vb ∧ g ≠ sb) := by
  refine ⟨heap_ne h.vis h.stk (by intro e; injection e with _ e2; exact absurd e2 (by decide)), fun g hg => ?_, fun g hg => ?_⟩
  · obtain ⟨cs, fr, hc⟩ := h.s.typ hg
    exact ⟨heap_ne hc h.vis (by intro e; injection e with _ e2; exact absurd e2 (by decide)), heap_ne hc h.stk (by intro e; injection e with _ e2; exact absurd e2 (by decide))⟩
  · obtain ⟨cs, fr, hc⟩ := h.f.typ hg
    exact ⟨heap_ne hc h.vis (by intro e; injection e with _ e2; exact absurd e2 (by decide)), heap_ne hc h.stk (by intro e; injection e with _ e2; exact absurd e2 (by decide))⟩
/-- The map has been written. -/
theorem BelowSt.mark (h : BelowSt w0 w vb m nn f sb sv S fv F) {n' : Nat} {f' : Int → Option Int} (hm : MapI w' m n' f') (ho : Only [m] w w') : BelowSt w0 w' vb m n' f' sb sv S fv F := by
  obtain ⟨e1, e2, e3, e4⟩ := h.ne_mv
  exact ⟨h.vis.only ho (by simpa using e1), hm, h.stk.only ho (by simpa using e2), h.s.only ho (fun g hg => by simpa using e3 g hg), h.f.only ho (fun g hg => by simpa using e4 g hg), h.ap, h.fv_, h.fm, h.fs, h.fsv, h.ffv,
    h.only.trans ho (fun k hk => .inr (by have e : k = m := by simpa using hk
                                          have := h.fm
                                          omega))⟩
/-- The stack's variable has been written. -/
theorem BelowSt.stack (h : BelowSt w0 w vb m nn f sb sv S fv F) {sv' : Value} {S' : List Int} (hs : IntsAt w sv' S') (hap : ∀ g, sv'.ownBlock = some g → fv.ownBlock ≠ some g) (hf : ∀ g, sv'.ownBlock = some g → w0.heap.size ≤ g) :
    BelowSt w0 (w.setCell ⟨sb, 0, none⟩ sv') vb m nn f sb sv' S' fv F := by
  have ho : Only [sb] w (w.setCell ⟨sb, 0, none⟩ sv') := (Only.refl _ _).setCell (.inl (by simp)) _
  obtain ⟨e1, e2, e3, e4⟩ := h.ne_mv
  obtain ⟨d1, d2, d3⟩ := h.ne_s
  have hsn : ∀ g, sv'.ownBlock = some g → g ≠ sb := by
    intro g hg
    obtain ⟨cs, fr, hc⟩ := hs.typ hg
    exact heap_ne hc h.stk (by intro e; injection e with _ e2; exact absurd e2 (by decide))
  refine ⟨h.vis.only ho (by simpa using d1), h.map.only ho (by simpa using e2.symm), h.stk.set_ 0 _, hs.only ho (fun g hg => by simpa using hsn g hg), h.f.only ho (fun g hg => by simpa using (d3 g hg).2), hap, h.fv_, h.fm, h.fs, hf, h.ffv, ?_⟩
  refine h.only.trans ho (fun k hk => .inr ?_)
  have e : k = sb := by simpa using hk
  have := h.fs
  omega
/-- A row of ints of another's has grown; what follows of an append to the stack's row. -/
theorem BelowSt.grow_s (h : BelowSt w0 w vb m nn f sb sv S fv F) {g cap : Nat} {x : Int} (hown : w'.ownsRow 0 3 1 (.slice (some ⟨g, 0, none⟩) (S.length + 1) cap) (S.length + 1) (ints S ++ [.int .i64 x]))
    (hgr : (w.alloc (.cells #[.int .i64 x] 3)).grownBy w' sv.ownBlock) (hat : sv.ownBlock = some g ∨ g = w.heap.size + 1) :
    Blk w' sb 22 [sv] ∧ BelowSt w0 (w'.setCell ⟨sb, 0, none⟩ (.slice (some ⟨g, 0, none⟩) (S.length + 1) cap)) vb m nn f sb (.slice (some ⟨g, 0, none⟩) (S.length + 1) cap) (S ++ [x]) fv F := by
  have ho : Only sv.ownBlock.toList w w' := ((Only.refl _ w).alloc _).trans (Only.of_grown (S := sv.ownBlock.toList) hgr (by simp)) (fun k hk => .inl hk)
  obtain ⟨e1, e2, e3, e4⟩ := h.ne_mv
  obtain ⟨d1, d2, d3⟩ := h.ne_s
  have hs' : IntsAt w' (.slice (some ⟨g, 0, none⟩) (S.length + 1) cap) (S ++ [x]) := by
    unfold IntsAt
    simpa [ints] using hown
  have hstk : Blk w' sb 22 [sv] := h.stk.only ho (fun hm => (d2 sb (by simpa using hm)).2 rfl)
  have hmid : ∀ k, (∀ q, sv.ownBlock = some q → q ≠ k) → k ∉ sv.ownBlock.toList := fun k hk hm => hk k (by simpa using hm) rfl
  refine ⟨hstk, ?_⟩
  have h1 : Blk w' vb 110 [.map (some m)] := h.vis.only ho (hmid vb (fun q hq => (d2 q hq).1))
  have h2 : MapI w' m nn f := h.map.only ho (hmid m (fun q hq => e3 q hq))
  have h3 : IntsAt w' fv F := h.f.only ho (fun q hq hm => h.ap q (by simpa using hm) hq)
  have hgf : w0.heap.size ≤ g := by
    rcases hat with e | e
    · exact h.fsv g e
    · have := h.only.size
      omega
  have hgap : ∀ q, (Value.slice (some ⟨g, 0, none⟩) (S.length + 1) cap).ownBlock = some q → fv.ownBlock ≠ some q := by
    intro q hq hq2
    have e : g = q := by simpa [Value.ownBlock] using hq
    subst e
    rcases hat with e | e
    · exact h.ap g e hq2
    · have := h.f.lt g hq2
      omega
  have hsn : g ≠ sb := by
    obtain ⟨cs, fr, hc⟩ := hs'.typ (g := g) rfl
    exact heap_ne hc hstk (by intro e; injection e with _ e2; exact absurd e2 (by decide))
  have hO : Only [] w0 w' := h.only.trans ho (fun k hk => .inr (h.fsv k (by simpa using hk)))
  have ho2 : Only [sb] w' (w'.setCell ⟨sb, 0, none⟩ (.slice (some ⟨g, 0, none⟩) (S.length + 1) cap)) := (Only.refl _ _).setCell (.inl (by simp)) _
  exact ⟨h1.only ho2 (by simpa using d1), h2.only ho2 (by simpa using e2.symm), hstk.set_ 0 _, hs'.only ho2 (fun q hq => by
    have e : g = q := by simpa [Value.ownBlock] using hq
    subst e
    simpa using hsn), h3.only ho2 (fun q hq => by simpa using (d3 q hq).2), hgap, h.fv_, h.fm, h.fs, fun q hq => by
    have e : g = q := by simpa [Value.ownBlock] using hq
    omega, h.ffv, hO.trans ho2 (fun k hk => .inr (by
      have e : k = sb := by simpa using hk
      have := h.fs
      omega))⟩
end
end Go.Proofs.YtigpnopeacicpaaDoor

/-
  walk.Below: 'visit', the walk.
-/
namespace Go.Proofs.YtigpnopeacicpaaDoor
open Go.RowKit

/-- What has been met: those of the map. -/
def Met (f : Int → Option Int) (x : Int) : Prop := f x = some 1
def Plain01 (f : Int → Option Int) : Prop := ∀ x, f x = none ∨ f x = some 1
def metF (f : Int → Option Int) (id : Int) : Int → Option Int := fun x => if x = id then some 1 else f x
theorem metF_plain {f : Int → Option Int} (h : Plain01 f) (id : Int) : Plain01 (metF f id) := fun x => by
  unfold metF
  by_cases e : x = id
  · exact .inr (by rw [if_pos e])
  · rw [if_neg e]
    exact h x
theorem met_metF {f : Int → Option Int} (id : Int) (y : Int) : Met (metF f id) y ↔ Met f y ∨ y = id := by
  unfold Met metF
  by_cases e : y = id
  · simp [e]
  · simp [e]

/-- Arrays of two ints are as they were. -/
def Keep2 (w w' : World) : Prop := ∀ q cs, Blk w q 122 cs → Blk w' q 122 cs
theorem BelowSt.keep_map {w0 w w' : World} {vb m nn : Nat} {f : Int → Option Int} {sb : Nat} {sv : Value} {S : List Int} {fv : Value} {F : List Int} (h : BelowSt w0 w vb m nn f sb sv S fv F) (ho : Only [m] w w') : Keep2 w w' := by
  intro q cs hq
  obtain ⟨es, clock, hm⟩ := h.map.obj
  exact hq.only ho (by simpa using heap_ne hq hm (by simp))
theorem BelowSt.keep_s {w0 w w' : World} {vb m nn : Nat} {f : Int → Option Int} {sb : Nat} {sv : Value} {S : List Int} {fv : Value} {F : List Int} (h : BelowSt w0 w vb m nn f sb sv S fv F) {x : Int} {u : Value}
    (hgr : (w.alloc (.cells #[.int .i64 x] 3)).grownBy w' sv.ownBlock) : Keep2 w (w'.setCell ⟨sb, 0, none⟩ u) := by
  intro q cs hq
  have ho : Only sv.ownBlock.toList w w' := ((Only.refl _ w).alloc _).trans (Only.of_grown (S := sv.ownBlock.toList) hgr (by simp)) (fun k hk => .inl hk)
  have h1 : Blk w' q 122 cs := hq.only ho (fun hm => by
    obtain ⟨cs', fr, hc⟩ := h.s.typ (g := q) (by simpa using hm)
    exact heap_ne hq hc (by intro e; injection e with _ e2; exact absurd e2 (by decide)) rfl)
  have hne : q ≠ sb := heap_ne hq h.stk (by intro e; injection e with _ e2; exact absurd e2 (by decide))
  exact h1.far hne u
/-- What visit leaves: the same, or the id on the stack. -/
def VPost (w0 w : World) (vb m nn : Nat) (f : Int → Option Int) (sb : Nat) (sv : Value) (S : List Int) (fv : Value) (F : List Int) (id : Int) (e : Ending) (w' : World) : Prop :=
  e = .returned (.tuple #[]) ∧ Keep2 w w' ∧ ((Met f id ∧ BelowSt w0 w' vb m nn f sb sv S fv F) ∨ (¬ Met f id ∧ ∃ sv', BelowSt w0 w' vb m (nn + 1) (metF f id) sb sv' (S ++ [id]) fv F))

set_option maxHeartbeats 800000 in
set_option maxRecDepth 100000 in
theorem visit_any (w0 w : World) (vb m nn : Nat) (f : Int → Option Int) (sb : Nat) (sv : Value) (S : List Int) (fv : Value) (F : List Int) (id : Int) (h : BelowSt w0 w vb m nn f sb sv S fv F) (hf : Plain01 f) (hid : Small id) (hnn : nn < 100000) (hS : Hid (S.length ≤ 100000)) :
    Calls Tryd.prog 74 #[.int .i64 id, .pointer (some ⟨vb, 0, none⟩), .pointer (some ⟨sb, 0, none⟩)] w (VPost w0 w vb m nn f sb sv S fv F id) := by
  obtain ⟨i0, hi, hz0, hz1, hz2⟩ := int_parts
  have cv : w.cell? ⟨vb, 0, none⟩ = some (.map (some m)) := h.vis.cell 0
  have hl := h.map.look hid
  rcases hf id with e | e
  · have hn : ¬ Met f id := by unfold Met; rw [e]; simp
    rw [e] at hl
    obtain ⟨w1, hup, hm1, ho1⟩ := h.map.store (by omega) hid (v := 1) (by unfold Small; omega)
    have H1 := h.mark (f' := metF f id) hm1 ho1
    have HKm := Lib.hid (h.keep_map ho1)
    have HH := Lib.hid H1
    have Hn := Lib.hid hn
    obtain ⟨A, c, rfl, -⟩ := H1.s.shape
    have cs1 : w1.cell? ⟨sb, 0, none⟩ = some (.slice A S.length c) := H1.stk.cell 0
    have cs1' := ((Only.refl [] w1).alloc (.cells #[.int .i64 id] 3)).cell cs1 (by simp)
    clear h hm1 ho1 H1 e hn hf
    go_enter Tryd.func74, Tryd.ntmps74
    go_wp2_with (at_builtin; refine wpList_append_lies _ rfl _ _ _ rfl 0 3 i0 _ 1 8 Tryd.underlying22 hi hz0 hz1 hz2 rfl (by decide) (.slice A S.length c) S.length (ints S) rfl (by exact HH.out.s.alloc _) ⟨w1.heap.size, 0, none⟩ 1 1 [.int .i64 id] rfl rfl (by exact cell_one_new _ _ _) (by simp [Value.oneCell']) (by decide) (by have := hS.out; simp only [maxLen]; omega) (by have := hS.out; omega) (Nat.zero_le _) (w1.heap.size + 1) (by simp) ?_; intro g cap w2 hown2 hgr2 hat2 hlt2; have G := Lib.hid (HH.out.grow_s hown2 hgr2 hat2); have HKs := Lib.hid (HH.out.keep_s (u := .slice (some ⟨g, 0, none⟩) (S.length + 1) cap) hgr2); have a0 := G.out.1.cell 0; have f0 := G.out.1.frozen 0; simp only [List.getElem?_cons_zero] at a0)
    go_returns
    exact ⟨rfl, fun q cs hq => HKs.out q cs (HKm.out q cs hq), .inr ⟨Hn.out, _, G.out.2⟩⟩
  · rw [e] at hl
    have HH := Lib.hid h
    have Hn : Hid (Met f id) := e
    clear h hf e
    go_enter Tryd.func74, Tryd.ntmps74
    go_wp2_with fail
    go_returns
    exact ⟨rfl, fun _ _ hq => hq, .inl ⟨Hn.out, HH.out⟩⟩
end Go.Proofs.YtigpnopeacicpaaDoor

/-
  walk.Below: the search, step by step.
-/
namespace Go.Proofs.YtigpnopeacicpaaDoor
open Go.RowKit

theorem ints_prefix {w : World} {g n c : Nat} {S : List Int} {x : Int} (h : IntsAt w (.slice (some ⟨g, 0, none⟩) n c) (S ++ [x])) : IntsAt w (.slice (some ⟨g, 0, none⟩) S.length c) S := by
  rcases h.2 with ⟨h0, _⟩ | ⟨g', cap, cur, he, hb, hg, h1, h2, h3, h4⟩
  · cases h0
  · injection he with e1 e2 e3
    injection e1 with e1
    injection e1 with e1 _ _
    subst e1 e3
    refine ⟨by simp [ints], .inr ⟨g, c, cur, rfl, hb, hg, by simp at h1; omega, h2, h3, ?_⟩⟩
    have h5 : (cur.toList.take ((S ++ [x]).length * 1)).take (S.length * 1) = (ints (S ++ [x])).take (S.length * 1) := by rw [h4]
    rw [List.take_take, show min (S.length * 1) ((S ++ [x]).length * 1) = S.length * 1 by simp] at h5
    rw [h5]
    have e : ints (S ++ [x]) = ints S ++ [.int .i64 x] := by simp [ints]
    rw [e, List.take_append_of_le_length (by simp [ints]), List.take_of_length_le (by simp [ints])]

section
variable {w0 w w' : World} {vb m nn : Nat} {f : Int → Option Int} {sb : Nat} {sv : Value} {S : List Int} {fv : Value} {F : List Int}
theorem BelowSt.grow_f (h : BelowSt w0 w vb m nn f sb sv S fv F) {g cap : Nat} {x : Int} (hown : w'.ownsRow 0 3 1 (.slice (some ⟨g, 0, none⟩) (F.length + 1) cap) (F.length + 1) (ints F ++ [.int .i64 x]))
    (hgr : (w.alloc (.cells #[.int .i64 x] 3)).grownBy w' fv.ownBlock) (hat : fv.ownBlock = some g ∨ g = w.heap.size + 1) : BelowSt w0 w' vb m nn f sb sv S (.slice (some ⟨g, 0, none⟩) (F.length + 1) cap) (F ++ [x]) := by
  have ho : Only fv.ownBlock.toList w w' := ((Only.refl _ w).alloc _).trans (Only.of_grown (S := fv.ownBlock.toList) hgr (by simp)) (fun k hk => .inl hk)
  obtain ⟨e1, e2, e3, e4⟩ := h.ne_mv
  obtain ⟨d1, d2, d3⟩ := h.ne_s
  have hmid : ∀ k, (∀ q, fv.ownBlock = some q → q ≠ k) → k ∉ fv.ownBlock.toList := fun k hk hm => hk k (by simpa using hm) rfl
  have hf' : IntsAt w' (.slice (some ⟨g, 0, none⟩) (F.length + 1) cap) (F ++ [x]) := by
    unfold IntsAt
    simpa [ints] using hown
  refine ⟨h.vis.only ho (hmid vb (fun q hq => (d3 q hq).1)), h.map.only ho (hmid m (fun q hq => e4 q hq)), h.stk.only ho (hmid sb (fun q hq => (d3 q hq).2)), h.s.only ho (fun q hq hm => h.ap q hq (by simpa using hm)), hf', ?_, h.fv_, h.fm, h.fs, h.fsv, ?_, h.only.trans ho (fun k hk => .inr (h.ffv k (by simpa using hk)))⟩
  · intro q hq hq2
    have e : g = q := by simpa [Value.ownBlock] using hq2
    subst e
    rcases hat with e | e
    · exact h.ap g hq e
    · have := h.s.lt g hq
      omega
  · intro q hq
    have e : g = q := by simpa [Value.ownBlock] using hq
    subst e
    rcases hat with e | e
    · exact h.ffv g e
    · have := h.only.size
      omega
end

/-- A search under way: F has been found, all that 'need' names have been met. -/
def Srch (ns : List Nd) (R : Int → Prop) (w0 w : World) (vb m sb : Nat) (fv : Value) (F : List Int) (need : Int → Prop) : Prop :=
  ∃ nn f sv S, BelowSt w0 w vb m nn f sb sv S fv F ∧ Plain01 f ∧ Dfs ns R F S (Met f) ∧ nn = F.length + S.length ∧ ∀ y, need y → Met f y
theorem Srch.nil {ns : List Nd} {R : Int → Prop} {w0 w w' : World} {vb m sb : Nat} {fv : Value} {F : List Int} {need : Int → Prop} (h : Srch ns R w0 w vb m sb fv F need) (ho : Only [] w w') : Srch ns R w0 w' vb m sb fv F need := by
  obtain ⟨nn, f, sv, S, h1, h2⟩ := h
  exact ⟨nn, f, sv, S, h1.nil ho, h2⟩
theorem Srch.weak {ns : List Nd} {R : Int → Prop} {w0 w : World} {vb m sb : Nat} {fv : Value} {F : List Int} {need need' : Int → Prop} (h : Srch ns R w0 w vb m sb fv F need) (hn : ∀ y, need' y → need y) : Srch ns R w0 w vb m sb fv F need' := by
  obtain ⟨nn, f, sv, S, h1, h2, h3, h4, h5⟩ := h
  exact ⟨nn, f, sv, S, h1, h2, h3, h4, fun y hy => h5 y (hn y hy)⟩
theorem Srch.only {ns : List Nd} {R : Int → Prop} {w0 w : World} {vb m sb : Nat} {fv : Value} {F : List Int} {need : Int → Prop} (h : Srch ns R w0 w vb m sb fv F need) : Only [] w0 w := by
  obtain ⟨nn, f, sv, S, h1, _⟩ := h
  exact h1.only

theorem visit_srch {ns : List Nd} (ok : OkDag ns) (hns : ns.length ≤ 20000) {R : Int → Prop} {w0 w : World} {vb m sb : Nat} {fv : Value} {F : List Int} {need : Int → Prop} {id : Int} (h : Srch ns R w0 w vb m sb fv F need) (hid : Reach ns R id) :
    Calls Tryd.prog 74 #[.int .i64 id, .pointer (some ⟨vb, 0, none⟩), .pointer (some ⟨sb, 0, none⟩)] w fun e w' => e = .returned (.tuple #[]) ∧ Keep2 w w' ∧ Srch ns R w0 w' vb m sb fv F (fun y => need y ∨ y = id) := by
  obtain ⟨nn, f, sv, S, h1, h2, h3, h4, h5⟩ := h
  have hr := hid.range ok
  have hl := h3.len ok
  refine (visit_any w0 w vb m nn f sb sv S fv F id h1 h2 (by unfold Small; omega) (by omega) (by show _ ≤ _; omega)).mono ?_
  rintro e w' ⟨he, hK, ⟨hm, hb⟩ | ⟨hm, sv', hb⟩⟩
  · refine ⟨he, hK, nn, f, sv, S, hb, h2, h3, h4, fun y hy => ?_⟩
    rcases hy with hy | hy
    · exact h5 y hy
    · exact hy ▸ hm
  · refine ⟨he, hK, nn + 1, metF f id, sv', S ++ [id], hb, metF_plain h2 id, h3.visit hid hm (fun y => met_metF id y), by simp; omega, fun y hy => ?_⟩
    rw [met_metF]
    rcases hy with hy | hy
    · exact .inl (h5 y hy)
    · exact .inr hy
end Go.Proofs.YtigpnopeacicpaaDoor

/-
  dag.Node, walk.parts.
-/
namespace Go.Proofs.YtigpnopeacicpaaDoor
open Go.RowKit
attribute [local go_sem] run_store_float

set_option maxHeartbeats 800000 in
theorem dnode_in (d : Nat) (v : Value) (r : Option Nat) (ns : List Nd) (k : Nat) (w : World) (hd : DagIs w d v r ns) (hk : k < ns.length) :
    Calls Tryd.prog 72 #[.pointer (some ⟨d, 0, none⟩), .int .i64 (k : Int)] w fun e w' => e = .returned (.tuple #[(ns[k]?.getD nd0).val, .bool true]) ∧ Only [] w w' := by
  obtain ⟨A, c, hv, _, _, hc⟩ := NodesAt.shape (w := w) (u := v) (ns := ns) hd.row
  obtain ⟨g, rfl, x0, x1, x2, x3⟩ := hc k hk
  have h0 : w.cell? ⟨d, 0, none⟩ = some (.slice (some ⟨g, 0, none⟩) ns.length c) := by rw [← hv]; exact hd.blk.cell 0
  have hh : hasB ns.length (k : Int) = true := by simp [hasB]; omega
  generalize ns[k]?.getD nd0 = n at x0 x1 x2 x3 ⊢
  obtain ⟨nk, nf, na, nb⟩ := n
  simp only at x0 x1 x2 x3
  have hk' : (k : Int) < (ns.length : Int) := by omega
  have ho := (Only.refl [] w).alloc (.cells #[.int .i64 0, .float .f64 0, .int .i64 0, .int .i64 0] 31)
  have h0' := ho.cell h0 (by simp)
  have y0 := ho.cell x0 (by simp)
  have y1 := ho.cell x1 (by simp)
  have y2 := ho.cell x2 (by simp)
  have y3 := ho.cell x3 (by simp)
  clear hd hc hv ho x0 x1 x2 x3
  go_enter Tryd.func72, Tryd.ntmps72
  go_wp2_with (go_at_call 103; (with_reducible refine (has_any d _ ns.length c _ _ h0').mono ?_); rintro e w' ⟨rfl, rfl⟩)
  all_goals go_returns
  all_goals exact ⟨rfl, (Only.refl _ _).alloc _⟩

set_option maxHeartbeats 800000 in
theorem dnode_out (d : Nat) (v : Value) (r : Option Nat) (ns : List Nd) (k : Int) (w : World) (hd : DagIs w d v r ns) (hk : hasB ns.length k = false) :
    Calls Tryd.prog 72 #[.pointer (some ⟨d, 0, none⟩), .int .i64 k] w fun e w' => e = .returned (.tuple #[nd0.val, .bool false]) ∧ Only [] w w' := by
  obtain ⟨A, c, rfl⟩ := hd.shape
  have h0 : w.cell? ⟨d, 0, none⟩ = some (.slice A ns.length c) := hd.blk.cell 0
  have h0' := ((Only.refl [] w).alloc (.cells #[.int .i64 0, .float .f64 0, .int .i64 0, .int .i64 0] 31)).cell h0 (by simp)
  clear hd
  go_enter Tryd.func72, Tryd.ntmps72
  go_wp2_with (go_at_call 103; (with_reducible refine (has_any d _ ns.length c _ _ h0').mono ?_); rintro e w' ⟨rfl, rfl⟩)
  go_returns
  exact ⟨rfl, (Only.refl _ _).alloc _⟩

theorem arr_cells (w : World) (x0 x1 x2 x3 y0 y1 : Value) : (((w.alloc (.cells #[x0, x1, x2, x3] 31)).alloc (.cells #[y0, y1] 122)).cell? ⟨w.heap.size + 1, 0, none⟩ = some y0) ∧ (((w.alloc (.cells #[x0, x1, x2, x3] 31)).alloc (.cells #[y0, y1] 122)).cell? ⟨w.heap.size + 1, 1, none⟩ = some y1) := by
  have h := Blk.new (w.alloc (.cells #[x0, x1, x2, x3] 31)) 122 [y0, y1]
  rw [World.size_alloc] at h
  exact ⟨h.cell 0, h.cell 1⟩

set_option maxHeartbeats 800000 in
theorem parts_leaf (f : Nat) (a b : Int) (w : World) :
    Calls Tryd.prog 75 #[.agg #[.int .i64 0, .float .f64 f, .int .i64 a, .int .i64 b]] w fun e w' => e = .returned (.tuple #[.agg #[.int .i64 0, .int .i64 0], .int .i64 0]) ∧ Only [] w w' := by
  go_enter Tryd.func75, Tryd.ntmps75
  go_wp2_with fail
  obtain ⟨c0, c1⟩ := arr_cells w (.int .i64 0) (.float .f64 f) (.int .i64 a) (.int .i64 b) (.int .i64 0) (.int .i64 0)
  refine bodyPost_ret (v := .tuple #[.agg #[.int .i64 0, .int .i64 0], .int .i64 0]) (by simp [results, Tryd.results75, go_sem, c0, c1]) rfl ⟨rfl, ?_⟩
  exact ((Only.refl _ _).alloc _).alloc _

set_option maxHeartbeats 800000 in
theorem parts_root (f : Nat) (a b : Int) (w : World) :
    Calls Tryd.prog 75 #[.agg #[.int .i64 5, .float .f64 f, .int .i64 a, .int .i64 b]] w fun e w' => e = .returned (.tuple #[.agg #[.int .i64 a, .int .i64 0], .int .i64 1]) ∧ Only [] w w' := by
  go_enter Tryd.func75, Tryd.ntmps75
  go_wp2_with fail
  obtain ⟨c0, c1⟩ := arr_cells w (.int .i64 5) (.float .f64 f) (.int .i64 a) (.int .i64 b) (.int .i64 a) (.int .i64 0)
  refine bodyPost_ret (v := .tuple #[.agg #[.int .i64 a, .int .i64 0], .int .i64 1]) (by simp [results, Tryd.results75, go_sem, c0, c1]) rfl ⟨rfl, ?_⟩
  exact ((Only.refl _ _).alloc _).alloc _

set_option maxHeartbeats 800000 in
theorem parts_two (k : Int) (f : Nat) (a b : Int) (w : World) (h0 : (k == 0) = false) (h5 : (k == 5) = false) :
    Calls Tryd.prog 75 #[.agg #[.int .i64 k, .float .f64 f, .int .i64 a, .int .i64 b]] w fun e w' => e = .returned (.tuple #[.agg #[.int .i64 a, .int .i64 b], .int .i64 2]) ∧ Only [] w w' := by
  go_enter Tryd.func75, Tryd.ntmps75
  go_wp2_with fail
  obtain ⟨c0, c1⟩ := arr_cells w (.int .i64 k) (.float .f64 f) (.int .i64 a) (.int .i64 b) (.int .i64 a) (.int .i64 b)
  refine bodyPost_ret (v := .tuple #[.agg #[.int .i64 a, .int .i64 b], .int .i64 2]) (by simp [results, Tryd.results75, go_sem, c0, c1]) rfl ⟨rfl, ?_⟩
  exact ((Only.refl _ _).alloc _).alloc _
end Go.Proofs.YtigpnopeacicpaaDoor

/-
  A row of ints of the call's own, sorted.
-/
namespace Go.Proofs.YtigpnopeacicpaaDoor
open Go.RowKit Go.Sort

theorem putCells_take (Z : List Int) (cur : Array Value) (h : Z.length ≤ cur.size) : (putCells (Value.int .i64) 0 Z.toArray cur).toList.take Z.length = ints Z := by
  apply List.ext_getElem?
  intro k
  by_cases hk : k < Z.length
  · rw [List.getElem?_take_of_lt hk, Array.getElem?_toList, putCells, Array.getElem?_mapIdx, Array.getElem?_eq_getElem (by omega)]
    simp only [Option.map_some, ints, List.getElem?_map, List.getElem?_eq_getElem hk, Nat.zero_le, true_and, List.size_toArray, Nat.zero_add, if_pos hk, Nat.sub_zero]
    rw [getElem!_pos _ k (by simpa using hk)]
    simp
  · rw [List.getElem?_take_eq_none (by omega), List.getElem?_eq_none (by simp [ints]; omega)]

theorem sort_row {w : World} {g c : Nat} {F Z : List Int} (h : IntsAt w (.slice (some ⟨g, 0, none⟩) F.length c) F) (hl : Z.length = F.length) (n : Nat) (os : Array Obj) :
    IntsAt (grow (putRow (Value.int .i64) (Sort.ahead w n) g 0 Z.toArray) os) (.slice (some ⟨g, 0, none⟩) Z.length c) Z ∧ Only [g] w (grow (putRow (Value.int .i64) (Sort.ahead w n) g 0 Z.toArray) os) := by
  rcases h.2 with ⟨h0, _⟩ | ⟨g', cap, cur, he, hb, hg, h1, h2, h3, h4⟩
  · cases h0
  · injection he with e1 e2 e3
    injection e1 with e1
    injection e1 with e1 _ _
    subst e1 e3
    have hlt := lt_of_heap hg
    refine ⟨⟨by simp [ints], .inr ⟨g, c, putCells (Value.int .i64) 0 Z.toArray cur, rfl, hb, ?_, by omega, h2, by simp [putCells, h3], ?_⟩⟩, rfl, rfl, rfl, ?_, ?_⟩
    · rw [heap_grow_old _ _ (by simpa [putRow, mapBlock, Sort.ahead] using hlt)]
      simp only [putRow, mapBlock, Sort.ahead, Array.getElem?_modify, if_true, hg, Option.map_some]
      rfl
    · rw [Nat.mul_one]
      exact putCells_take Z cur (by omega)
    · simp [putRow, mapBlock, Sort.ahead]
    · intro k hk hn
      rw [heap_grow_old _ _ (by simpa [putRow, mapBlock, Sort.ahead] using hk)]
      simp only [putRow, mapBlock, Sort.ahead, Array.getElem?_modify]
      rw [if_neg (by intro e; exact hn (by simp [e]))]

/-- slices.Sort of a row of the call's own. -/
theorem sort_any (w : World) (v : Value) (F : List Int) (h : IntsAt w v F) (hl : F.length ≤ 1000000) :
    Calls Tryd.prog 76 #[v] w fun e w' => e = .returned (.tuple #[]) ∧ IntsAt w' v (F.mergeSort fun x y => decide (x ≤ y)) ∧ Only v.ownBlock.toList w w' := by
  have hlen : (F.mergeSort fun x y => decide (x ≤ y)).length = F.length := List.length_mergeSort F
  rcases h.2 with ⟨rfl, h0⟩ | ⟨g, cap, cur, rfl, hb, hg, h1, h2, h3, h4⟩
  · have e : F = [] := List.length_eq_zero_iff.1 h0
    subst e
    refine (Tryd.slices_Sort_int_none none 0 w).mono ?_
    rintro e w' ⟨he, hw⟩
    refine ⟨he, hw ▸ ?_, hw ▸ Only.refl _ _⟩
    rw [List.length_eq_zero_iff.1 (hlen.trans rfl)]
    exact h
  · have hc := World.ownsRow.cells h (g := g) rfl
    refine (Tryd.slices_Sort_int g 0 cap F w (fun j hj => ⟨?_, ?_⟩) (lt_of_heap hg) (by omega)).mono ?_
    · have hj' : j < F.length := by simpa using hj
      have h5 := hc j (.int .i64 (F[j]?.getD 0)) (by simp [ints, hj'])
      rw [addr_add] at h5
      rw [h5, getElem!_pos _ j hj]
      simp [hj']
    · simp [World.frozen?, hg]
    · rintro e w' ⟨he, n, os, hw⟩
      obtain ⟨r1, r2⟩ := sort_row (Z := F.mergeSort fun x y => decide (x ≤ y)) h hlen n os
      rw [← hw, hlen] at r1
      rw [← hw] at r2
      exact ⟨he, r1, r2⟩
end Go.Proofs.YtigpnopeacicpaaDoor

/-
  walk.Below: the walk.
-/
namespace Go.Proofs.YtigpnopeacicpaaDoor
open Go.RowKit
attribute [local go_sem] run_store_float

abbrev nilI : Value := .slice none 0 0
theorem srch_start (ns : List Nd) (R : Int → Prop) (w : World) :
    Srch ns R w (((w.alloc (.cells #[nilI] 22)).alloc (.map #[] 0)).alloc (.cells #[.map (some (w.heap.size + 1))] 110)) (w.heap.size + 1 + 1) (w.heap.size + 1) w.heap.size nilI [] (fun _ => False) := by
  have e1 : (w.alloc (.cells #[nilI] 22)).heap.size = w.heap.size + 1 := World.size_alloc w _
  have e2 : ((w.alloc (.cells #[nilI] 22)).alloc (.map #[] 0)).heap.size = w.heap.size + 1 + 1 := by rw [World.size_alloc, e1]
  have hv := Blk.new ((w.alloc (.cells #[nilI] 22)).alloc (.map #[] 0)) 110 [.map (some (w.heap.size + 1))]
  rw [e2] at hv
  have hm := MapI.made (w.alloc (.cells #[nilI] 22))
  rw [e1] at hm
  refine ⟨0, fun _ => none, nilI, [], ⟨hv, hm.only ((Only.refl [] _).alloc _) (by simp), ((Blk.new w 22 [nilI]).alloc _).alloc _, World.ownsRow_nil _ _ _ _, World.ownsRow_nil _ _ _ _, ?_, by omega, by omega, by omega, ?_, ?_, (((Only.refl _ _).alloc _).alloc _).alloc _⟩, fun _ => .inl rfl, ⟨by simp, fun x => by simp [Met], fun x hx => by simp at hx⟩, rfl, fun y hy => hy.elim⟩
  · intro g hg; simp [Value.ownBlock] at hg
  · intro g hg; simp [Value.ownBlock] at hg
  · intro g hg; simp [Value.ownBlock] at hg

theorem ints_form {w : World} {u : Value} {S : List Int} (h : IntsAt w u S) (hn : 0 < S.length) : ∃ g c, u = .slice (some ⟨g, 0, none⟩) S.length c ∧ S.length ≤ c ∧ c ≤ maxLen ∧ ∀ k, k < S.length → w.cell? ⟨g, k, none⟩ = some (.int .i64 (S[k]?.getD 0)) := by
  rcases h.2 with ⟨_, h0⟩ | ⟨g, cap, cur, rfl, _, hg, hn', hm, _⟩
  · omega
  · refine ⟨g, cap, rfl, hn', hm, fun k hk => ?_⟩
    have hc := World.ownsRow.cells h (g := g) rfl
    have h1 := hc k (.int .i64 (S[k]?.getD 0)) (by simp [ints, hk])
    rw [addr_add, Nat.zero_add] at h1
    exact h1

/-- What has been met, beside the roots: the operands of all that have been found. -/
def Need (ns : List Nd) (xs F : List Int) (y : Int) : Prop := (y ∈ xs ∧ 0 ≤ y ∧ y < ns.length) ∨ ∃ z ∈ F, y ∈ kids (nodeAt ns z)
theorem need_next {ns : List Nd} {xs F : List Int} {x y : Int} (h : Need ns xs (F ++ [x]) y) : Need ns xs F y ∨ y ∈ kids (nodeAt ns x) := by
  rcases h with h | ⟨z, hz, hy⟩
  · exact .inl (.inl h)
  · rcases List.mem_append.1 hz with hz | hz
    · exact .inl (.inr ⟨z, hz, hy⟩)
    · have e : z = x := by simpa using hz
      exact .inr (e ▸ hy)

def lenV : Value → Nat
  | .slice _ n _ => n
  | _ => 0

set_option maxHeartbeats 3200000 in
set_option maxRecDepth 100000 in
theorem below_any (d : Nat) (v : Value) (r : Option Nat) (ns : List Nd) (xs : List Int) (A : Option Addr) (c : Nat) (w : World) (hd : DagIs w d v r ns) (ok : OkDag ns) (hns : ns.length ≤ 20000) (hA : Hid (IRead w A xs)) (hxs : (xs.length : Int) ≤ 1000) :
    Calls Tryd.prog 43 #[.pointer (some ⟨d, 0, none⟩), .slice A xs.length c] w fun e w' => ∃ u, e = .returned u ∧ IntsAt w' u (belowL ns (· ∈ xs)) ∧ (∀ g, u.ownBlock = some g → w.heap.size ≤ g) ∧ Only [] w w' := by
  obtain ⟨i0, hi, hz0, hz1, hz2⟩ := int_parts
  have hmf : ∀ (fn : Fn) (first cap : Array Value) (w : World), (Instr.makeFunc fn first cap).run Tryd.prog w = .ok (.func fn first cap) w := fun _ _ _ _ => rfl
  have hmm := @run_makeMap Tryd.prog
  have HD := Lib.hid hd
  have HOk := Lib.hid ok
  have HNs := Lib.hid hns
  have S0 := Lib.hid (srch_start ns (· ∈ xs) w)
  clear hd ok hns
  go_enter Tryd.func43, Tryd.ntmps43
  go_wp2_with fail
  clear hmf hmm
  generalize w.heap.size + 1 + 1 = vb at S0 ⊢
  generalize w.heap.size + 1 = m at S0 ⊢
  generalize w.heap.size = sb at S0 ⊢
  go_loopw [24] (fun i wr => ∃ k : Nat, k ≤ xs.length ∧ i = .int .i64 (k : Int) ∧ Srch ns (· ∈ xs) w wr vb m sb nilI [] (fun y => (∃ j, j < k ∧ y = xs[j]?.getD 0) ∧ 0 ≤ y ∧ y < ns.length)) (fun i _ => xs.length - (intOf i).toNat)
  case atStart => exact ⟨0, Nat.zero_le _, rfl, S0.out.weak (fun y hy => by obtain ⟨⟨j, hj, _⟩, _⟩ := hy; omega)⟩
  case round =>
    obtain ⟨k, hk, rfl, hS⟩ := hrel
    have HS := Lib.hid hS
    clear hS S0
    by_cases hlt : k < xs.length
    · obtain ⟨b, o, rfl, hc⟩ := hA.out k hlt
      have cx := HS.out.only.cell hc (by simp)
      have HX : Hid (xs[k]?.getD 0 ∈ xs) := by
        show _ ∈ _
        rw [List.getElem?_eq_getElem hlt]
        exact List.getElem_mem hlt
      have HStep : Hid (∀ y, ((∃ j, j < k + 1 ∧ y = xs[j]?.getD 0) ∧ 0 ≤ y ∧ y < ns.length) → (((∃ j, j < k ∧ y = xs[j]?.getD 0) ∧ 0 ≤ y ∧ y < ns.length) ∨ (y = xs[k]?.getD 0 ∧ 0 ≤ y ∧ y < ns.length))) := by
        rintro y ⟨⟨j, hj, hy⟩, h0⟩
        by_cases e : j = k
        · exact .inr ⟨e ▸ hy, h0⟩
        · exact .inl ⟨⟨j, by omega, hy⟩, h0⟩
      clear hc
      generalize xs[k]?.getD 0 = x at cx HX HStep
      have hk' : (k : Int) < (xs.length : Int) := by omega
      have HDr := Lib.hid (HD.out.only HS.out.only (by simp))
      by_cases hin : 0 ≤ x ∧ x < (ns.length : Int)
      · obtain ⟨a, rfl⟩ : ∃ a : Nat, x = (a : Int) := ⟨x.toNat, by omega⟩
        have ha : a < ns.length := by omega
        go_wp2_with fail
        refine (dnode_in d v r ns a wr HDr.out ha).mono ?_
        rintro e w2 ⟨rfl, ho2⟩
        have HS2 := Lib.hid (HS.out.nil ho2)
        clear ho2 HS HDr cx
        generalize ns[a]?.getD nd0 = n
        obtain ⟨nk, nf, na, nb⟩ := n
        simp only [Nd.val]
        go_wp2_with fail
        have HS3 := Lib.hid (HS2.out.nil ((Only.refl [] w2).alloc (.cells #[.int .i64 nk, .float .f64 nf, .int .i64 na, .int .i64 nb] 31)))
        refine (visit_srch HOk.out HNs.out HS3.out (Reach.root (a : Int) HX.out hin.1 hin.2)).mono ?_
        rintro e w4 ⟨rfl, -, hS4⟩
        have HS4 := Lib.hid hS4
        clear hS4 HS2 HS3
        go_wp2_with fail
        go_roundw
        case rel => exact ⟨k + 1, by omega, by go_num, HS4.out.weak (fun y hy => by
          rcases HStep.out y hy with h | h
          · exact .inl h
          · exact .inr h.1)⟩
        case measure => simp [intOf]; omega
      · have hout : hasB ns.length x = false := by simp [hasB]; omega
        go_wp2_with fail
        refine (dnode_out d v r ns x wr HDr.out hout).mono ?_
        rintro e w2 ⟨rfl, ho2⟩
        have HS2 := Lib.hid (HS.out.nil ho2)
        clear ho2 HS HDr cx
        simp only [Nd.val, nd0]
        go_wp2_with fail
        have HS3 := Lib.hid (HS2.out.nil ((Only.refl [] w2).alloc (.cells #[.int .i64 0, .float .f64 0, .int .i64 0, .int .i64 0] 31)))
        go_roundw
        case rel => exact ⟨k + 1, by omega, by go_num, HS3.out.weak (fun y hy => by
          rcases HStep.out y hy with h | h
          · exact h
          · obtain ⟨rfl, h1, h2⟩ := h
            exact absurd ⟨h1, h2⟩ hin)⟩
        case measure => simp [intOf]; omega
    · have hnl : ¬ (k : Int) < (xs.length : Int) := by omega
      have HS1 : Hid (Srch ns (· ∈ xs) w wr vb m sb nilI [] (Need ns xs [])) := HS.out.weak (fun y hy => by
        rcases hy with ⟨hy, h0⟩ | ⟨z, hz, _⟩
        · obtain ⟨j, hj, rfl⟩ := List.getElem_of_mem hy
          exact ⟨⟨j, by omega, by rw [List.getElem?_eq_getElem hj]; rfl⟩, h0⟩
        · simp at hz)
      clear HS
      go_wp2_with fail
      go_loopw [5] (fun fv wq => ∃ F, Srch ns (· ∈ xs) w wq vb m sb fv F (Need ns xs F)) (fun fv _ => ns.length - lenV fv)
      case atStart => exact ⟨[], HS1.out⟩
      case round =>
        obtain ⟨F, nn, f, sv, S, hB, h01, hD, hnn, hneed⟩ := hrel
        clear HS1
        have HB := Lib.hid hB
        have H01 := Lib.hid h01
        have HDf := Lib.hid hD
        have HNn := Lib.hid hnn
        have HNeed := Lib.hid hneed
        have hlen := hD.len HOk.out
        obtain ⟨Af, cf, rfl, -⟩ := hB.f.shape
        rcases List.eq_nil_or_concat S with rfl | ⟨S', x, rfl⟩
        · obtain ⟨As, cs, rfl, -⟩ := hB.s.shape
          have cstk : wr.cell? ⟨sb, 0, none⟩ = some (.slice As 0 cs) := hB.stk.cell 0
          have HFin : Hid ((F.mergeSort fun x y => decide (x ≤ y)) = belowL ns (· ∈ xs)) := dfs_done HOk.out hD (fun x hx y hy => hneed y (.inr ⟨x, hx, hy⟩)) (fun x hx h0 h1 => hneed x (.inl ⟨hx, h0, h1⟩))
          have HL : Hid (F.length ≤ 1000000) := by
            have := HNs.out
            show _ ≤ _
            simp at hlen
            omega
          clear hB h01 hD hnn hneed hlen HDf HNn HNeed H01
          go_wp2_with fail
          refine (sort_any wr (.slice Af F.length cf) F HB.out.f HL.out).mono ?_
          rintro e w5 ⟨rfl, hs5, ho5⟩
          have HS5 := Lib.hid hs5
          have HO5 := Lib.hid ho5
          clear hs5 ho5
          go_wp2_with fail
          go_returns
          refine ⟨_, rfl, HFin.out ▸ HS5.out, fun g hg => HB.out.ffv g hg, HB.out.only.trans HO5.out (fun k hk => .inr (HB.out.ffv k (by simpa using hk)))⟩
        · rw [List.concat_eq_append] at *
          obtain ⟨gs, cs, rfl, hsc, hsm, hcell⟩ := ints_form hB.s (by simp)
          have hx := hcell S'.length (by simp)
          rw [show (S' ++ [x])[S'.length]?.getD 0 = x by simp] at hx
          have hpre := ints_prefix hB.s
          have cstk : wr.cell? ⟨sb, 0, none⟩ = some (.slice (some ⟨gs, 0, none⟩) (S' ++ [x]).length cs) := hB.stk.cell 0
          have fstk := hB.stk.frozen 0
          have hrx := hD.r x (by simp)
          have hrg := hrx.range HOk.out
          have HRx := Lib.hid hrx
          rw [List.length_append, List.length_singleton] at cstk hsc hlen
          have HPop := Lib.hid (hB.stack (sv' := .slice (some ⟨gs, 0, none⟩) S'.length cs) hpre (fun g hg => hB.ap g hg) (fun g hg => hB.fsv g hg))
          clear hB h01 hD hnn hneed hcell hpre hrx
          have HLen : Hid (F.length + (S'.length + 1) ≤ ns.length) := hlen
          clear hlen
          obtain ⟨a, rfl⟩ : ∃ a : Nat, x = (a : Int) := ⟨x.toNat, by omega⟩
          have ha : a < ns.length := by omega
          have hq : (S'.length : Int) ≤ 20000 := by have := HLen.out; have := HNs.out; omega
          have hsc' : S'.length ≤ cs := by omega
          have hsz : (wr.setCell ⟨sb, 0, none⟩ (.slice (some ⟨gs, 0, none⟩) S'.length cs)).heap.size = wr.heap.size := by simp [World.setCell]
          have HSz := Lib.hid hsz
          clear hrg hsz
          go_wp2_with (at_builtin; refine wpList_append_lies _ rfl _ _ _ rfl 0 3 i0 _ 1 8 Tryd.underlying22 hi hz0 hz1 hz2 rfl (by decide) (.slice Af F.length cf) F.length (ints F) rfl (by exact HPop.out.f.alloc _) ⟨wr.heap.size, 0, none⟩ 1 1 [.int .i64 (a : Int)] rfl rfl (by intro j u hu; have h1 := cell_one_new (wr.setCell ⟨sb, 0, none⟩ (.slice (some ⟨gs, 0, none⟩) S'.length cs)) (.int .i64 (a : Int)) 3 j u hu; rw [HSz.out] at h1; exact h1) (by simp [Value.oneCell']) (by decide) (by have := HLen.out; have := HNs.out; simp only [maxLen]; omega) (by have := HLen.out; have := HNs.out; omega) (Nat.zero_le _) (wr.heap.size + 1) (by rw [World.size_alloc, HSz.out]) ?_; intro g cap w3 hown2 hgr2 hat2 hlt2; have HS3 : Hid (Srch ns (· ∈ xs) w w3 vb m sb (.slice (some ⟨g, 0, none⟩) (F.length + 1) cap) (F ++ [(a : Int)]) (Need ns xs F)) := ⟨nn, f, _, S', HPop.out.grow_f hown2 hgr2 (by rw [HSz.out]; exact hat2), H01.out, HDf.out.pop, by have := HNn.out; simp at this ⊢; omega, HNeed.out⟩; clear hown2 hgr2 hat2 hlt2)
          clear hx cstk fstk HPop HDf HNn HB H01 HNeed hsc hsm hq hsc' HSz
          have HDr := Lib.hid (HD.out.only HS3.out.only (by simp))
          refine (dnode_in d v r ns a w3 HDr.out ha).mono ?_
          rintro e w4 ⟨rfl, ho4⟩
          have HS4 := Lib.hid (HS3.out.nil ho4)
          have HK : Hid (kids (nodeAt ns (a : Int)) = kids (ns[a]?.getD nd0)) := rfl
          clear ho4 HS3 HDr
          generalize ns[a]?.getD nd0 = n at HK ⊢
          obtain ⟨nk, nf, na, nb⟩ := n
          simp only [Nd.val]
          have HS5 := Lib.hid (HS4.out.nil ((Only.refl [] w4).alloc (.cells #[.int .i64 nk, .float .f64 nf, .int .i64 na, .int .i64 nb] 31)))
          clear HS4
          by_cases h0 : nk = 0
          · subst h0
            have HKids : Hid (∀ y ∈ kids (nodeAt ns (a : Int)), False) := by
              show ∀ y ∈ _, False
              rw [HK.out]
              simp [kids]
            go_wp2_with fail
            refine (parts_leaf nf na nb _).mono ?_
            rintro e w6 ⟨rfl, ho6⟩
            have HS7 := Lib.hid ((HS5.out.nil ho6).nil ((Only.refl [] w6).alloc (.cells #[.int .i64 0, .int .i64 0] 122)))
            clear HS5 ho6
            go_wp2_with fail
            refine wp_loop_rounds 1 ?_
            rw [rounds_succ]
            go_wp2_with fail
            go_roundw
            case rel => exact ⟨F ++ [(a : Int)], HS7.out.weak (fun y hy => by
              rcases need_next hy with h | h
              · first | exact h | exact .inl h | exact .inl (.inl h)
              · exact (HKids.out y h).elim)⟩
            case measure => have := HLen.out; simp [lenV]; omega
          · by_cases h5 : nk = 5
            · subst h5
              have HKids : Hid (kids (nodeAt ns (a : Int)) = [na]) := by
                show _ = _
                rw [HK.out]
                simp [kids]
              go_wp2_with fail
              refine (parts_root nf na nb _).mono ?_
              rintro e w6 ⟨rfl, ho6⟩
              have HS7 := Lib.hid ((HS5.out.nil ho6).nil ((Only.refl [] w6).alloc (.cells #[.int .i64 na, .int .i64 0] 122)))
              have c0 := (Blk.new w6 122 [.int .i64 na, .int .i64 0]).cell 0
              simp only [List.getElem?_cons_zero] at c0
              clear HS5 ho6
              go_wp2_with fail
              refine wp_loop_rounds 2 ?_
              rw [rounds_succ]
              go_wp2_with fail
              refine (visit_srch HOk.out HNs.out HS7.out (Reach.kid (a : Int) na HRx.out (by rw [HKids.out]; simp))).mono ?_
              rintro e w8 ⟨rfl, hK8, hS8⟩
              have HS8 := Lib.hid hS8
              clear hS8 HS7 c0 hK8
              go_wp2_with fail
              rw [rounds_succ]
              go_wp2_with fail
              go_roundw
              case rel => exact ⟨F ++ [(a : Int)], HS8.out.weak (fun y hy => by
                rcases need_next hy with h | h
                · first | exact h | exact .inl h | exact .inl (.inl h)
                · (rw [HKids.out] at h; exact .inr (by simpa using h)))⟩
              case measure => have := HLen.out; simp [lenV]; omega
            · have HKids : Hid (kids (nodeAt ns (a : Int)) = [na, nb]) := by
                show _ = _
                rw [HK.out]
                simp [kids, h0, h5]
              have g0 : (nk == 0) = false := by simpa using h0
              have g5 : (nk == 5) = false := by simpa using h5
              clear h0 h5
              go_wp2_with fail
              refine (parts_two nk nf na nb _ g0 g5).mono ?_
              rintro e w6 ⟨rfl, ho6⟩
              have HS7 := Lib.hid ((HS5.out.nil ho6).nil ((Only.refl [] w6).alloc (.cells #[.int .i64 na, .int .i64 nb] 122)))
              have HB6 := Lib.hid (Blk.new w6 122 [.int .i64 na, .int .i64 nb])
              have c0 := HB6.out.cell 0
              simp only [List.getElem?_cons_zero] at c0
              clear HS5 ho6
              go_wp2_with fail
              refine wp_loop_rounds 3 ?_
              rw [rounds_succ]
              go_wp2_with fail
              refine (visit_srch HOk.out HNs.out HS7.out (Reach.kid (a : Int) na HRx.out (by rw [HKids.out]; simp))).mono ?_
              rintro e w8 ⟨rfl, hK8, hS8⟩
              have HS8 := Lib.hid hS8
              have HB8 := Lib.hid (hK8 _ _ HB6.out)
              have c1 := HB8.out.cell 1
              simp only [List.getElem?_cons_succ, List.getElem?_cons_zero] at c1
              clear hS8 HS7 c0 hK8 HB6
              go_wp2_with fail
              rw [rounds_succ]
              go_wp2_with fail
              refine (visit_srch HOk.out HNs.out HS8.out (Reach.kid (a : Int) nb HRx.out (by rw [HKids.out]; simp))).mono ?_
              rintro e w9 ⟨rfl, hK9, hS9⟩
              have HS9 := Lib.hid hS9
              clear hS9 HS8 c1 hK9 HB8
              go_wp2_with fail
              rw [rounds_succ]
              go_wp2_with fail
              go_roundw
              case rel => exact ⟨F ++ [(a : Int)], HS9.out.weak (fun y hy => by
                rcases need_next hy with h | h
                · first | exact h | exact .inl h | exact .inl (.inl h)
                · (rw [HKids.out] at h; simp at h; rcases h with h | h; exact .inl (.inr h); exact .inr h))⟩
              case measure => have := HLen.out; simp [lenV]; omega
end Go.Proofs.YtigpnopeacicpaaDoor
