/-
  Joined texts.
-/
import Derived.Test.YtigpnopeacicpaaDoorTaMapI
import Derived.Test.YtigpnopeacicpaaDoorTaGLd
import Derived.Test.YtigpnopeacicpaaDoorTaWalkT
/-
  walk.Below: its closure 'visit'; what stands in memory.
-/
namespace Go.Proofs.YtigpnopeacicpaaDoor
open Go.RowKit

/-- The memory of a search: the map of those met, the stack, the list of those found. -/
structure BelowSt (w0 w : World) (vb m nn : Nat) (f : Int → Option Int) (sb : Nat) (sv : Value) (S : List Int) (fv : Value) (F : List Int) : Prop where
  vis : Blk w vb 110 [.map (some m)]
  map : MapI w m nn f
  stk : Blk w sb 22 [sv]
  s : IntsAt w sv S
  f : IntsAt w fv F
  ap : ∀ g, sv.ownBlock = some g → fv.ownBlock ≠ some g
  fv_ : w0.heap.size ≤ vb
  fm : w0.heap.size ≤ m
  fs : w0.heap.size ≤ sb
  fsv : ∀ g, sv.ownBlock = some g → w0.heap.size ≤ g
  ffv : ∀ g, fv.ownBlock = some g → w0.heap.size ≤ g
  only : Only [] w0 w

theorem MapI.obj {w : World} {b n : Nat} {f : Int → Option Int} (h : MapI w b n f) : ∃ es clock, w.heap[b]? = some (.map es clock) := by
  obtain ⟨D, ⟨es, clock, h1, _⟩, _⟩ := h
  exact ⟨es, clock, h1⟩
theorem IntsAt.typ {w : World} {u : Value} {xs : List Int} (h : IntsAt w u xs) {g : Nat} (hg : u.ownBlock = some g) : ∃ cs fr, w.heap[g]? = some (.cells cs 3 fr) := by
  rcases h.2 with ⟨rfl, _⟩ | ⟨g', cap, cur, rfl, _, h1, _⟩
  · simp [Value.ownBlock] at hg
  · have e : g' = g := by simpa [Value.ownBlock] using hg
    subst e
    exact ⟨_, _, h1⟩
theorem heap_ne {w : World} {g g' : Nat} {o o' : Obj} (h : w.heap[g]? = some o) (h' : w.heap[g']? = some o') (hne : o ≠ o') : g ≠ g' := by
  rintro rfl
  rw [h] at h'
  exact hne (Option.some.inj h')

section
variable {w0 w w' : World} {vb m nn : Nat} {f : Int → Option Int} {sb : Nat} {sv : Value} {S : List Int} {fv : Value} {F : List Int}
theorem BelowSt.nil (h : BelowSt w0 w vb m nn f sb sv S fv F) (ho : Only [] w w') : BelowSt w0 w' vb m nn f sb sv S fv F :=
  ⟨h.vis.only ho (by simp), h.map.only ho (by simp), h.stk.only ho (by simp), h.s.only ho (by simp), h.f.only ho (by simp), h.ap, h.fv_, h.fm, h.fs, h.fsv, h.ffv, h.only.nil_trans ho⟩
theorem BelowSt.ne_mv (h : BelowSt w0 w vb m nn f sb sv S fv F) : vb ≠ m ∧ sb ≠ m ∧ (∀ g, sv.ownBlock = some g → g ≠ m) ∧ (∀ g, fv.ownBlock = some g → g ≠ m) := by
  obtain ⟨es, clock, hm⟩ := h.map.obj
  refine ⟨heap_ne h.vis hm (by simp), heap_ne h.stk hm (by simp), fun g hg => ?_, fun g hg => ?_⟩
  · obtain ⟨cs, fr, hc⟩ := h.s.typ hg
    exact heap_ne hc hm (by simp)
  · obtain ⟨cs, fr, hc⟩ := h.f.typ hg
    exact heap_ne hc hm (by simp)
theorem BelowSt.ne_s (h : BelowSt w0 w vb m nn f sb sv S fv F) : vb ≠ sb ∧ (∀ g, sv.ownBlock = some g → g ≠ vb ∧ g ≠ sb) ∧ (∀ g, fv.ownBlock = some g → g ≠ vb ∧ g ≠ sb) := by
  refine ⟨heap_ne h.vis h.stk (by intro e; injection e with _ e2; exact absurd e2 (by decide)), fun g hg => ?_, fun g hg => ?_⟩
  · obtain ⟨cs, fr, hc⟩ := h.s.typ hg
    exact ⟨heap_ne hc h.vis (by intro e; injection e with _ e2; exact absurd e2 (by decide)), heap_ne hc h.stk (by intro e; injection e with _ e2; exact absurd e2 (by decide))⟩
  · obtain ⟨cs, fr, hc⟩ := h.f.typ hg
    exact ⟨heap_ne hc h.vis (by intro e; injection e with _ e2; exact absurd e2 (by decide)), heap_ne hc h.stk (by intro e; injection e with _ e2; exact absurd e2 (by decide))⟩
/-- The map has been written. -/
theorem BelowSt.mark (h : BelowSt w0 w vb m nn f sb sv S fv F) {n' : Nat} {f' : Int → Option Int} (hm : MapI w' m n' f') (ho : Only [m] w w') : BelowSt w0 w' vb m n' f' sb sv S fv F := by
  obtain ⟨e1, e2, e3, e4⟩ := h.ne_mv
  exact ⟨h.vis.only ho (by simpa using e1), hm, h.stk.only ho (by simpa using e2), h.s.only ho (fun g hg => by simpa using e3 g hg), h.f.only ho (fun g hg => by simpa using e4 g hg), h.ap, h.fv_, h.fm, h.fs, h.fsv, h.ffv,
    h.only.trans ho (fun k hk => .inr (by have e : k = m := by simpa using hk
                                          have := h.fm
                                          omega))⟩
/-- The stack's variable has been written. -/
theorem BelowSt.stack (h : BelowSt w0 w vb m nn f sb sv S fv F) {sv' : Value} {S' : List Int} (hs : IntsAt w sv' S') (hap : ∀ g, sv'.ownBlock = some g → fv.ownBlock ≠ some g) (hf : ∀ g, sv'.ownBlock = some g → w0.heap.size ≤ g) :
    BelowSt w0 (w.setCell ⟨sb, 0, none⟩ sv') vb m nn f sb sv' S' fv F := by
  have ho : Only [sb] w (w.setCell ⟨sb, 0, none⟩ sv') := (Only.refl _ _).setCell (.inl (by simp)) _
  obtain ⟨e1, e2, e3, e4⟩ := h.ne_mv
  obtain ⟨d1, d2, d3⟩ := h.ne_s
  have hsn : ∀ g, sv'.ownBlock = some g → g ≠ sb := by
    intro g hg
    obtain ⟨cs, fr, hc⟩ := hs.typ hg
    exact heap_ne hc h.stk (by intro e; injection e with _ e2; exact absurd e2 (by decide))
  refine ⟨h.vis.only ho (by simpa using d1), h.map.only ho (by simpa using e2.symm), h.stk.set_ 0 _, hs.only ho (fun g hg => by simpa using hsn g hg), h.f.only ho (fun g hg => by simpa using (d3 g hg).2), hap, h.fv_, h.fm, h.fs, hf, h.ffv, ?_⟩
  refine h.only.trans ho (fun k hk => .inr ?_)
  have e : k = sb := by simpa using hk
  have := h.fs
  omega
/-- A row of ints of another's has grown; what follows of an append to the stack's row. -/
theorem BelowSt.grow_s (h : BelowSt w0 w vb m nn f sb sv S fv F) {g cap : Nat} {x : Int} (hown : w'.ownsRow 0 3 1 (.slice (some ⟨g, 0, none⟩) (S.length + 1) cap) (S.length + 1) (ints S ++ [.int .i64 x]))
    (hgr : (w.alloc (.cells #[.int .i64 x] 3)).grownBy w' sv.ownBlock) (hat : sv.ownBlock = some g ∨ g = w.heap.size + 1) :
    Blk w' sb 22 [sv] ∧ BelowSt w0 (w'.setCell ⟨sb, 0, none⟩ (.slice (some ⟨g, 0, none⟩) (S.length + 1) cap)) vb m nn f sb (.slice (some ⟨g, 0, none⟩) (S.length + 1) cap) (S ++ [x]) fv F := by
  have ho : Only sv.ownBlock.toList w w' := ((Only.refl _ w).alloc _).trans (Only.of_grown (S := sv.ownBlock.toList) hgr (by simp)) (fun k hk => .inl hk)
  obtain ⟨e1, e2, e3, e4⟩ := h.ne_mv
  obtain ⟨d1, d2, d3⟩ := h.ne_s
  have hs' : IntsAt w' (.slice (some ⟨g, 0, none⟩) (S.length + 1) cap) (S ++ [x]) := by
    unfold IntsAt
    simpa [ints] using hown
  have hstk : Blk w' sb 22 [sv] := h.stk.only ho (fun hm => (d2 sb (by simpa using hm)).2 rfl)
  have hmid : ∀ k, (∀ q, sv.ownBlock = some q → q ≠ k) → k ∉ sv.ownBlock.toList := fun k hk hm => hk k (by simpa using hm) rfl
  refine ⟨hstk, ?_⟩
  have h1 : Blk w' vb 110 [.map (some m)] := h.vis.only ho (hmid vb (fun q hq => (d2 q hq).1))
  have h2 : MapI w' m nn f := h.map.only ho (hmid m (fun q hq => e3 q hq))
  have h3 : IntsAt w' fv F := h.f.only ho (fun q hq hm => h.ap q (by simpa using hm) hq)
  have hgf : w0.heap.size ≤ g := by
    rcases hat with e | e
    · exact h.fsv g e
    · have := h.only.size
      omega
  have hgap : ∀ q, (Value.slice (some ⟨g, 0, none⟩) (S.length + 1) cap).ownBlock = some q → fv.ownBlock ≠ some q := by
    intro q hq hq2
    have e : g = q := by simpa [Value.ownBlock] using hq
    subst e
    rcases hat with e | e
    · exact h.ap g e hq2
    · have := h.f.lt g hq2
      omega
  have hsn : g ≠ sb := by
    obtain ⟨cs, fr, hc⟩ := hs'.typ (g := g) rfl
    exact heap_ne hc hstk (by intro e; injection e with _ e2; exact absurd e2 (by decide))
  have hO : Only [] w0 w' := h.only.trans ho (fun k hk => .inr (h.fsv k (by simpa using hk)))
  have ho2 : Only [sb] w' (w'.setCell ⟨sb, 0, none⟩ (.slice (some ⟨g, 0, none⟩) (S.length + 1) cap)) := (Only.refl _ _).setCell (.inl (by simp)) _
  exact ⟨h1.only ho2 (by simpa using d1), h2.only ho2 (by simpa using e2.symm), hstk.set_ 0 _, hs'.only ho2 (fun q hq => by
    have e : g = q := by simpa [Value.ownBlock] using hq
    subst e
    simpa using hsn), h3.only ho2 (fun q hq => by simpa using (d3 q hq).2), hgap, h.fv_, h.fm, h.fs, fun q hq => by
    have e : g = q := by simpa [Value.ownBlock] using hq
    omega, h.ffv, hO.trans ho2 (fun k hk => .inr (by
      have e : k = sb := by simpa using hk
      have := h.fs
      omega))⟩
end
end Go.Proofs.YtigpnopeacicpaaDoor

/-
  walk.Below: 'visit', the walk.
-/
namespace Go.Proofs.YtigpnopeacicpaaDoor
open Go.RowKit

/-- What has been met: those of the map. -/
def Met (f : Int → Option Int) (x : Int) : Prop := f x = some 1
def Plain01 (f : Int → Option Int) : Prop := ∀ x, f x = none ∨ f x = some 1
def metF (f : Int → Option Int) (id : Int) : Int → Option Int := fun x => if x = id then some 1 else f x
theorem metF_plain {f : Int → Option Int} (h : Plain01 f) (id : Int) : Plain01 (metF f id) := fun x => by
  unfold metF
  by_cases e : x = id
  · exact .inr (by rw [if_pos e])
  · rw [if_neg e]
    exact h x
theorem met_metF {f : Int → Option Int} (id : Int) (y : Int) : Met (metF f id) y ↔ Met f y ∨ y = id := by
  unfold Met metF
  by_cases e : y = id
  · simp [e]
  · simp [e]

/-- Arrays of two ints are as they were. -/
def Keep2 (w w' : World) : Prop := ∀ q cs, Blk w q 122 cs → Blk w' q 122 cs
theorem BelowSt.keep_map {w0 w w' : World} {vb m nn : Nat} {f : Int → Option Int} {sb : Nat} {sv : Value} {S : List Int} {fv : Value} {F : List Int} (h : BelowSt w0 w vb m nn f sb sv S fv F) (ho : Only [m] w w') : Keep2 w w' := by
  intro q cs hq
  obtain ⟨es, clock, hm⟩ := h.map.obj
  exact hq.only ho (by simpa using heap_ne hq hm (by simp))
theorem BelowSt.keep_s {w0 w w' : World} {vb m nn : Nat} {f : Int → Option Int} {sb : Nat} {sv : Value} {S : List Int} {fv : Value} {F : List Int} (h : BelowSt w0 w vb m nn f sb sv S fv F) {x : Int} {u : Value}
    (hgr : (w.alloc (.cells #[.int .i64 x] 3)).grownBy w' sv.ownBlock) : Keep2 w (w'.setCell ⟨sb, 0, none⟩ u) := by
  intro q cs hq
  have ho : Only sv.ownBlock.toList w w' := ((Only.refl _ w).alloc _).trans (Only.of_grown (S := sv.ownBlock.toList) hgr (by simp)) (fun k hk => .inl hk)
  have h1 : Blk w' q 122 cs := hq.only ho (fun hm => by
    obtain ⟨cs', fr, hc⟩ := h.s.typ (g := q) (by simpa using hm)
    exact heap_ne hq hc (by intro e; injection e with _ e2; exact absurd e2 (by decide)) rfl)
  have hne : q ≠ sb := heap_ne hq h.stk (by intro e; injection e with _ e2; exact absurd e2 (by decide))
  exact h1.far hne u
/-- What visit leaves: the same, or the id on the stack. -/
def VPost (w0 w : World) (vb m nn : Nat) (f : Int → Option Int) (sb : Nat) (sv : Value) (S : List Int) (fv : Value) (F : List Int) (id : Int) (e : Ending) (w' : World) : Prop :=
  e = .returned (.tuple #[]) ∧ Keep2 w w' ∧ ((Met f id ∧ BelowSt w0 w' vb m nn f sb sv S fv F) ∨ (¬ Met f id ∧ ∃ sv', BelowSt w0 w' vb m (nn + 1) (metF f id) sb sv' (S ++ [id]) fv F))

set_option maxHeartbeats 800000 in
set_option maxRecDepth 100000 in
theorem visit_any (w0 w : World) (vb m nn : Nat) (f : Int → Option Int) (sb : Nat) (sv : Value) (S : List Int) (fv : Value) (F : List Int) (id : Int) (h : BelowSt w0 w vb m nn f sb sv S fv F) (hf : Plain01 f) (hid : Small id) (hnn : nn < 100000) (hS : Hid (S.length ≤ 100000)) :
    Calls Tryd.prog 74 #[.int .i64 id, .pointer (some ⟨vb, 0, none⟩), .pointer (some ⟨sb, 0, none⟩)] w (VPost w0 w vb m nn f sb sv S fv F id) := by
  obtain ⟨i0, hi, hz0, hz1, hz2⟩ := int_parts
  have cv : w.cell? ⟨vb, 0, none⟩ = some (.map (some m)) := h.vis.cell 0
  have hl := h.map.look hid
  rcases hf id with e | e
  · have hn : ¬ Met f id := by unfold Met; rw [e]; simp
    rw [e] at hl
    obtain ⟨w1, hup, hm1, ho1⟩ := h.map.store (by omega) hid (v := 1) (by unfold Small; omega)
    have H1 := h.mark (f' := metF f id) hm1 ho1
    have HKm := Lib.hid (h.keep_map ho1)
    have HH := Lib.hid H1
    have Hn := Lib.hid hn
    obtain ⟨A, c, rfl, -⟩ := H1.s.shape
    have cs1 : w1.cell? ⟨sb, 0, none⟩ = some (.slice A S.length c) := H1.stk.cell 0
    have cs1' := ((Only.refl [] w1).alloc (.cells #[.int .i64 id] 3)).cell cs1 (by simp)
    clear h hm1 ho1 H1 e hn hf
    go_enter Tryd.func74, Tryd.ntmps74
    go_wp2_with (at_builtin; refine wpList_append_lies _ rfl _ _ _ rfl 0 3 i0 _ 1 8 Tryd.underlying22 hi hz0 hz1 hz2 rfl (by decide) (.slice A S.length c) S.length (ints S) rfl (by exact HH.out.s.alloc _) ⟨w1.heap.size, 0, none⟩ 1 1 [.int .i64 id] rfl rfl (by exact cell_one_new _ _ _) (by simp [Value.oneCell']) (by decide) (by have := hS.out; simp only [maxLen]; omega) (by have := hS.out; omega) (Nat.zero_le _) (w1.heap.size + 1) (by simp) ?_; intro g cap w2 hown2 hgr2 hat2 hlt2; have G := Lib.hid (HH.out.grow_s hown2 hgr2 hat2); have HKs := Lib.hid (HH.out.keep_s (u := .slice (some ⟨g, 0, none⟩) (S.length + 1) cap) hgr2); have a0 := G.out.1.cell 0; have f0 := G.out.1.frozen 0; simp only [List.getElem?_cons_zero] at a0)
    go_returns
    exact ⟨rfl, fun q cs hq => HKs.out q cs (HKm.out q cs hq), .inr ⟨Hn.out, _, G.out.2⟩⟩
  · rw [e] at hl
    have HH := Lib.hid h
    have Hn : Hid (Met f id) := e
    clear h hf e
    go_enter Tryd.func74, Tryd.ntmps74
    go_wp2_with fail
    go_returns
    exact ⟨rfl, fun _ _ hq => hq, .inl ⟨Hn.out, HH.out⟩⟩
end Go.Proofs.YtigpnopeacicpaaDoor

/-
  walk.Below: the search, step by step.
-/
namespace Go.Proofs.YtigpnopeacicpaaDoor
open Go.RowKit

theorem ints_prefix {w : World} {g n c : Nat} {S : List Int} {x : Int} (h : IntsAt w (.slice (some ⟨g, 0, none⟩) n c) (S ++ [x])) : IntsAt w (.slice (some ⟨g, 0, none⟩) S.length c) S := by
  rcases h.2 with ⟨h0, _⟩ | ⟨g', cap, cur, he, hb, hg, h1, h2, h3, h4⟩
  · cases h0
  · injection he with e1 e2 e3
    injection e1 with e1
    injection e1 with e1 _ _
    subst e1 e3
    refine ⟨by simp [ints], .inr ⟨g, c, cur, rfl, hb, hg, by simp at h1; omega, h2, h3, ?_⟩⟩
    have h5 : (cur.toList.take ((S ++ [x]).length * 1)).take (S.length * 1) = (ints (S ++ [x])).take (S.length * 1) := by rw [h4]
    rw [List.take_take, show min (S.length * 1) ((S ++ [x]).length * 1) = S.length * 1 by simp] at h5
    rw [h5]
    have e : ints (S ++ [x]) = ints S ++ [.int .i64 x] := by simp [ints]
    rw [e, List.take_append_of_le_length (by simp [ints]), List.take_of_length_le (by simp [ints])]

section
variable {w0 w w' : World} {vb m nn : Nat} {f : Int → Option Int} {sb : Nat} {sv : Value} {S : List Int} {fv : Value} {F : List Int}
theorem BelowSt.grow_f (h : BelowSt w0 w vb m nn f sb sv S fv F) {g cap : Nat} {x : Int} (hown : w'.ownsRow 0 3 1 (.slice (some ⟨g, 0, none⟩) (F.length + 1) cap) (F.length + 1) (ints F ++ [.int .i64 x]))
    (hgr : (w.alloc (.cells #[.int .i64 x] 3)).grownBy w' fv.ownBlock) (hat : fv.ownBlock = some g ∨ g = w.heap.size + 1) : BelowSt w0 w' vb m nn f sb sv S (.slice (some ⟨g, 0, none⟩) (F.length + 1) cap) (F ++ [x]) := by
  have ho : Only fv.ownBlock.toList w w' := ((Only.refl _ w).alloc _).trans (Only.of_grown (S := fv.ownBlock.toList) hgr (by simp)) (fun k hk => .inl hk)
  obtain ⟨e1, e2, e3, e4⟩ := h.ne_mv
  obtain ⟨d1, d2, d3⟩ := h.ne_s
  have hmid : ∀ k, (∀ q, fv.ownBlock = some q → q ≠ k) → k ∉ fv.ownBlock.toList := fun k hk hm => hk k (by simpa using hm) rfl
  have hf' : IntsAt w' (.slice (some ⟨g, 0, none⟩) (F.length + 1) cap) (F ++ [x]) := by
    unfold IntsAt
    simpa [ints] using hown
  refine ⟨h.vis.only ho (hmid vb (fun q hq => (d3 q hq).1)), h.map.only ho (hmid m (fun q hq => e4 q hq)), h.stk.only ho (hmid sb (fun q hq => (d3 q hq).2)), h.s.only ho (fun q hq hm => h.ap q hq (by simpa using hm)), hf', ?_, h.fv_, h.fm, h.fs, h.fsv, ?_, h.only.trans ho (fun k hk => .inr (h.ffv k (by simpa using hk)))⟩
  · intro q hq hq2
    have e : g = q := by simpa [Value.ownBlock] using hq2
    subst e
    rcases hat with e | e
    · exact h.ap g hq e
    · have := h.s.lt g hq
      omega
  · intro q hq
    have e : g = q := by simpa [Value.ownBlock] using hq
    subst e
    rcases hat with e | e
    · exact h.ffv g e
    · have := h.only.size
      omega
end

/-- A search under way: F has been found, all that 'need' names have been met. -/
def Srch (ns : List Nd) (R : Int → Prop) (w0 w : World) (vb m sb : Nat) (fv : Value) (F : List Int) (need : Int → Prop) : Prop :=
  ∃ nn f sv S, BelowSt w0 w vb m nn f sb sv S fv F ∧ Plain01 f ∧ Dfs ns R F S (Met f) ∧ nn = F.length + S.length ∧ ∀ y, need y → Met f y
theorem Srch.nil {ns : List Nd} {R : Int → Prop} {w0 w w' : World} {vb m sb : Nat} {fv : Value} {F : List Int} {need : Int → Prop} (h : Srch ns R w0 w vb m sb fv F need) (ho : Only [] w w') : Srch ns R w0 w' vb m sb fv F need := by
  obtain ⟨nn, f, sv, S, h1, h2⟩ := h
  exact ⟨nn, f, sv, S, h1.nil ho, h2⟩
theorem Srch.weak {ns : List Nd} {R : Int → Prop} {w0 w : World} {vb m sb : Nat} {fv : Value} {F : List Int} {need need' : Int → Prop} (h : Srch ns R w0 w vb m sb fv F need) (hn : ∀ y, need' y → need y) : Srch ns R w0 w vb m sb fv F need' := by
  obtain ⟨nn, f, sv, S, h1, h2, h3, h4, h5⟩ := h
  exact ⟨nn, f, sv, S, h1, h2, h3, h4, fun y hy => h5 y (hn y hy)⟩
theorem Srch.only {ns : List Nd} {R : Int → Prop} {w0 w : World} {vb m sb : Nat} {fv : Value} {F : List Int} {need : Int → Prop} (h : Srch ns R w0 w vb m sb fv F need) : Only [] w0 w := by
  obtain ⟨nn, f, sv, S, h1, _⟩ := h
  exact h1.only

theorem visit_srch {ns : List Nd} (ok : OkDag ns) (hns : ns.length ≤ 20000) {R : Int → Prop} {w0 w : World} {vb m sb : Nat} {fv : Value} {F : List Int} {need : Int → Prop} {id : Int} (h : Srch ns R w0 w vb m sb fv F need) (hid : Reach ns R id) :
    Calls Tryd.prog 74 #[.int .i64 id, .pointer (some ⟨vb, 0, none⟩), .pointer (some ⟨sb, 0, none⟩)] w fun e w' => e = .returned (.tuple #[]) ∧ Keep2 w w' ∧ Srch ns R w0 w' vb m sb fv F (fun y => need y ∨ y = id) := by
  obtain ⟨nn, f, sv, S, h1, h2, h3, h4, h5⟩ := h
  have hr := hid.range ok
  have hl := h3.len ok
  refine (visit_any w0 w vb m nn f sb sv S fv F id h1 h2 (by unfold Small; omega) (by omega) (by show _ ≤ _; omega)).mono ?_
  rintro e w' ⟨he, hK, ⟨hm, hb⟩ | ⟨hm, sv', hb⟩⟩
  · refine ⟨he, hK, nn, f, sv, S, hb, h2, h3, h4, fun y hy => ?_⟩
    rcases hy with hy | hy
    · exact h5 y hy
    · exact hy ▸ hm
  · refine ⟨he, hK, nn + 1, metF f id, sv', S ++ [id], hb, metF_plain h2 id, h3.visit hid hm (fun y => met_metF id y), by simp; omega, fun y hy => ?_⟩
    rw [met_metF]
    rcases hy with hy | hy
    · exact .inl (h5 y hy)
    · exact .inr hy
end Go.Proofs.YtigpnopeacicpaaDoor
