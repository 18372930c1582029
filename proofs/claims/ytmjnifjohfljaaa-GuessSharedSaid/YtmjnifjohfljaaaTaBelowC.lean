/-
  walk.Below: the search, step by step.
-/
import Derived.Test.YtmjnifjohfljaaaTaBelowB
namespace Go.Proofs.Ytmjnifjohfljaaa
open Go.RowKit

theorem ints_prefix {w : World} {g n c : Nat} {S : List Int} {x : Int} (h : IntsAt w (.slice (some ⟨g, 0, none⟩) n c) (S ++ [x])) : IntsAt w (.slice (some ⟨g, 0, none⟩) S.length c) S := by
  rcases h.2 with ⟨h0, _⟩ | ⟨g', cap, cur, he, hb, hg, h1, h2, h3, h4⟩
  · cases h0
  · injection he with e1 e2 e3
    injection e1 with e1
    injection e1 with e1 _ _
    subst e1 e3
    refine ⟨by simp [ints], .inr ⟨g, c, cur, rfl, hb, hg, by simp at h1; omega, h2, h3, ?_⟩⟩
    have h5 : (cur.toList.take ((S ++ [x]).length * 1)).take (S.length * 1) = (ints (S ++ [x])).take (S.length * 1) := by rw [h4]
    rw [List.take_take, show min (S.length * 1) ((S ++ [x]).length * 1) = S.length * 1 by simp] at h5
    rw [h5]
    have e : ints (S ++ [x]) = ints S ++ [.int .i64 x] := by simp [ints]
    rw [e, List.take_append_of_le_length (by simp [ints]), List.take_of_length_le (by simp [ints])]

section
variable {w0 w w' : World} {vb m nn : Nat} {f : Int → Option Int} {sb : Nat} {sv : Value} {S : List Int} {fv : Value} {F : List Int}
theorem BelowSt.grow_f (h : BelowSt w0 w vb m nn f sb sv S fv F) {g cap : Nat} {x : Int} (hown : w'.ownsRow 0 3 1 (.slice (some ⟨g, 0, none⟩) (F.length + 1) cap) (F.length + 1) (ints F ++ [.int .i64 x]))
    (hgr : (w.alloc (.cells #[.int .i64 x] 3)).grownBy w' fv.ownBlock) (hat : fv.ownBlock = some g ∨ g = w.heap.size + 1) : BelowSt w0 w' vb m nn f sb sv S (.slice (some ⟨g, 0, none⟩) (F.length + 1) cap) (F ++ [x]) := by
  have ho : Only fv.ownBlock.toList w w' := ((Only.refl _ w).alloc _).trans (Only.of_grown (S := fv.ownBlock.toList) hgr (by simp)) (fun k hk => .inl hk)
  obtain ⟨e1, e2, e3, e4⟩ := h.ne_mv
  obtain ⟨d1, d2, d3⟩ := h.ne_s
  have hmid : ∀ k, (∀ q, fv.ownBlock = some q → q ≠ k) → k ∉ fv.ownBlock.toList := fun k hk hm => hk k (by simpa using hm) rfl
  have hf' : IntsAt w' (.slice (some ⟨g, 0, none⟩) (F.length + 1) cap) (F ++ [x]) := by
    unfold IntsAt
    simpa [ints] using hown
  refine ⟨h.vis.only ho (hmid vb (fun q hq => (d3 q hq).1)), h.map.only ho (hmid m (fun q hq => e4 q hq)), h.stk.only ho (hmid sb (fun q hq => (d3 q hq).2)), h.s.only ho (fun q hq hm => h.ap q hq (by simpa using hm)), hf', ?_, h.fv_, h.fm, h.fs, h.fsv, ?_, h.only.trans ho (fun k hk => .inr (h.ffv k (by simpa using hk)))⟩
  · intro q hq hq2
    have e : g = q := by simpa [Value.ownBlock] using hq2
    subst e
    rcases hat with e | e
    · exact h.ap g hq e
    · have := h.s.lt g hq
      omega
  · intro q hq
    have e : g = q := by simpa [Value.ownBlock] using hq
    subst e
    rcases hat with e | e
    · exact h.ffv g e
    · have := h.only.size
      omega
end

/-- A search under way: F has been found, all that 'need' names have been met. -/
def Srch (ns : List Nd) (R : Int → Prop) (w0 w : World) (vb m sb : Nat) (fv : Value) (F : List Int) (need : Int → Prop) : Prop :=
  ∃ nn f sv S, BelowSt w0 w vb m nn f sb sv S fv F ∧ Plain01 f ∧ Dfs ns R F S (Met f) ∧ nn = F.length + S.length ∧ ∀ y, need y → Met f y
theorem Srch.nil {ns : List Nd} {R : Int → Prop} {w0 w w' : World} {vb m sb : Nat} {fv : Value} {F : List Int} {need : Int → Prop} (h : Srch ns R w0 w vb m sb fv F need) (ho : Only [] w w') : Srch ns R w0 w' vb m sb fv F need := by
  obtain ⟨nn, f, sv, S, h1, h2⟩ := h
  exact ⟨nn, f, sv, S, h1.nil ho, h2⟩
theorem Srch.weak {ns : List Nd} {R : Int → Prop} {w0 w : World} {vb m sb : Nat} {fv : Value} {F : List Int} {need need' : Int → Prop} (h : Srch ns R w0 w vb m sb fv F need) (hn : ∀ y, need' y → need y) : Srch ns R w0 w vb m sb fv F need' := by
  obtain ⟨nn, f, sv, S, h1, h2, h3, h4, h5⟩ := h
  exact ⟨nn, f, sv, S, h1, h2, h3, h4, fun y hy => h5 y (hn y hy)⟩
theorem Srch.only {ns : List Nd} {R : Int → Prop} {w0 w : World} {vb m sb : Nat} {fv : Value} {F : List Int} {need : Int → Prop} (h : Srch ns R w0 w vb m sb fv F need) : Only [] w0 w := by
  obtain ⟨nn, f, sv, S, h1, _⟩ := h
  exact h1.only

theorem visit_srch {ns : List Nd} (ok : OkDag ns) (hns : ns.length ≤ 20000) {R : Int → Prop} {w0 w : World} {vb m sb : Nat} {fv : Value} {F : List Int} {need : Int → Prop} {id : Int} (h : Srch ns R w0 w vb m sb fv F need) (hid : Reach ns R id) :
    Calls Try.prog 24 #[.int .i64 id, .pointer (some ⟨vb, 0, none⟩), .pointer (some ⟨sb, 0, none⟩)] w fun e w' => e = .returned (.tuple #[]) ∧ Keep2 w w' ∧ Srch ns R w0 w' vb m sb fv F (fun y => need y ∨ y = id) := by
  obtain ⟨nn, f, sv, S, h1, h2, h3, h4, h5⟩ := h
  have hr := hid.range ok
  have hl := h3.len ok
  refine (visit_any w0 w vb m nn f sb sv S fv F id h1 h2 (by unfold Small; omega) (by omega) (by show _ ≤ _; omega)).mono ?_
  rintro e w' ⟨he, hK, ⟨hm, hb⟩ | ⟨hm, sv', hb⟩⟩
  · refine ⟨he, hK, nn, f, sv, S, hb, h2, h3, h4, fun y hy => ?_⟩
    rcases hy with hy | hy
    · exact h5 y hy
    · exact hy ▸ hm
  · refine ⟨he, hK, nn + 1, metF f id, sv', S ++ [id], hb, metF_plain h2 id, h3.visit hid hm (fun y => met_metF id y), by simp; omega, fun y hy => ?_⟩
    rw [met_metF]
    rcases hy with hy | hy
    · exact .inl (h5 y hy)
    · exact .inr hy
end Go.Proofs.Ytmjnifjohfljaaa
