/-
  Decimal digits, in parts of 19: the plain law (no program in sight).
-/
import Derived.Test.YtigpnopeacicpaaDoorTaGVal
import Derived.Lib.ItoaNum
import Derived.Lib.Repeat
import Derived.Lib.ItoaLen
import Derived.Test.YtigpnopeacicpaaDoorTaMem
import Derived.Test.YtigpnopeacicpaaDoorTaShelf
import Derived.Lib.FrozenHead
import Derived.Lib.ItoaMem
import Derived.Test.YtigpnopeacicpaaDoorTaGNatC
namespace Go.Proofs.YtigpnopeacicpaaDoor
open Go.Lib

end Go.Proofs.YtigpnopeacicpaaDoor
/-
  strings.Builder at this dump: copyCheck and WriteString (the shelf's proofs turned: at a door the panic's text in copyCheck is refused by the loader, so that the shelf's laying falls).
-/
namespace Go.Proofs.YtigpnopeacicpaaDoor
open Go.RowKit

end Go.Proofs.YtigpnopeacicpaaDoor
/-
  strconv.FormatUint at base 10, for every uint64.
-/
namespace Go.Proofs.YtigpnopeacicpaaDoor
open Go.RowKit Go.Sort

/-- The table of the powers of ten stands. -/
def Tab (w : World) : Prop := Lib.TabIs Tryd.prog w "internal/strconv.uint64pow10" .u64 Lib.pow10Tab
theorem Tab.only {w w' : World} (h : Tab w) (ho : Only [] w w') : Tab w' := by
  unfold Tab Lib.TabIs World.var? at *
  cases hg : Tryd.prog.globalNamed "internal/strconv.uint64pow10" with
  | none => simp [hg] at h
  | some g =>
    simp only [hg, Option.bind_some] at h ⊢
    have hlt : g < w.heap.size := by
      rcases Nat.lt_or_ge g w.heap.size with h' | h'
      · exact h'
      · rw [Array.getElem?_eq_none h'] at h; simp at h
    rw [ho.block g hlt (by simp)]
    exact h
theorem Only.grow {w : World} (S : List Nat) (k : Nat) (os : Array Obj) : Only S w (grow (w.drewN k) os) :=
  ⟨rfl, rfl, rfl, by simp, fun j hj _ => heap_grow_old (w.drewN k) os hj⟩

end Go.Proofs.YtigpnopeacicpaaDoor
/-
  nat.Text: the decimal digits.
-/
namespace Go.Proofs.YtigpnopeacicpaaDoor
open Go.RowKit

theorem owns_only {w w' : World} {S : List Nat} {base : Nat} {e : TypeId} {s n : Nat} {v : Value} {xs : List Value} (h : w.ownsRow base e s v n xs) (ho : Only S w w') (hn : ∀ g, v.ownBlock = some g → g ∉ S) : w'.ownsRow base e s v n xs := by
  rcases h with ⟨h0, h1 | ⟨g, cap, cur, rfl, hb, hg, h2⟩⟩
  · exact ⟨h0, .inl h1⟩
  · exact ⟨h0, .inr ⟨g, cap, cur, rfl, hb, ho.heap hg (hn g rfl), h2⟩⟩
/-- A result as a row. -/
theorem Res.row {w0 w : World} {u : Value} {n : Nat} (h : Res w0 w u n) (hn : n ≠ 0) : ∃ g c tl, u = .slice (some ⟨g, 0, none⟩) (limbsOf n).length c ∧ Blk w g 90 (limbV (limbsOf n) ++ tl) ∧ w0.heap.size ≤ g ∧ g < w.heap.size ∧ (limbsOf n).length ≤ c := by
  have h1 := h.at_
  rcases h1.2 with ⟨rfl, h0⟩ | ⟨g, cap, cur, rfl, _, hg, hc, _, _, ht⟩
  · exact absurd (limbsOf_len0.1 h0) hn
  · refine ⟨g, cap, cur.toList.drop (limbsOf n).length, rfl, ?_, h.fresh g rfl, lt_of_heap hg, hc⟩
    unfold Blk
    rw [hg]
    congr 2
    apply Array.ext'
    rw [Nat.mul_one] at ht
    rw [← ht]
    simp

end Go.Proofs.YtigpnopeacicpaaDoor
