/-
  Decimal digits, in parts of 19: the plain law (no program in sight).
-/
import Derived.Test.YtkibkmdgibemkaaDoorTbGVal
import Derived.Lib.ItoaNum
import Derived.Lib.Repeat
import Derived.Lib.ItoaLen
import Derived.Test.YtkibkmdgibemkaaDoorTbMem
import Derived.Test.YtkibkmdgibemkaaDoorTbShelf
import Derived.Lib.FrozenHead
import Derived.Lib.ItoaMem
import Derived.Test.YtkibkmdgibemkaaDoorTbGNatC
namespace Go.Proofs.YtkibkmdgibemkaaDoor
open Go.Lib

/-- The unit of a part. -/
def CH : Nat := 10000000000000000000
theorem CH_pos : 0 < CH := by decide
theorem CH_two : 2 ≤ CH := by decide
attribute [irreducible] CH

/-- The parts, the lowest one first. -/
def chunks (n : Nat) : List Nat := if _h : n = 0 then [] else n % CH :: chunks (n / CH)
termination_by n
decreasing_by exact Nat.div_lt_self (by omega) CH_two
theorem chunks_pos {n : Nat} (h : n ≠ 0) : chunks n = n % CH :: chunks (n / CH) := by rw [chunks, dif_neg h]
/-- How far the parts go. -/
structure Cut (n : Nat) (ps : List Nat) (q : Nat) : Prop where
  all : chunks n = ps ++ chunks q
  q_eq : q = n / CH ^ ps.length
  lt : ∀ x ∈ ps, x < CH
  nz : n ≠ 0
theorem Cut.step {n q : Nat} {ps : List Nat} (h : Cut n ps q) (hq : q ≠ 0) : Cut n (ps ++ [q % CH]) (q / CH) := by
  refine ⟨by rw [h.all, chunks_pos hq, List.append_assoc]; rfl, ?_, ?_, h.nz⟩
  · rw [h.q_eq, List.length_append, List.length_cons, List.length_nil, Nat.pow_add, Nat.pow_one, Nat.div_div_eq_div_mul]
  · intro x hx
    rcases List.mem_append.1 hx with h1 | h1
    · exact h.lt x h1
    · rw [List.mem_singleton.1 h1]
      exact Nat.mod_lt _ CH_pos
end Go.Proofs.YtkibkmdgibemkaaDoor
/-
  strings.Builder at this dump: copyCheck and WriteString (the shelf's proofs turned: at a door the panic's text in copyCheck is refused by the loader, so that the shelf's laying falls).
-/
namespace Go.Proofs.YtkibkmdgibemkaaDoor
open Go.RowKit

end Go.Proofs.YtkibkmdgibemkaaDoor
/-
  strconv.FormatUint at base 10, for every uint64.
-/
namespace Go.Proofs.YtkibkmdgibemkaaDoor
open Go.RowKit Go.Sort

/-- The table of the powers of ten stands. -/
def Tab (w : World) : Prop := Lib.TabIs Tryd.prog w "internal/strconv.uint64pow10" .u64 Lib.pow10Tab
theorem Tab.only {w w' : World} (h : Tab w) (ho : Only [] w w') : Tab w' := by
  unfold Tab Lib.TabIs World.var? at *
  cases hg : Tryd.prog.globalNamed "internal/strconv.uint64pow10" with
  | none => simp [hg] at h
  | some g =>
    simp only [hg, Option.bind_some] at h ⊢
    have hlt : g < w.heap.size := by
      rcases Nat.lt_or_ge g w.heap.size with h' | h'
      · exact h'
      · rw [Array.getElem?_eq_none h'] at h; simp at h
    rw [ho.block g hlt (by simp)]
    exact h
end Go.Proofs.YtkibkmdgibemkaaDoor
/-
  nat.Text: the decimal digits.
-/
namespace Go.Proofs.YtkibkmdgibemkaaDoor
open Go.RowKit

theorem owns_only {w w' : World} {S : List Nat} {base : Nat} {e : TypeId} {s n : Nat} {v : Value} {xs : List Value} (h : w.ownsRow base e s v n xs) (ho : Only S w w') (hn : ∀ g, v.ownBlock = some g → g ∉ S) : w'.ownsRow base e s v n xs := by
  rcases h with ⟨h0, h1 | ⟨g, cap, cur, rfl, hb, hg, h2⟩⟩
  · exact ⟨h0, .inl h1⟩
  · exact ⟨h0, .inr ⟨g, cap, cur, rfl, hb, ho.heap hg (hn g rfl), h2⟩⟩
/-- A result as a row. -/
theorem Res.row {w0 w : World} {u : Value} {n : Nat} (h : Res w0 w u n) (hn : n ≠ 0) : ∃ g c tl, u = .slice (some ⟨g, 0, none⟩) (limbsOf n).length c ∧ Blk w g 70 (limbV (limbsOf n) ++ tl) ∧ w0.heap.size ≤ g ∧ g < w.heap.size ∧ (limbsOf n).length ≤ c := by
  have h1 := h.at_
  rcases h1.2 with ⟨rfl, h0⟩ | ⟨g, cap, cur, rfl, _, hg, hc, _, _, ht⟩
  · exact absurd (limbsOf_len0.1 h0) hn
  · refine ⟨g, cap, cur.toList.drop (limbsOf n).length, rfl, ?_, h.fresh g rfl, lt_of_heap hg, hc⟩
    unfold Blk
    rw [hg]
    congr 2
    apply Array.ext'
    rw [Nat.mul_one] at ht
    rw [← ht]
    simp

theorem LRead.of_tl {w : World} {g : Nat} {t : TypeId} {xs : List Nat} {tl : List Value} (h : Blk w g t (limbV xs ++ tl)) : LRead w (some ⟨g, 0, none⟩) xs := fun k hk => ⟨g, 0, rfl, by
  rw [h.cell, Nat.zero_add, List.getElem?_append_left (by rw [limbV_len]; exact hk), limbV_get _ _ hk]⟩
end Go.Proofs.YtkibkmdgibemkaaDoor
