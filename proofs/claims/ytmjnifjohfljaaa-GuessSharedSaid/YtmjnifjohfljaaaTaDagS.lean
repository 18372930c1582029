/-
  Put in one contract; put, Leaf, Sub, Div, Root, Int, Len, All.
-/
import Derived.Test.YtmjnifjohfljaaaTaDagR
namespace Go.Proofs.Ytmjnifjohfljaaa
open Go.RowKit

theorem put_any (d : Nat) (v : Value) (r : Option Nat) (ns : List Nd) (k : Int) (f : Nat) (a b : Int) (w : World) (hf : Hid (f < 2 ^ 64)) (hd : DagIs w d v r ns) (hlen : ns.length < 20000) :
    Calls Try.prog 21 #[.pointer (some ⟨d, 0, none⟩), .agg #[.int .i64 k, .float .f64 f, .int .i64 a, .int .i64 b]] w (PutPost d v r ns ⟨k, f, a, b⟩ w) := by
  have hl : decide ((20000 : Int) ≤ (ns.length : Int)) = false := decide_eq_false (by omega)
  cases ht : takesB ns.length k f a b
  · exact put_bad d v r ns k f a b w hf hd ht
  · cases r with
    | none => exact put_new_none d v ns k f a b w hf hd hl ht
    | some m =>
      by_cases hn : (⟨k, f, a, b⟩ : Nd) ∈ ns
      · exact put_found d v m ns k f a b w hf hd ht hn
      · exact put_new_some d v m ns k f a b w hf hd hl ht hn

/-- From (v, w) to (v', w') a dag at block d has been added to. -/
def Step (d : Nat) (v : Value) (r : Option Nat) (w : World) (v' : Value) (w' : World) : Prop :=
  (v'.ownBlock = v.ownBlock ∨ ∃ g, w.heap.size ≤ g ∧ v'.ownBlock = some g) ∧ Only (foot d v r) w w'

theorem Step.trans {d : Nat} {v v1 v2 : Value} {r : Option Nat} {w w1 w2 : World} (h : Step d v r w v1 w1) (h' : Step d v1 r w1 v2 w2) : Step d v r w v2 w2 := by
  constructor
  · rcases h'.1 with e | ⟨g, hg, e⟩
    · rcases h.1 with e1 | ⟨g1, hg1, e1⟩
      · exact .inl (e.trans e1)
      · exact .inr ⟨g1, hg1, e.trans e1⟩
    · exact .inr ⟨g, Nat.le_trans h.2.size hg, e⟩
  · refine h.2.trans h'.2 (fun k hk => ?_)
    simp only [foot, List.mem_cons, List.mem_append, Option.mem_toList] at hk ⊢
    rcases hk with hk | hk | hk
    · exact .inl (.inl hk)
    · rcases h.1 with e1 | ⟨g1, hg1, e1⟩
      · exact .inl (.inr (.inl (by rw [← e1]; exact hk)))
      · right
        have : g1 = k := by simpa using e1.symm.trans hk
        omega
    · exact .inl (.inr (.inr hk))

theorem Step.only {d : Nat} {v v1 : Value} {r : Option Nat} {w w1 w2 : World} (h : Step d v r w v1 w1) (h' : Only [] w1 w2) : Step d v r w v1 w2 := ⟨h.1, h.2.nil_trans h'⟩

def PPost (d : Nat) (v : Value) (r : Option Nat) (ns : List Nd) (n : Nd) (w : World) (e : Ending) (w' : World) : Prop :=
  ∃ v', e = .returned (.int .i64 (putId r ns n)) ∧ DagIs w' d v' r (putNs r ns n) ∧ Step d v r w v' w'

/-- A list of nodes in memory of its own (or nil). -/
def NodesAt (w : World) (v : Value) (ns : List Nd) : Prop := w.ownsRow 0 26 4 v ns.length (flat ns)

end Go.Proofs.Ytmjnifjohfljaaa
