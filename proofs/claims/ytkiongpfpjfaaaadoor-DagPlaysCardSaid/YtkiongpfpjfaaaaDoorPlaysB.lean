/-
  DagPlays: what stands in memory between two rounds: the dag, the reference's list, the Book, each apart from the others.
-/
import Derived.Test.YtkiongpfpjfaaaaDoorBookC
import Derived.Test.YtkiongpfpjfaaaaDoorPlainC
import Derived.Test.YtkiongpfpjfaaaaDoorLoadD
namespace Go.Proofs.YtkiongpfpjfaaaaDoor
open Go.RowKit

structure Plays (w0 w : World) (d : Nat) (r : Option Nat) (dv : Value) (nd : List Nd) (p : Nat) (same : Bool) (pv : Value) (np : List Nd) (b : Nat) (un uw : Value) (us ws : List Value) (Ls : List (List Nd)) : Prop where
  dag : DagIs w d dv r nd
  pl : PlainIs w p pv same np
  bk : BookIs w b un uw us ws Ls
  dp : ∀ k ∈ foot d dv r, k ∉ foot p pv none
  db : ∀ k ∈ foot d dv r, k ∉ bfoot b un uw us ws
  pb : ∀ k ∈ foot p pv none, k ∉ bfoot b un uw us ws
  fd : ∀ k ∈ foot d dv r, w0.heap.size ≤ k
  fp : ∀ k ∈ foot p pv none, w0.heap.size ≤ k
  fb : ∀ k ∈ bfoot b un uw us ws, w0.heap.size ≤ k
  only : Only [] w0 w

section
variable {w0 w w' : World} {d : Nat} {r : Option Nat} {dv dv' : Value} {nd nd' : List Nd} {p : Nat} {same : Bool} {pv pv' : Value} {np np' : List Nd} {b : Nat} {un uw : Value} {us ws : List Value} {Ls : List (List Nd)}

theorem Plays.nil (h : Plays w0 w d r dv nd p same pv np b un uw us ws Ls) (ho : Only [] w w') : Plays w0 w' d r dv nd p same pv np b un uw us ws Ls :=
  ⟨h.dag.only ho (by simp), h.pl.only ho (by simp), h.bk.only ho (by simp), h.dp, h.db, h.pb, h.fd, h.fp, h.fb, h.only.nil_trans ho⟩
theorem Plays.dput (h : Plays w0 w d r dv nd p same pv np b un uw us ws Ls) (hs : Step d dv r w dv' w') (hd : DagIs w' d dv' r nd') : Plays w0 w' d r dv' nd' p same pv np b un uw us ws Ls :=
  ⟨hd, h.pl.only hs.2 (fun k hk hm => h.dp k hm hk), h.bk.only hs.2 (fun k hk hm => h.db k hm hk),
    fun k hk hm => by
      rcases hs.foot k hk with h1 | h1
      · exact h.dp k h1 hm
      · have := h.pl.lt k hm
        omega,
    fun k hk hm => by
      rcases hs.foot k hk with h1 | h1
      · exact h.db k h1 hm
      · have := h.bk.lt k hm
        omega, h.pb,
    fun k hk => by
      rcases hs.foot k hk with h1 | h1
      · exact h.fd k h1
      · exact Nat.le_trans h.only.size h1, h.fp, h.fb, h.only.trans hs.2 (fun k hk => .inr (h.fd k hk))⟩
theorem Plays.pput (h : Plays w0 w d r dv nd p same pv np b un uw us ws Ls) (hs : Step p pv none w pv' w') (hd : PlainIs w' p pv' same np') : Plays w0 w' d r dv nd p same pv' np' b un uw us ws Ls :=
  ⟨h.dag.only hs.2 (fun k hk hm => h.dp k hk hm), hd, h.bk.only hs.2 (fun k hk hm => h.pb k hm hk),
    fun k hk hm => by
      rcases hs.foot k hm with h1 | h1
      · exact h.dp k hk h1
      · have := h.dag.lt k hk
        omega, h.db,
    fun k hk hm => by
      rcases hs.foot k hk with h1 | h1
      · exact h.pb k h1 hm
      · have := h.bk.lt k hm
        omega, h.fd,
    fun k hk => by
      rcases hs.foot k hk with h1 | h1
      · exact h.fp k h1
      · exact Nat.le_trans h.only.size h1, h.fb, h.only.trans hs.2 (fun k hk => .inr (h.fp k hk))⟩
theorem Plays.book {u : Value} {L : List Nd} {e : Ending} (h : Plays w0 w d r dv nd p same pv np b un uw us ws Ls) (hu : ∀ g, u.ownBlock = some g → g ∉ foot d dv r ∧ g ∉ foot p pv none ∧ w0.heap.size ≤ g) (hb : BnPost b un uw us ws Ls u L w e w') :
    ∃ un' uw' x, e = .returned (.tuple #[]) ∧ Plays w0 w' d r dv nd p same pv np b un' uw' (us ++ [u]) (ws ++ [x]) (Ls ++ [L]) := by
  obtain ⟨un', uw', x, he, hbk, ho, hf⟩ := hb
  have hsub : ∀ k ∈ b :: (un.ownBlock.toList ++ uw.ownBlock.toList), k ∈ bfoot b un uw us ws := by
    intro k hk
    simp only [bfoot, List.mem_cons, List.mem_append] at hk ⊢
    rcases hk with h1 | h1 | h1
    · exact .inl h1
    · exact .inr (.inl h1)
    · exact .inr (.inr (.inl h1))
  refine ⟨un', uw', x, he, h.dag.only ho (fun k hk hm => h.db k hk (hsub k hm)), h.pl.only ho (fun k hk hm => h.pb k hk (hsub k hm)), hbk, h.dp, ?_, ?_, h.fd, h.fp, ?_, h.only.trans ho (fun k hk => .inr (h.fb k (hsub k hk)))⟩
  · intro k hk hm
    rcases hf k hm with h1 | h1 | h1
    · exact h.db k hk h1
    · have := h.dag.lt k hk
      omega
    · exact (hu k h1).1 hk
  · intro k hk hm
    rcases hf k hm with h1 | h1 | h1
    · exact h.pb k hk h1
    · have := h.pl.lt k hk
      omega
    · exact (hu k h1).2.1 hk
  · intro k hk
    rcases hf k hk with h1 | h1 | h1
    · exact h.fb k h1
    · exact Nat.le_trans h.only.size h1
    · exact (hu k h1).2.2
end
end Go.Proofs.YtkiongpfpjfaaaaDoor
