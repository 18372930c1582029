/-
  Add and Mul; a dag that the law itself has made ('Own'), two of them side by side ('Two'); alive.
-/
import Derived.Test.YtaifgjkbagcbeaaDagF
namespace Go.Proofs.Ytaifgjkbagcbeaa
open Go.RowKit

set_option maxHeartbeats 400000 in
theorem dadd_any (d : Nat) (v : Value) (r : Option Nat) (ns : List Nd) (lb lo c : Nat) (x : Int) (xs : List Int) (w : World) (hd : DagIs w d v r ns) (hlen : Hid (ns.length + xs.length < 20000))
    (hb : lb ∉ foot d v r) (hx : w.cell? ⟨lb, lo, none⟩ = some (.int .i64 x)) (hxs : Hid (∀ j, j < xs.length → w.cell? ⟨lb, lo + 1 + j, none⟩ = some (.int .i64 (xs[j]?.getD 0)))) (hc : xs.length + 1 ≤ c) (hcm : c ≤ maxLen) :
    Calls Try.prog 22 #[.pointer (some ⟨d, 0, none⟩), .slice (some ⟨lb, lo, none⟩) (xs.length + 1) c] w (FPost d v r (foldS r 1 ns (x :: xs)) w) := by
  have hcm' : c ≤ 9223372036854775807 := hcm
  have hne : ((xs.length : Int) + 1 == 0) = false := by simp; omega
  go_enter Try.func22, Try.ntmps22
  go_wp2_with fail
  (with_reducible refine (fold_any d v r ns 1 lb lo c x xs _ hd hlen hb hx hxs hc hcm).mono ?_)
  rintro e w1 ⟨v1, rfl, hd1, hst⟩
  have hst' := Lib.hid hst
  clear hst
  go_wp2_with fail
  go_ret
  exact ⟨v1, rfl, hd1, hst'.out⟩

/-- What a call leaves that hands back an id. -/
def QPost (d : Nat) (v : Value) (r : Option Nat) (id : Int) (ns' : List Nd) (w : World) (e : Ending) (w' : World) : Prop :=
  ∃ v', e = .returned (.int .i64 id) ∧ DagIs w' d v' r ns' ∧ Step d v r w v' w'
theorem PPost.q {d : Nat} {v : Value} {r : Option Nat} {ns : List Nd} {n : Nd} {id : Int} {ns' : List Nd} (h1 : putId r ns n = id) (h2 : putNs r ns n = ns') {w : World} : ∀ e w', PPost d v r ns n w e w' → QPost d v r id ns' w e w' :=
  fun _ _ ⟨v', he, hd, hs⟩ => ⟨v', by rw [he, h1], by rw [← h2]; exact hd, hs⟩
theorem FPost.q {d : Nat} {v : Value} {r : Option Nat} {p : List Nd × Int} {id : Int} {ns' : List Nd} (h : p = (ns', id)) {w : World} : ∀ e w', FPost d v r p w e w' → QPost d v r id ns' w e w' :=
  fun _ _ ⟨v', he, hd, hs⟩ => ⟨v', by rw [he, h], by rw [h] at hd; exact hd, hs⟩

/-- A dag of the law's own: all its blocks are new since w0. -/
structure Own (w0 w : World) (d : Nat) (v : Value) (r : Option Nat) (ns : List Nd) : Prop where
  is : DagIs w d v r ns
  fresh : ∀ k ∈ foot d v r, w0.heap.size ≤ k
  only : Only [] w0 w

theorem Step.foot {d : Nat} {v v' : Value} {r : Option Nat} {w w' : World} (h : Step d v r w v' w') : ∀ k ∈ foot d v' r, k ∈ foot d v r ∨ w.heap.size ≤ k := by
  intro k hk
  simp only [Proofs.Ytaifgjkbagcbeaa.foot, List.mem_cons, List.mem_append, Option.mem_toList] at hk ⊢
  rcases hk with hk | hk | hk
  · exact .inl (.inl hk)
  · rcases h.1 with e | ⟨g, hg, e⟩
    · exact .inl (.inr (.inl (by rw [← e]; exact hk)))
    · right
      have : g = k := by simpa using e.symm.trans hk
      omega
  · exact .inl (.inr (.inr hk))

theorem Own.step {w0 w w' : World} {d : Nat} {v v' : Value} {r : Option Nat} {ns ns' : List Nd} (h : Own w0 w d v r ns) (hs : Step d v r w v' w') (hd : DagIs w' d v' r ns') : Own w0 w' d v' r ns' :=
  ⟨hd, fun k hk => by
    rcases hs.foot k hk with h1 | h1
    · exact h.fresh k h1
    · exact Nat.le_trans h.only.size h1, h.only.trans hs.2 (fun k hk => .inr (h.fresh k hk))⟩
theorem Own.other {w0 w w' : World} {d : Nat} {v : Value} {r : Option Nat} {ns : List Nd} {S : List Nat} (h : Own w0 w d v r ns) (ho : Only S w w') (hS : ∀ k ∈ S, w0.heap.size ≤ k) (hn : ∀ k ∈ foot d v r, k ∉ S) : Own w0 w' d v r ns :=
  ⟨h.is.only ho hn, h.fresh, h.only.trans ho (fun k hk => .inr (hS k hk))⟩

/-- Two dags of the law's own that share no memory. -/
structure Two (w0 w : World) (d1 : Nat) (v1 : Value) (r1 : Option Nat) (ns1 : List Nd) (d2 : Nat) (v2 : Value) (r2 : Option Nat) (ns2 : List Nd) : Prop where
  a : Own w0 w d1 v1 r1 ns1
  b : Own w0 w d2 v2 r2 ns2
  apart : ∀ k ∈ foot d1 v1 r1, k ∉ foot d2 v2 r2

theorem Two.step1 {w0 w w' : World} {d1 : Nat} {v1 v1' : Value} {r1 : Option Nat} {ns1 ns1' : List Nd} {d2 : Nat} {v2 : Value} {r2 : Option Nat} {ns2 : List Nd} (h : Two w0 w d1 v1 r1 ns1 d2 v2 r2 ns2) (hs : Step d1 v1 r1 w v1' w')
    (hd : DagIs w' d1 v1' r1 ns1') : Two w0 w' d1 v1' r1 ns1' d2 v2 r2 ns2 :=
  ⟨h.a.step hs hd, h.b.other hs.2 h.a.fresh (fun k hk hm => h.apart k hm hk), fun k hk hm => by
    rcases hs.foot k hk with h1 | h1
    · exact h.apart k h1 hm
    · have := h.b.is.lt k hm
      omega⟩
theorem Two.swap {w0 w : World} {d1 : Nat} {v1 : Value} {r1 : Option Nat} {ns1 : List Nd} {d2 : Nat} {v2 : Value} {r2 : Option Nat} {ns2 : List Nd} (h : Two w0 w d1 v1 r1 ns1 d2 v2 r2 ns2) : Two w0 w d2 v2 r2 ns2 d1 v1 r1 ns1 :=
  ⟨h.b, h.a, fun k hk hm => h.apart k hm hk⟩
theorem Two.step2 {w0 w w' : World} {d1 : Nat} {v1 : Value} {r1 : Option Nat} {ns1 : List Nd} {d2 : Nat} {v2 v2' : Value} {r2 : Option Nat} {ns2 ns2' : List Nd} (h : Two w0 w d1 v1 r1 ns1 d2 v2 r2 ns2) (hs : Step d2 v2 r2 w v2' w')
    (hd : DagIs w' d2 v2' r2 ns2') : Two w0 w' d1 v1 r1 ns1 d2 v2' r2 ns2' := (h.swap.step1 hs hd).swap

theorem own_new {w w' : World} {r : Option Nat} (hd : DagIs w' w.heap.size (.slice none 0 0) r []) (hr : ∀ m, r = some m → w.heap.size ≤ m) (ho : Only [] w w') : Own w w' w.heap.size (.slice none 0 0) r [] :=
  ⟨hd, fun k hk => by
    simp only [Proofs.Ytaifgjkbagcbeaa.foot, List.mem_cons, List.mem_append, Option.mem_toList] at hk
    rcases hk with hk | hk | hk
    · omega
    · simp [Value.ownBlock] at hk
    · exact hr k hk, ho⟩

def one64 : Nat := 4607182418800017408
def ndOne : Nd := ⟨0, one64, 0, 0⟩
def ndAdd : Nd := ⟨1, 0, 0, 0⟩
theorem takes_one (n : Nat) : takesB n 0 one64 0 0 = true := by
  have h : finB one64 = true := by decide
  simp [takesB, validB, h]
theorem hid_one : Hid (4607182418800017408 < 2 ^ 64) := by show 4607182418800017408 < 2 ^ 64; omega

theorem hm_free : ∀ (m : Nat), (some m : Option Nat) ≠ none := by simp
theorem al1 (d m : Nat) (v : Value) (w : World) (hd : DagIs w d v (some m) []) : Calls Try.prog 21 #[.pointer (some ⟨d, 0, none⟩), .float .f64 4607182418800017408] w (QPost d v (some m) 0 [ndOne] w) :=
  (dleaf_any d v (some m) [] 4607182418800017408 w hid_one hd (by show List.length _ < 20000; simp)).mono (PPost.q (n := ndOne) (by simp [putId, ndOne, takes_one]) (by simp [putNs, ndOne, takes_one]))
theorem al2 (d m : Nat) (v : Value) (w : World) (hd : DagIs w d v (some m) [ndOne]) : Calls Try.prog 21 #[.pointer (some ⟨d, 0, none⟩), .float .f64 4607182418800017408] w (QPost d v (some m) 0 [ndOne] w) :=
  (dleaf_any d v (some m) [ndOne] 4607182418800017408 w hid_one hd (by show List.length _ < 20000; simp)).mono (PPost.q (n := ndOne) (by simp [putId, ndOne, takes_one]) (by simp [putNs, ndOne, takes_one]))
theorem al3 (d : Nat) (v : Value) (w : World) (hd : DagIs w d v none []) : Calls Try.prog 21 #[.pointer (some ⟨d, 0, none⟩), .float .f64 4607182418800017408] w (QPost d v none 0 [ndOne] w) :=
  (dleaf_any d v none [] 4607182418800017408 w hid_one hd (by show List.length _ < 20000; simp)).mono (PPost.q (n := ndOne) (by simp [putId, ndOne, takes_one]) (by simp [putNs, ndOne, takes_one]))
theorem al4 (d : Nat) (v : Value) (w : World) (hd : DagIs w d v none [ndOne]) : Calls Try.prog 21 #[.pointer (some ⟨d, 0, none⟩), .float .f64 4607182418800017408] w (QPost d v none 1 [ndOne, ndOne] w) :=
  (dleaf_any d v none [ndOne] 4607182418800017408 w hid_one hd (by show List.length _ < 20000; simp)).mono (PPost.q (n := ndOne) (by simp [putId, ndOne, takes_one]) (by simp [putNs, ndOne, takes_one]))
theorem al5 (d m : Nat) (v : Value) (lb : Nat) (w : World) (hd : DagIs w d v (some m) [ndOne]) (hb : lb ∉ foot d v (some m)) (h0 : w.cell? ⟨lb, 0, none⟩ = some (.int .i64 0)) (h1 : w.cell? ⟨lb, 1, none⟩ = some (.int .i64 0)) :
    Calls Try.prog 22 #[.pointer (some ⟨d, 0, none⟩), .slice (some ⟨lb, 0, none⟩) 2 2] w (QPost d v (some m) 1 [ndOne, ndAdd] w) := by
  refine (dadd_any d v (some m) [ndOne] lb 0 2 0 [0] w hd (by show _ < 20000; simp) hb h0 ?_ (by simp) (by decide)).mono (FPost.q ?_)
  · intro j hj
    have : j = 0 := by simpa using hj
    subst this
    simpa using h1
  · have t : takesB 1 1 0 0 0 = true := by decide
    have n1 : (⟨1, 0, 0, 0⟩ : Nd) ≠ ndOne := by decide
    have hh : hasB 1 0 = true := by decide
    simp [foldS, foldRun, putNs, putId, t, n1, hh, ndAdd]

end Go.Proofs.Ytaifgjkbagcbeaa
