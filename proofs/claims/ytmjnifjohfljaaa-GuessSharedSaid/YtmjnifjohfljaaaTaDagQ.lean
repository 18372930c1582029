/-
  Put: what it does to a dag.
-/
import Derived.Test.YtmjnifjohfljaaaTaDagP
namespace Go.Proofs.Ytmjnifjohfljaaa
open Go.RowKit

def putId (r : Option Nat) (ns : List Nd) (n : Nd) : Int :=
  if takesB ns.length n.k n.f n.a n.b = true then (if r ≠ none ∧ n ∈ ns then (ns.idxOf n : Int) else (ns.length : Int)) else -1
def putNs (r : Option Nat) (ns : List Nd) (n : Nd) : List Nd :=
  if takesB ns.length n.k n.f n.a n.b = true then (if r ≠ none ∧ n ∈ ns then ns else ns ++ [n]) else ns

def PutPost (d : Nat) (v : Value) (r : Option Nat) (ns : List Nd) (n : Nd) (w : World) (e : Ending) (w' : World) : Prop :=
  ∃ ev v', e = .returned (.tuple #[.int .i64 (putId r ns n), ev]) ∧ DagIs w' d v' r (putNs r ns n) ∧ (v'.ownBlock = v.ownBlock ∨ ∃ g, w.heap.size ≤ g ∧ v'.ownBlock = some g) ∧
    Only (foot d v r) w w' ∧ (if takesB ns.length n.k n.f n.a n.b = true then ev = .nilIface else IsAt w w' (ns.length : Int) (.iface 83 (.int .i64 1)) ev)

theorem IsAt.old {w0 w w' : World} {i : Int} {err v : Value} (h : IsAt w w' i err v) (hs : w0.heap.size ≤ w.heap.size) : IsAt w0 w' i err v := by
  obtain ⟨g, h1, h2, h3⟩ := h
  exact ⟨g, by omega, h2, h3⟩
theorem IsAt.drewN {w w' : World} {i : Int} {err v : Value} (h : IsAt w w' i err v) (n : Nat) : IsAt w (w'.drewN n) i err v := h
theorem IsAt.drew {w w' : World} {i : Int} {err v : Value} (h : IsAt w w' i err v) : IsAt w w'.drew i err v := h

theorem DagIs.shape {w : World} {d : Nat} {v : Value} {r : Option Nat} {ns : List Nd} (h : DagIs w d v r ns) : ∃ A c, v = .slice A ns.length c := by
  rcases h.row.2 with ⟨rfl, h0⟩ | ⟨g, cap, cur, rfl, _⟩
  · exact ⟨none, 0, by rw [h0]⟩
  · exact ⟨_, _, rfl⟩

set_option maxHeartbeats 800000 in
theorem put_bad (d : Nat) (v : Value) (r : Option Nat) (ns : List Nd) (k : Int) (f : Nat) (a b : Int) (w : World) (hf : Hid (f < 2 ^ 64)) (hd : DagIs w d v r ns)
    (ht : takesB ns.length k f a b = false) :
    Calls Try.prog 21 #[.pointer (some ⟨d, 0, none⟩), .agg #[.int .i64 k, .float .f64 f, .int .i64 a, .int .i64 b]] w (PutPost d v r ns ⟨k, f, a, b⟩ w) := by
  obtain ⟨A, c, rfl⟩ := hd.shape
  have h0 : w.cell? ⟨d, 0, none⟩ = some (.slice A ns.length c) := hd.blk.cell 0
  have hB := Blk.new w 26 [.int .i64 k, .float .f64 f, .int .i64 a, .int .i64 b]
  have ho0 := (Only.refl [] w).alloc (.cells #[.int .i64 k, .float .f64 f, .int .i64 a, .int .i64 b] 26)
  have h0' := ho0.cell h0 (by simp)
  go_enter Try.func21, Try.ntmps21
  go_wp2_with fail
  refine (takes_any d A ns.length c k f a b _ hf h0').mono ?_
  rintro e w1 ⟨rfl, ho⟩
  have c0 := ho.cell h0' (by simp)
  have ho1 : Hid (Only [] w w1) := ho0.nil_trans ho
  clear ho h0' hB ho0
  go_wp2_with fail
  go_region_held3 (fun w' => w'.cell? ⟨d, 0, none⟩ = some (.slice A ns.length c)) (go_keep)
    (first | (go_at_call 36; refine (malformed_any _).mono ?_; rintro e w' ⟨rfl, rfl⟩) | (go_at_call 35; refine (node_any _ _ _ _).mono ?_; rintro e w2 ⟨ev, rfl, hat, ho2⟩; have c2 := ho2.cell (p := ⟨d, 0, none⟩) c0 (by simp)))
  go_wp2_with fail
  go_ret2
  have hT : Only [] w w2 := ho1.out.nil_trans ((Only.refl [] w1).drew.nil_trans ho2)
  have e1 : putId r ns ⟨k, f, a, b⟩ = -1 := by simp [putId, ht]
  have e2 : putNs r ns ⟨k, f, a, b⟩ = ns := by simp [putNs, ht]
  refine ⟨ev, .slice A ns.length c, by rw [e1]; rfl, by rw [e2]; exact hd.only hT (by simp), .inl rfl, hT.mono (by simp), ?_⟩
  rw [if_neg (by simp [ht])]
  exact hat.old ho1.out.size

set_option maxHeartbeats 800000 in
/-- Put of a node that is there already, where equal ones are shared. -/
theorem put_found (d : Nat) (v : Value) (m : Nat) (ns : List Nd) (k : Int) (f : Nat) (a b : Int) (w : World) (hf : Hid (f < 2 ^ 64)) (hd : DagIs w d v (some m) ns)
    (ht : takesB ns.length k f a b = true) (hn : (⟨k, f, a, b⟩ : Nd) ∈ ns) :
    Calls Try.prog 21 #[.pointer (some ⟨d, 0, none⟩), .agg #[.int .i64 k, .float .f64 f, .int .i64 a, .int .i64 b]] w (PutPost d v (some m) ns ⟨k, f, a, b⟩ w) := by
  obtain ⟨A, c, rfl⟩ := hd.shape
  obtain ⟨es, clock, hm', hkeys'⟩ := hd.map m rfl
  have hm := Lib.hid hm'
  have hkeys := Lib.hid hkeys'
  have hin := Lib.hid hn
  clear hm' hkeys' hn
  have h0 : w.cell? ⟨d, 0, none⟩ = some (.slice A ns.length c) := hd.blk.cell 0
  have hB := Blk.new w 26 [.int .i64 k, .float .f64 f, .int .i64 a, .int .i64 b]
  have ho0 := (Only.refl [] w).alloc (.cells #[.int .i64 k, .float .f64 f, .int .i64 a, .int .i64 b] 26)
  have h0' := ho0.cell h0 (by simp)
  go_enter Try.func21, Try.ntmps21
  go_wp2_with fail
  refine (takes_any d A ns.length c k f a b _ hf h0').mono ?_
  rintro e w1 ⟨rfl, ho⟩
  obtain ⟨k0, k1, k2, k3⟩ := box_cells hB ho (by simp)
  have ho1 : Hid (Only [] w w1) := ho0.nil_trans ho
  have c1 : w1.cell? ⟨d, 1, none⟩ = some (.map (some m)) := ho1.out.cell (hd.blk.cell 1) (by simp)
  clear ho h0' hB ho0 h0
  go_wp2_with fail
  go_region_held3 (fun w' => w'.cell? ⟨d, 1, none⟩ = some (.map (some m)) ∧ w'.cell? ⟨w.heap.size, 0, none⟩ = some (.int .i64 k) ∧ w'.cell? ⟨w.heap.size, 1, none⟩ = some (.float .f64 f) ∧ w'.cell? ⟨w.heap.size, 2, none⟩ = some (.int .i64 a) ∧ w'.cell? ⟨w.heap.size, 3, none⟩ = some (.int .i64 b)) (go_keep)
    (first | (go_at_call 38; refine (keyOf_any _ _ _ _ _).mono ?_; rintro e w2 ⟨rfl, ho2⟩; have c2 := ho2.cell (p := ⟨d, 1, none⟩) c1 (by simp); have q0 := ho2.cell k0 (by simp); have q1 := ho2.cell k1 (by simp); have q2 := ho2.cell k2 (by simp); have q3 := ho2.cell k3 (by simp); have hlk := look_hit _ w2 m es clock ns (ho2.heap (ho1.out.heap hm.out (by simp)) (by simp)) hkeys.out hin.out))
  go_wp2_with fail
  go_ret2
  have hT : Only [] w w2 := ho1.out.nil_trans ((Only.refl [] w1).drew.nil_trans ho2)
  have e1 : putId (some m) ns ⟨k, f, a, b⟩ = (ns.idxOf (⟨k, f, a, b⟩ : Nd) : Int) := by simp [putId, ht, hin.out]
  have e2 : putNs (some m) ns ⟨k, f, a, b⟩ = ns := by simp [putNs, hin.out]
  refine ⟨.nilIface, .slice A ns.length c, by rw [e1]; rfl, by rw [e2]; exact hd.only hT (by simp), .inl rfl, hT.mono (by simp), ?_⟩
  rw [if_pos (by simp [ht])]
end Go.Proofs.Ytmjnifjohfljaaa
