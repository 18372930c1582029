/-
  Joined texts.
-/
import Derived.Test.YtigpnopeacicpaaGreatDoorTrJ8
import Derived.Test.YtigpnopeacicpaaGreatDoorTrJ0
import Derived.Deep.AppendLies
/-
  takes, New, Put: what each does to a dag.
-/
namespace Go.Proofs.YtigpnopeacicpaaGreatDoor
open Go.RowKit

theorem box_cells {w w' : World} {S : List Nat} {g : Nat} {t : TypeId} {x0 x1 x2 x3 : Value} (h : Blk w g t [x0, x1, x2, x3]) (ho : Only S w w') (hn : g ∉ S) :
    w'.cell? ⟨g, 0, none⟩ = some x0 ∧ w'.cell? ⟨g, 1, none⟩ = some x1 ∧ w'.cell? ⟨g, 2, none⟩ = some x2 ∧ w'.cell? ⟨g, 3, none⟩ = some x3 := by
  have hb := h.only ho hn
  exact ⟨hb.cell 0, hb.cell 1, hb.cell 2, hb.cell 3⟩

set_option maxHeartbeats 800000 in
theorem takes_any (d : Nat) (A : Option Addr) (n c : Nat) (k : Int) (f : Nat) (a b : Int) (w : World) (hf : Hid (f < 2 ^ 64)) (h0 : w.cell? ⟨d, 0, none⟩ = some (.slice A n c)) :
    Calls Tryz.prog 137 #[.pointer (some ⟨d, 0, none⟩), .agg #[.int .i64 k, .float .f64 f, .int .i64 a, .int .i64 b]] w fun e w' => e = .returned (.bool (takesB n k f a b)) ∧ Only [] w w' := by
  go_enter Tryz.func137, Tryz.ntmps137
  go_wp2_with fail
  refine (cvalid_any k f a b _).mono ?_
  rintro e w1 ⟨rfl, ho⟩
  obtain ⟨k0, k1, k2, k3⟩ := box_cells (Blk.new w 95 [.int .i64 k, .float .f64 f, .int .i64 a, .int .i64 b]) ho (by simp)
  have c0 := (ho.cell (p := ⟨d, 0, none⟩) ((((Only.refl [] w).alloc (.cells #[.int .i64 k, .float .f64 f, .int .i64 a, .int .i64 b] 95))).cell h0 (by simp)) (by simp))
  have ho' : Hid (Only [] w w1) := ((Only.refl [] w).alloc _).nil_trans ho
  clear ho h0
  cases hv : validB k f a b
  · go_wp2_with fail
    go_ret
    exact ⟨by simp [takesB, hv], ho'.out⟩
  · by_cases hk0 : k = 0
    · subst hk0
      go_wp2_with (go_at_call 160; (with_reducible refine (finite_any f hf.out _).mono ?_); rintro e w' ⟨rfl, rfl⟩)
      go_ret
      exact ⟨by simp [takesB, hv], ho'.out⟩
    · by_cases hk5 : k = 5
      · subst hk5
        go_wp2_with (go_at_call 120; (with_reducible refine (has_any d A n c _ _ c0).mono ?_); rintro e w' ⟨rfl, rfl⟩)
        go_ret
        exact ⟨by simp [takesB, hv], ho'.out⟩
      · have e0 : (k == 0) = false := by simpa using hk0
        have e5 : (k == 5) = false := by simpa using hk5
        go_wp2_with (go_at_call 120; (with_reducible refine (has_any d A n c _ _ c0).mono ?_); rintro e w' ⟨rfl, rfl⟩)
        all_goals go_ret
        all_goals (refine ⟨?_, ho'.out⟩)
        all_goals (simp_all [takesB])

set_option maxHeartbeats 800000 in
theorem new_any (same : Bool) (w : World) :
    Calls Tryz.prog 35 #[.bool same] w fun e w' => ∃ r, e = .returned (.pointer (some ⟨w.heap.size, 0, none⟩)) ∧ DagIs w' w.heap.size (.slice none 0 0) r [] ∧ (r = none ↔ same = false) ∧
      (∀ m, r = some m → w.heap.size ≤ m) ∧ Only [] w w' := by
  have hmm := @run_makeMap Tryz.prog
  cases same
  · go_enter Tryz.func35, Tryz.ntmps35
    go_wp2
    go_ret
    refine ⟨none, rfl, ⟨Blk.new w 100 [.slice none 0 0, .map none], World.ownsRow_nil _ 0 95 4, by simp, by simp⟩, by simp, by simp, (Only.refl [] w).alloc _⟩
  · go_enter Tryz.func35, Tryz.ntmps35
    go_wp2
    go_ret
    refine ⟨some (w.heap.size + 1), rfl, ⟨(Blk.new w 100 [.slice none 0 0, .map (some (w.heap.size + 1))]).alloc _, World.ownsRow_nil _ 0 95 4, ?_, by simp⟩, by simp, by simp, ((Only.refl [] w).alloc _).alloc _⟩
    intro m hm
    obtain rfl : w.heap.size + 1 = m := by simpa using hm
    refine ⟨#[], 0, ?_, rfl⟩
    have := heap_alloc_new (w.alloc (.cells #[.slice none 0 0, .map (some (w.heap.size + 1))] 100)) (.map #[] 0)
    simpa using this
end Go.Proofs.YtigpnopeacicpaaGreatDoor

/-
  Put: what it does to a dag.
-/
namespace Go.Proofs.YtigpnopeacicpaaGreatDoor
open Go.RowKit

def putId (r : Option Nat) (ns : List Nd) (n : Nd) : Int :=
  if takesB ns.length n.k n.f n.a n.b = true then (if r ≠ none ∧ n ∈ ns then (ns.idxOf n : Int) else (ns.length : Int)) else -1
def putNs (r : Option Nat) (ns : List Nd) (n : Nd) : List Nd :=
  if takesB ns.length n.k n.f n.a n.b = true then (if r ≠ none ∧ n ∈ ns then ns else ns ++ [n]) else ns

def PutPost (d : Nat) (v : Value) (r : Option Nat) (ns : List Nd) (n : Nd) (w : World) (e : Ending) (w' : World) : Prop :=
  ∃ ev v', e = .returned (.tuple #[.int .i64 (putId r ns n), ev]) ∧ DagIs w' d v' r (putNs r ns n) ∧ (v'.ownBlock = v.ownBlock ∨ ∃ g, w.heap.size ≤ g ∧ v'.ownBlock = some g) ∧
    Only (foot d v r) w w' ∧ (if takesB ns.length n.k n.f n.a n.b = true then ev = .nilIface else IsAt w w' (ns.length : Int) (.iface 188 (.int .i64 1)) ev)

theorem IsAt.old {w0 w w' : World} {i : Int} {err v : Value} (h : IsAt w w' i err v) (hs : w0.heap.size ≤ w.heap.size) : IsAt w0 w' i err v := by
  obtain ⟨g, h1, h2, h3⟩ := h
  exact ⟨g, by omega, h2, h3⟩
theorem IsAt.drewN {w w' : World} {i : Int} {err v : Value} (h : IsAt w w' i err v) (n : Nat) : IsAt w (w'.drewN n) i err v := h
theorem IsAt.drew {w w' : World} {i : Int} {err v : Value} (h : IsAt w w' i err v) : IsAt w w'.drew i err v := h

theorem DagIs.shape {w : World} {d : Nat} {v : Value} {r : Option Nat} {ns : List Nd} (h : DagIs w d v r ns) : ∃ A c, v = .slice A ns.length c := by
  rcases h.row.2 with ⟨rfl, h0⟩ | ⟨g, cap, cur, rfl, _⟩
  · exact ⟨none, 0, by rw [h0]⟩
  · exact ⟨_, _, rfl⟩

set_option maxHeartbeats 800000 in
theorem put_bad (d : Nat) (v : Value) (r : Option Nat) (ns : List Nd) (k : Int) (f : Nat) (a b : Int) (w : World) (hf : Hid (f < 2 ^ 64)) (hd : DagIs w d v r ns)
    (ht : takesB ns.length k f a b = false) :
    Calls Tryz.prog 113 #[.pointer (some ⟨d, 0, none⟩), .agg #[.int .i64 k, .float .f64 f, .int .i64 a, .int .i64 b]] w (PutPost d v r ns ⟨k, f, a, b⟩ w) := by
  obtain ⟨A, c, rfl⟩ := hd.shape
  have h0 : w.cell? ⟨d, 0, none⟩ = some (.slice A ns.length c) := hd.blk.cell 0
  have hB := Blk.new w 95 [.int .i64 k, .float .f64 f, .int .i64 a, .int .i64 b]
  have ho0 := (Only.refl [] w).alloc (.cells #[.int .i64 k, .float .f64 f, .int .i64 a, .int .i64 b] 95)
  have h0' := ho0.cell h0 (by simp)
  go_enter Tryz.func113, Tryz.ntmps113
  go_wp2_with fail
  refine (takes_any d A ns.length c k f a b _ hf h0').mono ?_
  rintro e w1 ⟨rfl, ho⟩
  have c0 := ho.cell h0' (by simp)
  have ho1 : Hid (Only [] w w1) := ho0.nil_trans ho
  clear ho h0' hB ho0
  go_wp2_with fail
  go_region_held3 (fun w' => w'.cell? ⟨d, 0, none⟩ = some (.slice A ns.length c)) (go_keep)
    (first | (go_at_call 136; refine (malformed_any _).mono ?_; rintro e w' ⟨rfl, rfl⟩) | (go_at_call 138; refine (node_any _ _ _ _).mono ?_; rintro e w2 ⟨ev, rfl, hat, ho2⟩; have c2 := ho2.cell (p := ⟨d, 0, none⟩) c0 (by simp)))
  go_wp2_with fail
  go_ret2
  have hT : Only [] w w2 := ho1.out.nil_trans ((Only.refl [] w1).drew.nil_trans ho2)
  have e1 : putId r ns ⟨k, f, a, b⟩ = -1 := by simp [putId, ht]
  have e2 : putNs r ns ⟨k, f, a, b⟩ = ns := by simp [putNs, ht]
  refine ⟨ev, .slice A ns.length c, by rw [e1]; rfl, by rw [e2]; exact hd.only hT (by simp), .inl rfl, hT.mono (by simp), ?_⟩
  rw [if_neg (by simp [ht])]
  exact hat.old ho1.out.size

set_option maxHeartbeats 800000 in
theorem put_found (d : Nat) (v : Value) (m : Nat) (ns : List Nd) (k : Int) (f : Nat) (a b : Int) (w : World) (hf : Hid (f < 2 ^ 64)) (hd : DagIs w d v (some m) ns)
    (ht : takesB ns.length k f a b = true) (hn : (⟨k, f, a, b⟩ : Nd) ∈ ns) :
    Calls Tryz.prog 113 #[.pointer (some ⟨d, 0, none⟩), .agg #[.int .i64 k, .float .f64 f, .int .i64 a, .int .i64 b]] w (PutPost d v (some m) ns ⟨k, f, a, b⟩ w) := by
  obtain ⟨A, c, rfl⟩ := hd.shape
  obtain ⟨es, clock, hm', hkeys'⟩ := hd.map m rfl
  have hm := Lib.hid hm'
  have hkeys := Lib.hid hkeys'
  have hin := Lib.hid hn
  clear hm' hkeys' hn
  have h0 : w.cell? ⟨d, 0, none⟩ = some (.slice A ns.length c) := hd.blk.cell 0
  have hB := Blk.new w 95 [.int .i64 k, .float .f64 f, .int .i64 a, .int .i64 b]
  have ho0 := (Only.refl [] w).alloc (.cells #[.int .i64 k, .float .f64 f, .int .i64 a, .int .i64 b] 95)
  have h0' := ho0.cell h0 (by simp)
  go_enter Tryz.func113, Tryz.ntmps113
  go_wp2_with fail
  refine (takes_any d A ns.length c k f a b _ hf h0').mono ?_
  rintro e w1 ⟨rfl, ho⟩
  obtain ⟨k0, k1, k2, k3⟩ := box_cells hB ho (by simp)
  have ho1 : Hid (Only [] w w1) := ho0.nil_trans ho
  have c1 : w1.cell? ⟨d, 1, none⟩ = some (.map (some m)) := ho1.out.cell (hd.blk.cell 1) (by simp)
  clear ho h0' hB ho0 h0
  go_wp2_with fail
  go_region_held3 (fun w' => w'.cell? ⟨d, 1, none⟩ = some (.map (some m)) ∧ w'.cell? ⟨w.heap.size, 0, none⟩ = some (.int .i64 k) ∧ w'.cell? ⟨w.heap.size, 1, none⟩ = some (.float .f64 f) ∧ w'.cell? ⟨w.heap.size, 2, none⟩ = some (.int .i64 a) ∧ w'.cell? ⟨w.heap.size, 3, none⟩ = some (.int .i64 b)) (go_keep)
    (first | (go_at_call 139; refine (keyOf_any _ _ _ _ _).mono ?_; rintro e w2 ⟨rfl, ho2⟩; have c2 := ho2.cell (p := ⟨d, 1, none⟩) c1 (by simp); have q0 := ho2.cell k0 (by simp); have q1 := ho2.cell k1 (by simp); have q2 := ho2.cell k2 (by simp); have q3 := ho2.cell k3 (by simp); have hlk := look_hit _ w2 m es clock ns (ho2.heap (ho1.out.heap hm.out (by simp)) (by simp)) hkeys.out hin.out))
  go_wp2_with fail
  go_ret2
  have hT : Only [] w w2 := ho1.out.nil_trans ((Only.refl [] w1).drew.nil_trans ho2)
  have e1 : putId (some m) ns ⟨k, f, a, b⟩ = (ns.idxOf (⟨k, f, a, b⟩ : Nd) : Int) := by simp [putId, ht, hin.out]
  have e2 : putNs (some m) ns ⟨k, f, a, b⟩ = ns := by simp [putNs, hin.out]
  refine ⟨.nilIface, .slice A ns.length c, by rw [e1]; rfl, by rw [e2]; exact hd.only hT (by simp), .inl rfl, hT.mono (by simp), ?_⟩
  rw [if_pos (by simp [ht])]
end Go.Proofs.YtigpnopeacicpaaGreatDoor

/-
  Put of a node that comes behind the others.
-/
namespace Go.Proofs.YtigpnopeacicpaaGreatDoor
open Go.RowKit

theorem Tryz.nodeInfo : (Tryz.prog.info? 95).map (fun i => (i.zero, i.size, i.bytes)) = some (some (.agg #[.int .i64 0, .float .f64 0, .int .i64 0, .int .i64 0]), 4, 32) := by kernel_rfl

theorem flat_snoc (ns : List Nd) (n : Nd) : flat (ns ++ [n]) = flat ns ++ n.cells := by simp [flat]

theorem row_apart {w : World} {d : Nat} {v : Value} {n : Nat} {xs cs : List Value} (h : w.ownsRow 0 95 4 v n xs) (hb : Blk w d 100 cs) : v.ownBlock ≠ some d := by
  rcases h.2 with ⟨rfl, _⟩ | ⟨g, cap, cur, rfl, _, hg, _⟩
  · simp [Value.ownBlock]
  · intro e
    have e' : g = d := by simpa [Value.ownBlock] using e
    subst e'
    unfold Blk at hb
    rw [hg] at hb
    injection hb with hb
    injection hb with _ hb
    exact absurd hb (by decide)
theorem DagIs.apart {w : World} {d : Nat} {v : Value} {r : Option Nat} {ns : List Nd} (h : DagIs w d v r ns) : v.ownBlock ≠ some d := row_apart h.row h.blk
theorem DagIs.apart_map {w : World} {d : Nat} {v : Value} {m : Nat} {ns : List Nd} (h : DagIs w d v (some m) ns) : v.ownBlock ≠ some m ∧ d ≠ m := by
  obtain ⟨es, clock, hm, _⟩ := h.map m rfl
  constructor
  · rcases h.row.2 with ⟨rfl, _⟩ | ⟨g, cap, cur, rfl, _, hg, _⟩
    · simp [Value.ownBlock]
    · intro e
      have e' : g = m := by simpa [Value.ownBlock] using e
      subst e'
      rw [hg] at hm
      cases hm
  · rintro rfl
    have := h.blk
    unfold Blk at this
    rw [hm] at this
    cases this

theorem news4 {w : World} {B : Nat} {x0 x1 x2 x3 : Value} {t : TypeId} (hb : w.heap[B]? = some (.cells #[x0, x1, x2, x3] t (0, 0))) :
    ∀ j u, [x0, x1, x2, x3][j]? = some u → w.cell? ((⟨B, 0, none⟩ : Addr).add j) = some u := World.news_of_block hb

theorem put_close {w w2 w3 w4 : World} {d : Nat} {v : Value} {r : Option Nat} {ns : List Nd} {n : Nd} {g cap : Nat} {o : Obj} (hT : Only [] w w2) (hd2 : DagIs w2 d v r ns)
    (hown3 : w3.ownsRow 0 95 4 (.slice (some ⟨g, 0, none⟩) (ns.length + 1) cap) (ns.length + 1) (flat ns ++ n.cells)) (hgrow3 : (w2.alloc o).drew.grownBy w3 v.ownBlock)
    (hat3 : v.ownBlock = some g ∨ g = w2.heap.size + 1) (hnew : takesB ns.length n.k n.f n.a n.b = true) (hn : ¬ (r ≠ none ∧ n ∈ ns))
    (h4 : Only (r.toList) (w3.setCell ⟨d, 0, none⟩ (.slice (some ⟨g, 0, none⟩) (ns.length + 1) cap)) w4)
    (hm4 : ∀ m, r = some m → ∃ es clock, w4.heap[m]? = some (.map es clock) ∧ HasKeys es.toList 0 (ns ++ [n])) (hdr : ∀ m, r = some m → d ≠ m ∧ v.ownBlock ≠ some m ∧ m < w2.heap.size) :
    PutPost d v r ns n w (.returned (.tuple #[.int .i64 (ns.length : Int), .nilIface])) w4 := by
  have hb3 : Blk w3 d 100 [v, .map r] := ((hd2.blk.alloc o).drew).grown hgrow3 hd2.apart
  have hgd := row_apart hown3 hb3
  have e1 : putId r ns n = (ns.length : Int) := by unfold putId; rw [if_pos hnew, if_neg hn]
  have e2 : putNs r ns n = ns ++ [n] := by unfold putNs; rw [if_pos hnew, if_neg hn]
  have hb4 : Blk (w3.setCell ⟨d, 0, none⟩ (.slice (some ⟨g, 0, none⟩) (ns.length + 1) cap)) d 100 [.slice (some ⟨g, 0, none⟩) (ns.length + 1) cap, .map r] := hb3.set_ 0 _
  have ho3 : Only [d] w3 (w3.setCell ⟨d, 0, none⟩ (.slice (some ⟨g, 0, none⟩) (ns.length + 1) cap)) := (Only.refl [d] w3).setCell (.inl (by simp)) _
  have hg2 : v.ownBlock = some g ∨ w2.heap.size ≤ g := by rcases hat3 with h | h; exact .inl h; exact .inr (by omega)
  have hv2 : ∀ m, r = some m → g ≠ m := fun m hm e => by
    obtain ⟨_, h2, h3⟩ := hdr m hm
    rcases hg2 with h | h
    · exact h2 (by rw [h, e])
    · omega
  have hTT : Only (foot d v r) w w3 := ((hT.mono (by simp)).alloc o).drew.trans (Only.of_grown (S := v.ownBlock.toList) hgrow3 (by simp)) (fun k hk => .inl (by simp [foot] at hk ⊢; simp [hk]))
  refine ⟨.nilIface, .slice (some ⟨g, 0, none⟩) (ns.length + 1) cap, by rw [e1], ?_, ?_, ?_, by rw [if_pos hnew]⟩
  · rw [e2]
    refine ⟨hb4.only h4 ?_, ?_, hm4, ?_⟩
    · intro hm
      exact (hdr d (by simpa using hm)).1 rfl
    · rw [flat_snoc, List.length_append, List.length_singleton]
      refine ownsRow_only (ownsRow_only hown3 ho3 ?_) h4 ?_
      · intro k hk hm
        have : k = d := by simpa using hm
        subst this
        exact hgd hk
      · intro k hk hm
        have e : g = k := by simpa [Value.ownBlock] using hk
        subst e
        exact hv2 g (by simpa using hm) rfl
    · intro hr
      have hnin : n ∉ ns := fun h => hn ⟨hr, h⟩
      exact List.nodup_append.2 ⟨hd2.nodup hr, by simp, by simpa using fun a ha => (fun e : a = n => hnin (e ▸ ha))⟩
  · rcases hg2 with h | h
    · exact .inl (by rw [h]; rfl)
    · exact .inr ⟨g, Nat.le_trans hT.size h, rfl⟩
  · refine ((hTT.setCell (.inl (by simp [foot])) _).trans h4 (fun k hk => .inl (by simp [foot] at hk ⊢; simp [hk])))

set_option maxRecDepth 100000 in
set_option maxHeartbeats 1600000 in
theorem put_new_none (d : Nat) (v : Value) (ns : List Nd) (k : Int) (f : Nat) (a b : Int) (w : World) (hf : Hid (f < 2 ^ 64)) (hd : DagIs w d v none ns) (hlen : decide ((20000 : Int) ≤ (ns.length : Int)) = false)
    (ht : takesB ns.length k f a b = true) :
    Calls Tryz.prog 113 #[.pointer (some ⟨d, 0, none⟩), .agg #[.int .i64 k, .float .f64 f, .int .i64 a, .int .i64 b]] w (PutPost d v none ns ⟨k, f, a, b⟩ w) := by
  obtain ⟨A, c, rfl⟩ := hd.shape
  have hlen' : Hid (ns.length < 20000) := by have := of_decide_eq_false hlen; show _ < _; omega
  obtain ⟨i0, hi, hz0, hz1, hz2⟩ := info_parts Tryz.nodeInfo
  have hne := fun W => run_neq_map_nil (P := Tryz.prog) W 98 _ _ none Tryz.underlying98
  have h0 : w.cell? ⟨d, 0, none⟩ = some (.slice A ns.length c) := hd.blk.cell 0
  have hB := Blk.new w 95 [.int .i64 k, .float .f64 f, .int .i64 a, .int .i64 b]
  have ho0 := (Only.refl [] w).alloc (.cells #[.int .i64 k, .float .f64 f, .int .i64 a, .int .i64 b] 95)
  have h0' := ho0.cell h0 (by simp)
  go_enter Tryz.func113, Tryz.ntmps113
  go_wp2_with fail
  refine (takes_any d A ns.length c k f a b _ hf h0').mono ?_
  rintro e w1 ⟨rfl, ho⟩
  obtain ⟨k0, k1, k2, k3⟩ := box_cells hB ho (by simp)
  have ho1 : Hid (Only [] w w1) := ho0.nil_trans ho
  have c1 : w1.cell? ⟨d, 1, none⟩ = some (.map none) := ho1.out.cell (hd.blk.cell 1) (by simp)
  clear ho h0' hB ho0 h0
  go_wp2_with fail
  go_region_held3 (fun w' => w'.cell? ⟨d, 1, none⟩ = some (.map none) ∧ w'.cell? ⟨w.heap.size, 0, none⟩ = some (.int .i64 k) ∧ w'.cell? ⟨w.heap.size, 1, none⟩ = some (.float .f64 f) ∧ w'.cell? ⟨w.heap.size, 2, none⟩ = some (.int .i64 a) ∧ w'.cell? ⟨w.heap.size, 3, none⟩ = some (.int .i64 b)) (go_keep)
    (first | (go_at_call 139; refine (keyOf_any _ _ _ _ _).mono ?_; rintro e w2 ⟨rfl, ho2⟩; have c2 := ho2.cell (p := ⟨d, 1, none⟩) c1 (by simp); have q0 := ho2.cell k0 (by simp); have q1 := ho2.cell k1 (by simp); have q2 := ho2.cell k2 (by simp); have q3 := ho2.cell k3 (by simp); have hlk := look_none' ⟨k, f, a, b⟩ w2))
  have hT : Hid (Only [] w w2) := ho1.out.nil_trans ((Only.refl [] w1).drew.nil_trans ho2)
  have hd2 := hd.only hT.out (by simp)
  have c0 : w2.cell? ⟨d, 0, none⟩ = some (.slice A ns.length c) := hd2.blk.cell 0
  clear ho2 ho1 k0 k1 k2 k3 c1 hlk
  go_wp2_with fail
  have hl' := hlen'.out
  have cA := ((Only.refl [] w2).alloc (.cells #[.int .i64 k, .float .f64 f, .int .i64 a, .int .i64 b] 95)).cell c0 (by simp)
  go_region_law (first | (refine step_append_lies _ rfl (.tmp 51) (.tmp 53) 96 rfl 0 95 i0 _ 4 32 Tryz.underlying96 hi hz0 hz1 hz2 rfl (by decide) (.slice A ns.length c) ns.length (flat ns) rfl (by exact hd2.row.alloc _) ⟨w2.heap.size, 0, none⟩ 1 1 [.int .i64 k, .float .f64 f, .int .i64 a, .int .i64 b] rfl rfl (by exact news4 (heap_alloc_new w2 _)) (by simp [Value.oneCell']) (by decide) (by simp only [maxLen]; omega) (by omega) (Nat.zero_le _) (w2.heap.size + 1) (by simp) ?_; intro g cap w3 hown3 hgrow3 hat3 hlt3; have hb3 : Blk w3 d 100 [.slice A ns.length c, .map none] := ((hd2.blk.alloc _).drew).grown hgrow3 hd2.apart; have a0 := hb3.cell 0; have a1 := hb3.frozen 0; have a2 := hb3.cell 1; simp only [List.getElem?_cons_zero, List.getElem?_cons_succ] at a0 a2))
  all_goals go_wp2_with fail
  all_goals go_ret2
  all_goals exact put_close (r := none) (n := ⟨k, f, a, b⟩) hT.out hd2 hown3 hgrow3 hat3 ht (by simp) ((Only.refl [] _).mono (by simp)) (by simp) (by simp)
set_option maxRecDepth 100000 in
set_option maxHeartbeats 1600000 in
theorem put_new_some (d : Nat) (v : Value) (m : Nat) (ns : List Nd) (k : Int) (f : Nat) (a b : Int) (w : World) (hf : Hid (f < 2 ^ 64)) (hd : DagIs w d v (some m) ns) (hlen : decide ((20000 : Int) ≤ (ns.length : Int)) = false)
    (ht : takesB ns.length k f a b = true) (hn : (⟨k, f, a, b⟩ : Nd) ∉ ns) :
    Calls Tryz.prog 113 #[.pointer (some ⟨d, 0, none⟩), .agg #[.int .i64 k, .float .f64 f, .int .i64 a, .int .i64 b]] w (PutPost d v (some m) ns ⟨k, f, a, b⟩ w) := by
  obtain ⟨es, clock, hm', hkeys'⟩ := hd.map m rfl
  have hm := Lib.hid hm'
  have hkeys := Lib.hid hkeys'
  have hnin := Lib.hid hn
  have hap := Lib.hid hd.apart_map
  clear hm' hkeys' hn
  obtain ⟨A, c, rfl⟩ := hd.shape
  have hlen' : Hid (ns.length < 20000) := by have := of_decide_eq_false hlen; show _ < _; omega
  obtain ⟨i0, hi, hz0, hz1, hz2⟩ := info_parts Tryz.nodeInfo
  have hne := fun W => run_neq_map_nil (P := Tryz.prog) W 98 _ _ (some m) Tryz.underlying98
  have h0 : w.cell? ⟨d, 0, none⟩ = some (.slice A ns.length c) := hd.blk.cell 0
  have hB := Blk.new w 95 [.int .i64 k, .float .f64 f, .int .i64 a, .int .i64 b]
  have ho0 := (Only.refl [] w).alloc (.cells #[.int .i64 k, .float .f64 f, .int .i64 a, .int .i64 b] 95)
  have h0' := ho0.cell h0 (by simp)
  go_enter Tryz.func113, Tryz.ntmps113
  go_wp2_with fail
  refine (takes_any d A ns.length c k f a b _ hf h0').mono ?_
  rintro e w1 ⟨rfl, ho⟩
  obtain ⟨k0, k1, k2, k3⟩ := box_cells hB ho (by simp)
  have ho1 : Hid (Only [] w w1) := ho0.nil_trans ho
  have hbox1 : Hid (Blk w1 w.heap.size 95 [.int .i64 k, .float .f64 f, .int .i64 a, .int .i64 b]) := hB.only ho (by simp)
  have c1 : w1.cell? ⟨d, 1, none⟩ = some (.map (some m)) := ho1.out.cell (hd.blk.cell 1) (by simp)
  clear ho h0' hB ho0 h0
  go_wp2_with fail
  go_region_held3 (fun w' => w'.cell? ⟨d, 1, none⟩ = some (.map (some m)) ∧ w'.cell? ⟨w.heap.size, 0, none⟩ = some (.int .i64 k) ∧ w'.cell? ⟨w.heap.size, 1, none⟩ = some (.float .f64 f) ∧ w'.cell? ⟨w.heap.size, 2, none⟩ = some (.int .i64 a) ∧ w'.cell? ⟨w.heap.size, 3, none⟩ = some (.int .i64 b)) (go_keep)
    (first | (go_at_call 139; refine (keyOf_any _ _ _ _ _).mono ?_; rintro e w2 ⟨rfl, ho2⟩; have c2 := ho2.cell (p := ⟨d, 1, none⟩) c1 (by simp); have q0 := ho2.cell k0 (by simp); have q1 := ho2.cell k1 (by simp); have q2 := ho2.cell k2 (by simp); have q3 := ho2.cell k3 (by simp); have hlk := look_miss ⟨k, f, a, b⟩ w2 m es clock ns (ho2.heap (ho1.out.heap hm.out (by simp)) (by simp)) hkeys.out hnin.out))
  have hT : Hid (Only [] w w2) := ho1.out.nil_trans ((Only.refl [] w1).drew.nil_trans ho2)
  have hd2 := hd.only hT.out (by simp)
  have hbox2 : Hid (Blk w2 w.heap.size 95 [.int .i64 k, .float .f64 f, .int .i64 a, .int .i64 b]) := hbox1.out.only ((Only.refl [] w1).drew.nil_trans ho2) (by simp)
  have c0 : w2.cell? ⟨d, 0, none⟩ = some (.slice A ns.length c) := hd2.blk.cell 0
  clear ho2 ho1 k0 k1 k2 k3 c1 hlk
  go_wp2_with fail
  have hl' := hlen'.out
  have cA := ((Only.refl [] w2).alloc (.cells #[.int .i64 k, .float .f64 f, .int .i64 a, .int .i64 b] 95)).cell c0 (by simp)
  go_region_law (first | (refine step_append_lies _ rfl (.tmp 51) (.tmp 53) 96 rfl 0 95 i0 _ 4 32 Tryz.underlying96 hi hz0 hz1 hz2 rfl (by decide) (.slice A ns.length c) ns.length (flat ns) rfl (by exact hd2.row.alloc _) ⟨w2.heap.size, 0, none⟩ 1 1 [.int .i64 k, .float .f64 f, .int .i64 a, .int .i64 b] rfl rfl (by exact news4 (heap_alloc_new w2 _)) (by simp [Value.oneCell']) (by decide) (by simp only [maxLen]; omega) (by omega) (Nat.zero_le _) (w2.heap.size + 1) (by simp) ?_; intro g cap w3 hown3 hgrow3 hat3 hlt3; have hb3 : Blk w3 d 100 [.slice A ns.length c, .map (some m)] := ((hd2.blk.alloc _).drew).grown hgrow3 hd2.apart; have a0 := hb3.cell 0; have a1 := hb3.frozen 0; have a2 := hb3.cell 1; simp only [List.getElem?_cons_zero, List.getElem?_cons_succ] at a0 a2))
  all_goals go_wp2_with fail
  all_goals have hm2 : Hid (w2.heap[m]? = some (.map es clock)) := hT.out.heap hm.out (by simp)
  all_goals have hmw : Hid (m < w2.heap.size) := lt_of_heap hm2.out
  all_goals have hm3 : Hid (w3.heap[m]? = some (.map es clock)) := (hgrow3.block m (by have := hmw.out; simp; omega) (fun e => hap.out.1 e.symm)).trans ((Below.heap_alloc w2 _ m hmw.out).trans hm2.out)
  all_goals have hbox3 : Hid (Blk w3 w.heap.size 95 [.int .i64 k, .float .f64 f, .int .i64 a, .int .i64 b]) := ((hbox2.out.alloc _).drew).grown hgrow3 (fun e => by have := (hd.row.lt _ e).2; omega)
  all_goals have hdl : Hid (d < w.heap.size) := hd.blk.lt
  all_goals have ho3 : Hid (Only [d] w3 (w3.setCell ⟨d, 0, none⟩ (.slice (some ⟨g, 0, none⟩) (ns.length + 1) cap))) := (Only.refl [d] w3).setCell (.inl (by simp)) _
  all_goals have hb4 : Hid (Blk (w3.setCell ⟨d, 0, none⟩ (.slice (some ⟨g, 0, none⟩) (ns.length + 1) cap)) d 100 [.slice (some ⟨g, 0, none⟩) (ns.length + 1) cap, .map (some m)]) := hb3.set_ 0 _
  all_goals (generalize hw4 : w3.setCell ⟨d, 0, none⟩ (.slice (some ⟨g, 0, none⟩) (ns.length + 1) cap) = w4 at ho3 hb4 ⊢)
  all_goals have hw4' := Lib.hid hw4
  all_goals have hm4 : Hid (w4.heap[m]? = some (.map es clock)) := ho3.out.heap hm3.out (fun h => hap.out.2 (List.mem_singleton.1 h).symm)
  all_goals obtain ⟨p0, p1, p2, p3⟩ := box_cells hbox3.out ho3.out (fun h => absurd (List.mem_singleton.1 h) (Nat.ne_of_gt hdl.out))
  all_goals have p4 : w4.cell? ⟨d, 1, none⟩ = some (.map (some m)) := hb4.out.cell 1
  all_goals clear hw4 a0 a1 a2 hb3 cA hl'
  all_goals go_wp2_with fail
  all_goals go_region_held3 (fun w' => w'.cell? ⟨d, 1, none⟩ = some (.map (some m)) ∧ w'.cell? ⟨w.heap.size, 0, none⟩ = some (.int .i64 k) ∧ w'.cell? ⟨w.heap.size, 1, none⟩ = some (.float .f64 f) ∧ w'.cell? ⟨w.heap.size, 2, none⟩ = some (.int .i64 a) ∧ w'.cell? ⟨w.heap.size, 3, none⟩ = some (.int .i64 b)) (go_keep)
    (first | (go_at_call 139; refine (keyOf_any _ _ _ _ _).mono ?_; rintro e w5 ⟨rfl, ho5⟩; have r4 := ho5.cell (p := ⟨d, 1, none⟩) p4 (by simp); have r0 := ho5.cell p0 (by simp); have r1 := ho5.cell p1 (by simp); have r2 := ho5.cell p2 (by simp); have r3 := ho5.cell p3 (by simp); obtain ⟨w6, hup, ho6, hk6⟩ := upd_all ⟨k, f, a, b⟩ w5 m es clock ns (ho5.heap (S := []) hm4.out (by simp)) hkeys.out hnin.out; have hk6' := Lib.hid hk6; clear hk6; have s4 := ho6.cell r4 (by simpa using hap.out.2); have hwm : w.heap.size ∉ [m] := (fun h => absurd (List.mem_singleton.1 h) (Nat.ne_of_gt (lt_of_heap hm.out))); have s0 := ho6.cell r0 hwm; have s1 := ho6.cell r1 hwm; have s2 := ho6.cell r2 hwm; have s3 := ho6.cell r3 hwm))
  all_goals go_wp2_with fail
  all_goals go_ret2
  all_goals (subst hw4')
  all_goals exact put_close (r := some m) (n := ⟨k, f, a, b⟩) hT.out hd2 hown3 hgrow3 hat3 ht (fun h => hnin.out h.2) ((((Only.refl [] _).drew.nil_trans ho5).mono (S' := [m]) (by simp)).trans ho6 (by simp)) (fun x hx => by obtain rfl : m = x := (by simpa using hx); exact hk6'.out) (fun x hx => by obtain rfl : m = x := (by simpa using hx); exact ⟨hap.out.2, hap.out.1, hmw.out⟩)

end Go.Proofs.YtigpnopeacicpaaGreatDoor

/-
  Put in one contract; put, Leaf, Sub, Div, Root, Int, Len, All.
-/
namespace Go.Proofs.YtigpnopeacicpaaGreatDoor
open Go.RowKit

theorem put_any (d : Nat) (v : Value) (r : Option Nat) (ns : List Nd) (k : Int) (f : Nat) (a b : Int) (w : World) (hf : Hid (f < 2 ^ 64)) (hd : DagIs w d v r ns) (hlen : ns.length < 20000) :
    Calls Tryz.prog 113 #[.pointer (some ⟨d, 0, none⟩), .agg #[.int .i64 k, .float .f64 f, .int .i64 a, .int .i64 b]] w (PutPost d v r ns ⟨k, f, a, b⟩ w) := by
  have hl : decide ((20000 : Int) ≤ (ns.length : Int)) = false := decide_eq_false (by omega)
  cases ht : takesB ns.length k f a b
  · exact put_bad d v r ns k f a b w hf hd ht
  · cases r with
    | none => exact put_new_none d v ns k f a b w hf hd hl ht
    | some m =>
      by_cases hn : (⟨k, f, a, b⟩ : Nd) ∈ ns
      · exact put_found d v m ns k f a b w hf hd ht hn
      · exact put_new_some d v m ns k f a b w hf hd hl ht hn

def Step (d : Nat) (v : Value) (r : Option Nat) (w : World) (v' : Value) (w' : World) : Prop :=
  (v'.ownBlock = v.ownBlock ∨ ∃ g, w.heap.size ≤ g ∧ v'.ownBlock = some g) ∧ Only (foot d v r) w w'

theorem Step.refl (d : Nat) (v : Value) (r : Option Nat) (w : World) : Step d v r w v w := ⟨.inl rfl, Only.refl _ _⟩

theorem Step.trans {d : Nat} {v v1 v2 : Value} {r : Option Nat} {w w1 w2 : World} (h : Step d v r w v1 w1) (h' : Step d v1 r w1 v2 w2) : Step d v r w v2 w2 := by
  constructor
  · rcases h'.1 with e | ⟨g, hg, e⟩
    · rcases h.1 with e1 | ⟨g1, hg1, e1⟩
      · exact .inl (e.trans e1)
      · exact .inr ⟨g1, hg1, e.trans e1⟩
    · exact .inr ⟨g, Nat.le_trans h.2.size hg, e⟩
  · refine h.2.trans h'.2 (fun k hk => ?_)
    simp only [foot, List.mem_cons, List.mem_append, Option.mem_toList] at hk ⊢
    rcases hk with hk | hk | hk
    · exact .inl (.inl hk)
    · rcases h.1 with e1 | ⟨g1, hg1, e1⟩
      · exact .inl (.inr (.inl (by rw [← e1]; exact hk)))
      · right
        have : g1 = k := by simpa using e1.symm.trans hk
        omega
    · exact .inl (.inr (.inr hk))

theorem Step.only {d : Nat} {v v1 : Value} {r : Option Nat} {w w1 w2 : World} (h : Step d v r w v1 w1) (h' : Only [] w1 w2) : Step d v r w v1 w2 := ⟨h.1, h.2.nil_trans h'⟩

theorem Step.pre {d : Nat} {v v1 : Value} {r : Option Nat} {w w1 w2 : World} (h : Only [] w w1) (h' : Step d v r w1 v1 w2) : Step d v r w v1 w2 :=
  Step.trans ⟨.inl rfl, h.mono (by simp)⟩ h'

def PPost (d : Nat) (v : Value) (r : Option Nat) (ns : List Nd) (n : Nd) (w : World) (e : Ending) (w' : World) : Prop :=
  ∃ v', e = .returned (.int .i64 (putId r ns n)) ∧ DagIs w' d v' r (putNs r ns n) ∧ Step d v r w v' w'

set_option maxHeartbeats 400000 in
theorem dput_any (d : Nat) (v : Value) (r : Option Nat) (ns : List Nd) (k : Int) (f : Nat) (a b : Int) (w : World) (hf : Hid (f < 2 ^ 64)) (hd : DagIs w d v r ns) (hlen : Hid (ns.length < 20000)) :
    Calls Tryz.prog 72 #[.pointer (some ⟨d, 0, none⟩), .agg #[.int .i64 k, .float .f64 f, .int .i64 a, .int .i64 b]] w (PPost d v r ns ⟨k, f, a, b⟩ w) := by
  have ho0 := (Only.refl [] w).alloc (.cells #[.int .i64 k, .float .f64 f, .int .i64 a, .int .i64 b] 95)
  have hd0 := hd.only ho0 (by simp)
  go_enter Tryz.func72, Tryz.ntmps72
  go_wp2_with fail
  refine (put_any d v r ns k f a b _ hf hd0 hlen.out).mono ?_
  rintro e w1 ⟨ev, v1, rfl, hd1, hs1, ho1, _⟩
  have hst : Hid (Step d v r w v1 w1) := Step.pre ho0 ⟨hs1, ho1⟩
  clear hs1 ho1 ho0
  go_wp2_with fail
  go_ret
  exact ⟨v1, rfl, hd1, hst.out⟩

set_option maxHeartbeats 400000 in
theorem dleaf_any (d : Nat) (v : Value) (r : Option Nat) (ns : List Nd) (f : Nat) (w : World) (hf : Hid (f < 2 ^ 64)) (hd : DagIs w d v r ns) (hlen : Hid (ns.length < 20000)) :
    Calls Tryz.prog 73 #[.pointer (some ⟨d, 0, none⟩), .float .f64 f] w (PPost d v r ns ⟨0, f, 0, 0⟩ w) := by
  go_enter Tryz.func73, Tryz.ntmps73
  go_wp2_with fail
  refine (dput_any d v r ns 0 f 0 0 _ hf hd hlen).mono ?_
  rintro e w1 ⟨v1, rfl, hd1, hst⟩
  have hst' := Lib.hid hst
  clear hst
  go_wp2_with fail
  go_ret
  exact ⟨v1, rfl, hd1, hst'.out⟩

set_option maxHeartbeats 400000 in
theorem droot_any (d : Nat) (v : Value) (r : Option Nat) (ns : List Nd) (a : Int) (w : World) (hd : DagIs w d v r ns) (hlen : Hid (ns.length < 20000)) :
    Calls Tryz.prog 36 #[.pointer (some ⟨d, 0, none⟩), .int .i64 a] w (PPost d v r ns ⟨5, 0, a, 0⟩ w) := by
  have hz : Hid (0 < 2 ^ 64) := by show 0 < 2 ^ 64; omega
  go_enter Tryz.func36, Tryz.ntmps36
  go_wp2_with fail
  refine (dput_any d v r ns 5 0 a 0 _ hz hd hlen).mono ?_
  rintro e w1 ⟨v1, rfl, hd1, hst⟩
  have hst' := Lib.hid hst
  clear hst
  go_wp2_with fail
  go_ret
  exact ⟨v1, rfl, hd1, hst'.out⟩

def NodesAt (w : World) (v : Value) (ns : List Nd) : Prop := w.ownsRow 0 95 4 v ns.length (flat ns)

theorem flat_length : ∀ ns : List Nd, (flat ns).length = ns.length * 4
  | [] => rfl
  | n :: r => by
    have := flat_length r
    simp only [flat, List.flatMap_cons, List.length_append, List.length_cons] at this ⊢
    rw [this]
    simp [Nd.cells]
    omega

end Go.Proofs.YtigpnopeacicpaaGreatDoor

/-
  append onto a row whose block holds no limbs: the new row's block holds none.
-/
namespace Go.Proofs.YtigpnopeacicpaaGreatDoor
set_option linter.unusedSimpArgs false
open Go.RowKit

def NoU (u : Value) : Prop := ∀ n : Int, u ≠ .int .u64 n
def NU (w : World) (g : Nat) : Prop := ∀ (o : Nat) (u : Value), w.cell? ⟨g, o, none⟩ = some u → NoU u
theorem NU.only {w w' : World} {S : List Nat} {g : Nat} (h : NU w g) (ho : Only S w w') (hg : g ∉ S) (hlt : g < w.heap.size) : NU w' g := fun o u hu => h o u (by
  have e := ho.block g hlt hg
  simp only [World.cell?] at hu ⊢
  rw [e] at hu
  exact hu)
theorem NU.alloc {w : World} {g : Nat} (h : NU w g) (hlt : g < w.heap.size) (o : Obj) : NU (w.alloc o).drew g := fun p u hu => h p u (by
  have e := heap_alloc_old w o hlt
  simp only [World.cell?] at hu ⊢
  have e2 : (w.alloc o).drew.heap[g]? = w.heap[g]? := e
  rw [e2] at hu
  exact hu)
theorem NU.of_cells {w : World} {g : Nat} {cs : Array Value} {t : TypeId} {fr : Nat × Nat} (hb : w.heap[g]? = some (.cells cs t fr)) (h : ∀ u ∈ cs.toList, NoU u) : NU w g := fun o u hu => by
  rw [cell_of_row w g o cs t fr hb] at hu
  exact h u (by simpa using Array.mem_of_getElem? hu)
theorem NU.cells {w : World} {g : Nat} {cs : Array Value} {t : TypeId} {fr : Nat × Nat} (h : NU w g) (hb : w.heap[g]? = some (.cells cs t fr)) : ∀ u ∈ cs.toList, NoU u := fun u hu => by
  obtain ⟨i, hi, e⟩ := List.getElem_of_mem hu
  refine h i u ?_
  rw [cell_of_row w g i cs t fr hb]
  rw [← Array.getElem?_toList, List.getElem?_eq_getElem hi, e]
theorem mem_zeroCells {z : Array Value} {n : Nat} {u : Value} (hz : 0 < z.size) (h : u ∈ (Builtin.zeroCells z n).toList) : u ∈ z.toList := by
  unfold Builtin.zeroCells at h
  rw [Array.toList_map, List.mem_map] at h
  obtain ⟨i, _, rfl⟩ := h
  have hi : i % z.size < z.size := Nat.mod_lt _ hz
  rw [getElem!_pos z (i % z.size) hi]
  exact Array.getElem_mem_toList hi
theorem run_append_nu {P : Program} (w : World) (t ty : TypeId) (base : Nat) (e : TypeId) (i : TypeInfo) (z : Value) (size bytes : Nat) (ht : P.underlying t = some (.slice e)) (hi : P.info? e = some i) (hz : i.zero = some z)
    (hsize : i.size = size) (hby : i.bytes = bytes) (hzs : z.cells.size = size) (hsz : 0 < size)
    (v : Value) (n : Nat) (xs : List Value) (hown : w.ownsRow base e size v n xs)
    (ad : Addr) (m c : Nat) (news : List Value) (hl : news.length = m * size) (hnews : ∀ j u, news[j]? = some u → w.cell? (ad.add j) = some u) (h1 : ∀ u ∈ news, u.oneCell' = true)
    (hm : 0 < m) (h63 : n + m ≤ maxLen) (hbytes : (n + m) * bytes ≤ 140737488355328) (hbase : base ≤ w.heap.size) (H : Nat) (hH : w.heap.size = H)
    (hnu : ∀ g, v.ownBlock = some g → NU w g) (hzu : ∀ u ∈ z.cells.toList, NoU u) (hnw : ∀ u ∈ news, NoU u) :
    ∃ g cap w', (Builtin.append_ #[t, t] ty #[v, .slice (some ad) m c]).run P w = .ok (.slice (some ⟨g, 0, none⟩) (n + m) cap) w' ∧
      w'.ownsRow base e size (.slice (some ⟨g, 0, none⟩) (n + m) cap) (n + m) (xs ++ news) ∧ w.grownBy w' v.ownBlock ∧ (v.ownBlock = some g ∨ g = H) ∧ g < w'.heap.size ∧ NU w' g := by
  obtain ⟨g, cap, w', hr, h2, h3, h4, h5⟩ := run_append_lies (P := P) w t ty base e i z size bytes ht hi hz hsize hby hzs hsz v n xs hown ad m c news hl hnews h1 hm h63 hbytes hbase H hH
  refine ⟨g, cap, w', hr, h2, h3, h4, h5, ?_⟩
  subst hsize
  subst hby
  have hsmall : n + m ≤ 9223372036854775807 := by simp only [maxLen] at h63; omega
  have hzc : ∀ k u, u ∈ (Builtin.zeroCells z.cells k).toList → NoU u := fun k u hu => hzu u (mem_zeroCells (by omega) hu)
  rcases hown.2 with ⟨rfl, rfl⟩ | ⟨g0, cap0, cur, rfl, hbg, hg, hnc, hcm, hcs, htake⟩
  · have hr2 := run_append_nil (P := P) w t ty e i z ht hi hz ad m c news hl hnews (by omega) (by omega) (by have hb := hbytes; simp only [Nat.zero_add] at hb; omega)
    rw [hr2] at hr
    injection hr with hr hw
    injection hr with hr _ _
    injection hr with hr
    injection hr with hr _ _
    subst hw hr
    refine NU.of_cells (heap_alloc_new w.drew _) fun u hu => ?_
    rw [Array.toList_append, List.mem_append] at hu
    rcases hu with hu | hu
    · exact hnw u (by simpa using hu)
    · exact hzc _ u hu
  · have hcur := (hnu g0 rfl).cells hg
    by_cases hroom : n + m ≤ cap0
    · have hfit : n * i.size + news.length ≤ cur.size := by rw [hl, hcs, ← Nat.add_mul]; exact Nat.mul_le_mul_right _ hroom
      have hr2 := run_append_room (P := P) w t ty e i ht hi g0 n cap0 cur hg ad m c news hl hnews h1 hroom hfit
      rw [hr2] at hr
      injection hr with hr hw
      injection hr with hr _ _
      injection hr with hr
      injection hr with hr _ _
      subst hw hr
      refine NU.of_cells (setRow_heap w g0 cur _ e _ hg) fun u hu => ?_
      simp only [List.mem_append] at hu
      rcases hu with (hu | hu) | hu
      · exact hcur u (List.mem_of_mem_take hu)
      · exact hnw u hu
      · exact hcur u (List.mem_of_mem_drop hu)
    · have holds : ∀ j u, xs[j]? = some u → w.cell? ((⟨g0, 0, none⟩ : Addr).add j) = some u := hown.cells (g := g0) rfl
      have hr2 := run_append_grow (P := P) w t ty e i z ht hi hz ⟨g0, 0, none⟩ n cap0 xs hown.1 holds ad m c news hl hnews (by omega) (by omega) (growslice_fits (by omega) hbytes)
      rw [hr2] at hr
      injection hr with hr hw
      injection hr with hr _ _
      injection hr with hr
      injection hr with hr _ _
      subst hw hr
      refine NU.of_cells (heap_alloc_new w.drew _) fun u hu => ?_
      rw [Array.toList_append, Array.toList_append, List.mem_append, List.mem_append] at hu
      rcases hu with (hu | hu) | hu
      · rw [← htake] at hu
        exact hcur u (List.mem_of_mem_take (by simpa using hu))
      · exact hnw u (by simpa using hu)
      · exact hzc _ u hu
theorem step_append_nu {P : Program} {w : World} {ops : Array Oper} {o : Oper} {a : Act} {K : Act → World → Prop} {Q : Exit → Act → World → Prop} {E : Prop} (hgd : o.guard = none) (s x : Operand) (t : TypeId)
    (ho : o.op = .call { callee := .builtin .append, args := #[s, x], argTypes := #[t, t] })
    (base : Nat) (e : TypeId) (i : TypeInfo) (z : Value) (size bytes : Nat) (ht : P.underlying t = some (.slice e)) (hi : P.info? e = some i) (hz : i.zero = some z)
    (hsize : i.size = size) (hby : i.bytes = bytes) (hzs : z.cells.size = size) (hsz : 0 < size)
    (v : Value) (n : Nat) (xs : List Value) (hs : a.eval s = v) (hown : w.ownsRow base e size v n xs)
    (ad : Addr) (m c : Nat) (news : List Value) (hx : a.eval x = .slice (some ad) m c) (hl : news.length = m * size) (hnews : ∀ j u, news[j]? = some u → w.cell? (ad.add j) = some u) (h1 : ∀ u ∈ news, u.oneCell' = true)
    (hm : 0 < m) (h63 : n + m ≤ maxLen) (hbytes : (n + m) * bytes ≤ 140737488355328) (hbase : base ≤ w.heap.size) (H : Nat) (hH : w.heap.size = H)
    (hnu : ∀ g, v.ownBlock = some g → NU w g) (hzu : ∀ u ∈ z.cells.toList, NoU u) (hnw : ∀ u ∈ news, NoU u)
    (h : ∀ g cap w', w'.ownsRow base e size (.slice (some ⟨g, 0, none⟩) (n + m) cap) (n + m) (xs ++ news) → w.grownBy w' v.ownBlock → (v.ownBlock = some g ∨ g = H) → g < w'.heap.size → NU w' g → K (a.put o.dst (.slice (some ⟨g, 0, none⟩) (n + m) cap)) w') :
    if Region.wanted o (yielded ops a.tmps) = true then Oper.wp P o a w K Q else E := by
  have hw : Region.wanted o (yielded ops a.tmps) = true := by simp [Region.wanted, hgd]
  rw [if_pos hw]
  obtain ⟨g, cap, w', hr, h2, h3, h4, h5, h6⟩ := run_append_nu (P := P) w t o.type base e i z size bytes ht hi hz hsize hby hzs hsz v n xs hown ad m c news hl hnews h1 hm h63 hbytes hbase H hH hnu hzu hnw
  unfold Oper.wp execOp
  simp only [ho, resolve, invoke, builtin, Sem.run_bind, Sem.run_pure, Result.andThen_ok, List.map_toArray, List.map_cons, List.map_nil, hs, hx, hr]
  exact h g cap w' h2 h3 h4 h5 h6
end Go.Proofs.YtigpnopeacicpaaGreatDoor
