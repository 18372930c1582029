/-
  Joined texts.
-/
import Derived.Test.YtigpnopeacicpaaGreatDoorTnJ22
import Derived.Test.YtigpnopeacicpaaGreatDoorTnJ0
/-
  Put of a node that comes behind the others.
-/
namespace Go.Proofs.YtigpnopeacicpaaGreatDoor
open Go.RowKit

theorem Tryz.nodeInfo : (Tryz.prog.info? 95).map (fun i => (i.zero, i.size, i.bytes)) = some (some (.agg #[.int .i64 0, .float .f64 0, .int .i64 0, .int .i64 0]), 4, 32) := by kernel_rfl

theorem flat_snoc (ns : List Nd) (n : Nd) : flat (ns ++ [n]) = flat ns ++ n.cells := by simp [flat]

theorem row_apart {w : World} {d : Nat} {v : Value} {n : Nat} {xs cs : List Value} (h : w.ownsRow 0 95 4 v n xs) (hb : Blk w d 100 cs) : v.ownBlock ≠ some d := by
  rcases h.2 with ⟨rfl, _⟩ | ⟨g, cap, cur, rfl, _, hg, _⟩
  · simp [Value.ownBlock]
  · intro e
    have e' : g = d := by simpa [Value.ownBlock] using e
    subst e'
    unfold Blk at hb
    rw [hg] at hb
    injection hb with hb
    injection hb with _ hb
    exact absurd hb (by decide)
theorem DagIs.apart {w : World} {d : Nat} {v : Value} {r : Option Nat} {ns : List Nd} (h : DagIs w d v r ns) : v.ownBlock ≠ some d := row_apart h.row h.blk
theorem DagIs.apart_map {w : World} {d : Nat} {v : Value} {m : Nat} {ns : List Nd} (h : DagIs w d v (some m) ns) : v.ownBlock ≠ some m ∧ d ≠ m := by
  obtain ⟨es, clock, hm, _⟩ := h.map m rfl
  constructor
  · rcases h.row.2 with ⟨rfl, _⟩ | ⟨g, cap, cur, rfl, _, hg, _⟩
    · simp [Value.ownBlock]
    · intro e
      have e' : g = m := by simpa [Value.ownBlock] using e
      subst e'
      rw [hg] at hm
      cases hm
  · rintro rfl
    have := h.blk
    unfold Blk at this
    rw [hm] at this
    cases this

theorem news4 {w : World} {B : Nat} {x0 x1 x2 x3 : Value} {t : TypeId} (hb : w.heap[B]? = some (.cells #[x0, x1, x2, x3] t (0, 0))) :
    ∀ j u, [x0, x1, x2, x3][j]? = some u → w.cell? ((⟨B, 0, none⟩ : Addr).add j) = some u := World.news_of_block hb

/-- The end of Put: the new row is in, the map (if there is one) has been written, the struct's field holds the row. -/
theorem put_close {w w2 w3 w4 : World} {d : Nat} {v : Value} {r : Option Nat} {ns : List Nd} {n : Nd} {g cap : Nat} {o : Obj} (hT : Only [] w w2) (hd2 : DagIs w2 d v r ns)
    (hown3 : w3.ownsRow 0 95 4 (.slice (some ⟨g, 0, none⟩) (ns.length + 1) cap) (ns.length + 1) (flat ns ++ n.cells)) (hgrow3 : (w2.alloc o).drew.grownBy w3 v.ownBlock)
    (hat3 : v.ownBlock = some g ∨ g = w2.heap.size + 1) (hnew : takesB ns.length n.k n.f n.a n.b = true) (hn : ¬ (r ≠ none ∧ n ∈ ns))
    (h4 : Only (r.toList) (w3.setCell ⟨d, 0, none⟩ (.slice (some ⟨g, 0, none⟩) (ns.length + 1) cap)) w4)
    (hm4 : ∀ m, r = some m → ∃ es clock, w4.heap[m]? = some (.map es clock) ∧ HasKeys es.toList 0 (ns ++ [n])) (hdr : ∀ m, r = some m → d ≠ m ∧ v.ownBlock ≠ some m ∧ m < w2.heap.size) :
    PutPost d v r ns n w (.returned (.tuple #[.int .i64 (ns.length : Int), .nilIface])) w4 := by
  have hb3 : Blk w3 d 100 [v, .map r] := ((hd2.blk.alloc o).drew).grown hgrow3 hd2.apart
  have hgd := row_apart hown3 hb3
  have e1 : putId r ns n = (ns.length : Int) := by unfold putId; rw [if_pos hnew, if_neg hn]
  have e2 : putNs r ns n = ns ++ [n] := by unfold putNs; rw [if_pos hnew, if_neg hn]
  have hb4 : Blk (w3.setCell ⟨d, 0, none⟩ (.slice (some ⟨g, 0, none⟩) (ns.length + 1) cap)) d 100 [.slice (some ⟨g, 0, none⟩) (ns.length + 1) cap, .map r] := hb3.set_ 0 _
  have ho3 : Only [d] w3 (w3.setCell ⟨d, 0, none⟩ (.slice (some ⟨g, 0, none⟩) (ns.length + 1) cap)) := (Only.refl [d] w3).setCell (.inl (by simp)) _
  have hg2 : v.ownBlock = some g ∨ w2.heap.size ≤ g := by rcases hat3 with h | h; exact .inl h; exact .inr (by omega)
  have hv2 : ∀ m, r = some m → g ≠ m := fun m hm e => by
    obtain ⟨_, h2, h3⟩ := hdr m hm
    rcases hg2 with h | h
    · exact h2 (by rw [h, e])
    · omega
  have hTT : Only (foot d v r) w w3 := ((hT.mono (by simp)).alloc o).drew.trans (Only.of_grown (S := v.ownBlock.toList) hgrow3 (by simp)) (fun k hk => .inl (by simp [foot] at hk ⊢; simp [hk]))
  refine ⟨.nilIface, .slice (some ⟨g, 0, none⟩) (ns.length + 1) cap, by rw [e1], ?_, ?_, ?_, by rw [if_pos hnew]⟩
  · rw [e2]
    refine ⟨hb4.only h4 ?_, ?_, hm4, ?_⟩
    · intro hm
      exact (hdr d (by simpa using hm)).1 rfl
    · rw [flat_snoc, List.length_append, List.length_singleton]
      refine ownsRow_only (ownsRow_only hown3 ho3 ?_) h4 ?_
      · intro k hk hm
        have : k = d := by simpa using hm
        subst this
        exact hgd hk
      · intro k hk hm
        have e : g = k := by simpa [Value.ownBlock] using hk
        subst e
        exact hv2 g (by simpa using hm) rfl
    · intro hr
      have hnin : n ∉ ns := fun h => hn ⟨hr, h⟩
      exact List.nodup_append.2 ⟨hd2.nodup hr, by simp, by simpa using fun a ha => (fun e : a = n => hnin (e ▸ ha))⟩
  · rcases hg2 with h | h
    · exact .inl (by rw [h]; rfl)
    · exact .inr ⟨g, Nat.le_trans hT.size h, rfl⟩
  · refine ((hTT.setCell (.inl (by simp [foot])) _).trans h4 (fun k hk => .inl (by simp [foot] at hk ⊢; simp [hk])))

set_option maxRecDepth 100000 in
set_option maxHeartbeats 1600000 in
theorem put_new_none (d : Nat) (v : Value) (ns : List Nd) (k : Int) (f : Nat) (a b : Int) (w : World) (hf : Hid (f < 2 ^ 64)) (hd : DagIs w d v none ns) (hlen : decide ((20000 : Int) ≤ (ns.length : Int)) = false)
    (ht : takesB ns.length k f a b = true) :
    Calls Tryz.prog 113 #[.pointer (some ⟨d, 0, none⟩), .agg #[.int .i64 k, .float .f64 f, .int .i64 a, .int .i64 b]] w (PutPost d v none ns ⟨k, f, a, b⟩ w) := by
  obtain ⟨A, c, rfl⟩ := hd.shape
  have hlen' : Hid (ns.length < 20000) := by have := of_decide_eq_false hlen; show _ < _; omega
  obtain ⟨i0, hi, hz0, hz1, hz2⟩ := info_parts Tryz.nodeInfo
  have hne := fun W => run_neq_map_nil (P := Tryz.prog) W 98 _ _ none Tryz.underlying98
  have h0 : w.cell? ⟨d, 0, none⟩ = some (.slice A ns.length c) := hd.blk.cell 0
  have hB := Blk.new w 95 [.int .i64 k, .float .f64 f, .int .i64 a, .int .i64 b]
  have ho0 := (Only.refl [] w).alloc (.cells #[.int .i64 k, .float .f64 f, .int .i64 a, .int .i64 b] 95)
  have h0' := ho0.cell h0 (by simp)
  go_enter Tryz.func113, Tryz.ntmps113
  go_wp2_with fail
  refine (takes_any d A ns.length c k f a b _ hf h0').mono ?_
  rintro e w1 ⟨rfl, ho⟩
  obtain ⟨k0, k1, k2, k3⟩ := box_cells hB ho (by simp)
  have ho1 : Hid (Only [] w w1) := ho0.nil_trans ho
  have c1 : w1.cell? ⟨d, 1, none⟩ = some (.map none) := ho1.out.cell (hd.blk.cell 1) (by simp)
  clear ho h0' hB ho0 h0
  go_wp2_with fail
  go_region_held3 (fun w' => w'.cell? ⟨d, 1, none⟩ = some (.map none) ∧ w'.cell? ⟨w.heap.size, 0, none⟩ = some (.int .i64 k) ∧ w'.cell? ⟨w.heap.size, 1, none⟩ = some (.float .f64 f) ∧ w'.cell? ⟨w.heap.size, 2, none⟩ = some (.int .i64 a) ∧ w'.cell? ⟨w.heap.size, 3, none⟩ = some (.int .i64 b)) (go_keep)
    (first | (go_at_call 139; refine (keyOf_any _ _ _ _ _).mono ?_; rintro e w2 ⟨rfl, ho2⟩; have c2 := ho2.cell (p := ⟨d, 1, none⟩) c1 (by simp); have q0 := ho2.cell k0 (by simp); have q1 := ho2.cell k1 (by simp); have q2 := ho2.cell k2 (by simp); have q3 := ho2.cell k3 (by simp); have hlk := look_none' ⟨k, f, a, b⟩ w2))
  have hT : Hid (Only [] w w2) := ho1.out.nil_trans ((Only.refl [] w1).drew.nil_trans ho2)
  have hd2 := hd.only hT.out (by simp)
  have c0 : w2.cell? ⟨d, 0, none⟩ = some (.slice A ns.length c) := hd2.blk.cell 0
  clear ho2 ho1 k0 k1 k2 k3 c1 hlk
  go_wp2_with fail
  have hl' := hlen'.out
  have cA := ((Only.refl [] w2).alloc (.cells #[.int .i64 k, .float .f64 f, .int .i64 a, .int .i64 b] 95)).cell c0 (by simp)
  go_region_law (first | (refine step_append_lies _ rfl (.tmp 51) (.tmp 53) 96 rfl 0 95 i0 _ 4 32 Tryz.underlying96 hi hz0 hz1 hz2 rfl (by decide) (.slice A ns.length c) ns.length (flat ns) rfl (by exact hd2.row.alloc _) ⟨w2.heap.size, 0, none⟩ 1 1 [.int .i64 k, .float .f64 f, .int .i64 a, .int .i64 b] rfl rfl (by exact news4 (heap_alloc_new w2 _)) (by simp [Value.oneCell']) (by decide) (by simp only [maxLen]; omega) (by omega) (Nat.zero_le _) (w2.heap.size + 1) (by simp) ?_; intro g cap w3 hown3 hgrow3 hat3 hlt3; have hb3 : Blk w3 d 100 [.slice A ns.length c, .map none] := ((hd2.blk.alloc _).drew).grown hgrow3 hd2.apart; have a0 := hb3.cell 0; have a1 := hb3.frozen 0; have a2 := hb3.cell 1; simp only [List.getElem?_cons_zero, List.getElem?_cons_succ] at a0 a2))
  all_goals go_wp2_with fail
  all_goals go_ret2
  all_goals exact put_close (r := none) (n := ⟨k, f, a, b⟩) hT.out hd2 hown3 hgrow3 hat3 ht (by simp) ((Only.refl [] _).mono (by simp)) (by simp) (by simp)
set_option maxRecDepth 100000 in
set_option maxHeartbeats 1600000 in
theorem put_new_some (d : Nat) (v : Value) (m : Nat) (ns : List Nd) (k : Int) (f : Nat) (a b : Int) (w : World) (hf : Hid (f < 2 ^ 64)) (hd : DagIs w d v (some m) ns) (hlen : decide ((20000 : Int) ≤ (ns.length : Int)) = false)
    (ht : takesB ns.length k f a b = true) (hn : (⟨k, f, a, b⟩ : Nd) ∉ ns) :
    Calls Tryz.prog 113 #[.pointer (some ⟨d, 0, none⟩), .agg #[.int .i64 k, .float .f64 f, .int .i64 a, .int .i64 b]] w (PutPost d v (some m) ns ⟨k, f, a, b⟩ w) := by
  obtain ⟨es, clock, hm', hkeys'⟩ := hd.map m rfl
  have hm := Lib.hid hm'
  have hkeys := Lib.hid hkeys'
  have hnin := Lib.hid hn
  have hap := Lib.hid hd.apart_map
  clear hm' hkeys' hn
  obtain ⟨A, c, rfl⟩ := hd.shape
  have hlen' : Hid (ns.length < 20000) := by have := of_decide_eq_false hlen; show _ < _; omega
  obtain ⟨i0, hi, hz0, hz1, hz2⟩ := info_parts Tryz.nodeInfo
  have hne := fun W => run_neq_map_nil (P := Tryz.prog) W 98 _ _ (some m) Tryz.underlying98
  have h0 : w.cell? ⟨d, 0, none⟩ = some (.slice A ns.length c) := hd.blk.cell 0
  have hB := Blk.new w 95 [.int .i64 k, .float .f64 f, .int .i64 a, .int .i64 b]
  have ho0 := (Only.refl [] w).alloc (.cells #[.int .i64 k, .float .f64 f, .int .i64 a, .int .i64 b] 95)
  have h0' := ho0.cell h0 (by simp)
  go_enter Tryz.func113, Tryz.ntmps113
  go_wp2_with fail
  refine (takes_any d A ns.length c k f a b _ hf h0').mono ?_
  rintro e w1 ⟨rfl, ho⟩
  obtain ⟨k0, k1, k2, k3⟩ := box_cells hB ho (by simp)
  have ho1 : Hid (Only [] w w1) := ho0.nil_trans ho
  have hbox1 : Hid (Blk w1 w.heap.size 95 [.int .i64 k, .float .f64 f, .int .i64 a, .int .i64 b]) := hB.only ho (by simp)
  have c1 : w1.cell? ⟨d, 1, none⟩ = some (.map (some m)) := ho1.out.cell (hd.blk.cell 1) (by simp)
  clear ho h0' hB ho0 h0
  go_wp2_with fail
  go_region_held3 (fun w' => w'.cell? ⟨d, 1, none⟩ = some (.map (some m)) ∧ w'.cell? ⟨w.heap.size, 0, none⟩ = some (.int .i64 k) ∧ w'.cell? ⟨w.heap.size, 1, none⟩ = some (.float .f64 f) ∧ w'.cell? ⟨w.heap.size, 2, none⟩ = some (.int .i64 a) ∧ w'.cell? ⟨w.heap.size, 3, none⟩ = some (.int .i64 b)) (go_keep)
    (first | (go_at_call 139; refine (keyOf_any _ _ _ _ _).mono ?_; rintro e w2 ⟨rfl, ho2⟩; have c2 := ho2.cell (p := ⟨d, 1, none⟩) c1 (by simp); have q0 := ho2.cell k0 (by simp); have q1 := ho2.cell k1 (by simp); have q2 := ho2.cell k2 (by simp); have q3 := ho2.cell k3 (by simp); have hlk := look_miss ⟨k, f, a, b⟩ w2 m es clock ns (ho2.heap (ho1.out.heap hm.out (by simp)) (by simp)) hkeys.out hnin.out))
  have hT : Hid (Only [] w w2) := ho1.out.nil_trans ((Only.refl [] w1).drew.nil_trans ho2)
  have hd2 := hd.only hT.out (by simp)
  have hbox2 : Hid (Blk w2 w.heap.size 95 [.int .i64 k, .float .f64 f, .int .i64 a, .int .i64 b]) := hbox1.out.only ((Only.refl [] w1).drew.nil_trans ho2) (by simp)
  have c0 : w2.cell? ⟨d, 0, none⟩ = some (.slice A ns.length c) := hd2.blk.cell 0
  clear ho2 ho1 k0 k1 k2 k3 c1 hlk
  go_wp2_with fail
  have hl' := hlen'.out
  have cA := ((Only.refl [] w2).alloc (.cells #[.int .i64 k, .float .f64 f, .int .i64 a, .int .i64 b] 95)).cell c0 (by simp)
  go_region_law (first | (refine step_append_lies _ rfl (.tmp 51) (.tmp 53) 96 rfl 0 95 i0 _ 4 32 Tryz.underlying96 hi hz0 hz1 hz2 rfl (by decide) (.slice A ns.length c) ns.length (flat ns) rfl (by exact hd2.row.alloc _) ⟨w2.heap.size, 0, none⟩ 1 1 [.int .i64 k, .float .f64 f, .int .i64 a, .int .i64 b] rfl rfl (by exact news4 (heap_alloc_new w2 _)) (by simp [Value.oneCell']) (by decide) (by simp only [maxLen]; omega) (by omega) (Nat.zero_le _) (w2.heap.size + 1) (by simp) ?_; intro g cap w3 hown3 hgrow3 hat3 hlt3; have hb3 : Blk w3 d 100 [.slice A ns.length c, .map (some m)] := ((hd2.blk.alloc _).drew).grown hgrow3 hd2.apart; have a0 := hb3.cell 0; have a1 := hb3.frozen 0; have a2 := hb3.cell 1; simp only [List.getElem?_cons_zero, List.getElem?_cons_succ] at a0 a2))
  all_goals go_wp2_with fail
  all_goals have hm2 : Hid (w2.heap[m]? = some (.map es clock)) := hT.out.heap hm.out (by simp)
  all_goals have hmw : Hid (m < w2.heap.size) := lt_of_heap hm2.out
  all_goals have hm3 : Hid (w3.heap[m]? = some (.map es clock)) := (hgrow3.block m (by have := hmw.out; simp; omega) (fun e => hap.out.1 e.symm)).trans ((Below.heap_alloc w2 _ m hmw.out).trans hm2.out)
  all_goals have hbox3 : Hid (Blk w3 w.heap.size 95 [.int .i64 k, .float .f64 f, .int .i64 a, .int .i64 b]) := ((hbox2.out.alloc _).drew).grown hgrow3 (fun e => by have := (hd.row.lt _ e).2; omega)
  all_goals have hdl : Hid (d < w.heap.size) := hd.blk.lt
  all_goals have ho3 : Hid (Only [d] w3 (w3.setCell ⟨d, 0, none⟩ (.slice (some ⟨g, 0, none⟩) (ns.length + 1) cap))) := (Only.refl [d] w3).setCell (.inl (by simp)) _
  all_goals have hb4 : Hid (Blk (w3.setCell ⟨d, 0, none⟩ (.slice (some ⟨g, 0, none⟩) (ns.length + 1) cap)) d 100 [.slice (some ⟨g, 0, none⟩) (ns.length + 1) cap, .map (some m)]) := hb3.set_ 0 _
  all_goals (generalize hw4 : w3.setCell ⟨d, 0, none⟩ (.slice (some ⟨g, 0, none⟩) (ns.length + 1) cap) = w4 at ho3 hb4 ⊢)
  all_goals have hw4' := Lib.hid hw4
  all_goals have hm4 : Hid (w4.heap[m]? = some (.map es clock)) := ho3.out.heap hm3.out (fun h => hap.out.2 (List.mem_singleton.1 h).symm)
  all_goals obtain ⟨p0, p1, p2, p3⟩ := box_cells hbox3.out ho3.out (fun h => absurd (List.mem_singleton.1 h) (Nat.ne_of_gt hdl.out))
  all_goals have p4 : w4.cell? ⟨d, 1, none⟩ = some (.map (some m)) := hb4.out.cell 1
  all_goals clear hw4 a0 a1 a2 hb3 cA hl'
  all_goals go_wp2_with fail
  all_goals go_region_held3 (fun w' => w'.cell? ⟨d, 1, none⟩ = some (.map (some m)) ∧ w'.cell? ⟨w.heap.size, 0, none⟩ = some (.int .i64 k) ∧ w'.cell? ⟨w.heap.size, 1, none⟩ = some (.float .f64 f) ∧ w'.cell? ⟨w.heap.size, 2, none⟩ = some (.int .i64 a) ∧ w'.cell? ⟨w.heap.size, 3, none⟩ = some (.int .i64 b)) (go_keep)
    (first | (go_at_call 139; refine (keyOf_any _ _ _ _ _).mono ?_; rintro e w5 ⟨rfl, ho5⟩; have r4 := ho5.cell (p := ⟨d, 1, none⟩) p4 (by simp); have r0 := ho5.cell p0 (by simp); have r1 := ho5.cell p1 (by simp); have r2 := ho5.cell p2 (by simp); have r3 := ho5.cell p3 (by simp); obtain ⟨w6, hup, ho6, hk6⟩ := upd_all ⟨k, f, a, b⟩ w5 m es clock ns (ho5.heap (S := []) hm4.out (by simp)) hkeys.out hnin.out; have hk6' := Lib.hid hk6; clear hk6; have s4 := ho6.cell r4 (by simpa using hap.out.2); have hwm : w.heap.size ∉ [m] := (fun h => absurd (List.mem_singleton.1 h) (Nat.ne_of_gt (lt_of_heap hm.out))); have s0 := ho6.cell r0 hwm; have s1 := ho6.cell r1 hwm; have s2 := ho6.cell r2 hwm; have s3 := ho6.cell r3 hwm))
  all_goals go_wp2_with fail
  all_goals go_ret2
  all_goals (subst hw4')
  all_goals exact put_close (r := some m) (n := ⟨k, f, a, b⟩) hT.out hd2 hown3 hgrow3 hat3 ht (fun h => hnin.out h.2) ((((Only.refl [] _).drew.nil_trans ho5).mono (S' := [m]) (by simp)).trans ho6 (by simp)) (fun x hx => by obtain rfl : m = x := (by simpa using hx); exact hk6'.out) (fun x hx => by obtain rfl : m = x := (by simpa using hx); exact ⟨hap.out.2, hap.out.1, hmw.out⟩)

end Go.Proofs.YtigpnopeacicpaaGreatDoor

/-
  Put in one contract; put, Leaf, Sub, Div, Root, Int, Len, All.
-/
namespace Go.Proofs.YtigpnopeacicpaaGreatDoor
open Go.RowKit

theorem put_any (d : Nat) (v : Value) (r : Option Nat) (ns : List Nd) (k : Int) (f : Nat) (a b : Int) (w : World) (hf : Hid (f < 2 ^ 64)) (hd : DagIs w d v r ns) (hlen : ns.length < 20000) :
    Calls Tryz.prog 113 #[.pointer (some ⟨d, 0, none⟩), .agg #[.int .i64 k, .float .f64 f, .int .i64 a, .int .i64 b]] w (PutPost d v r ns ⟨k, f, a, b⟩ w) := by
  have hl : decide ((20000 : Int) ≤ (ns.length : Int)) = false := decide_eq_false (by omega)
  cases ht : takesB ns.length k f a b
  · exact put_bad d v r ns k f a b w hf hd ht
  · cases r with
    | none => exact put_new_none d v ns k f a b w hf hd hl ht
    | some m =>
      by_cases hn : (⟨k, f, a, b⟩ : Nd) ∈ ns
      · exact put_found d v m ns k f a b w hf hd ht hn
      · exact put_new_some d v m ns k f a b w hf hd hl ht hn

/-- From (v, w) to (v', w') a dag at block d has been added to. -/
def Step (d : Nat) (v : Value) (r : Option Nat) (w : World) (v' : Value) (w' : World) : Prop :=
  (v'.ownBlock = v.ownBlock ∨ ∃ g, w.heap.size ≤ g ∧ v'.ownBlock = some g) ∧ Only (foot d v r) w w'

theorem Step.trans {d : Nat} {v v1 v2 : Value} {r : Option Nat} {w w1 w2 : World} (h : Step d v r w v1 w1) (h' : Step d v1 r w1 v2 w2) : Step d v r w v2 w2 := by
  constructor
  · rcases h'.1 with e | ⟨g, hg, e⟩
    · rcases h.1 with e1 | ⟨g1, hg1, e1⟩
      · exact .inl (e.trans e1)
      · exact .inr ⟨g1, hg1, e.trans e1⟩
    · exact .inr ⟨g, Nat.le_trans h.2.size hg, e⟩
  · refine h.2.trans h'.2 (fun k hk => ?_)
    simp only [foot, List.mem_cons, List.mem_append, Option.mem_toList] at hk ⊢
    rcases hk with hk | hk | hk
    · exact .inl (.inl hk)
    · rcases h.1 with e1 | ⟨g1, hg1, e1⟩
      · exact .inl (.inr (.inl (by rw [← e1]; exact hk)))
      · right
        have : g1 = k := by simpa using e1.symm.trans hk
        omega
    · exact .inl (.inr (.inr hk))

theorem Step.only {d : Nat} {v v1 : Value} {r : Option Nat} {w w1 w2 : World} (h : Step d v r w v1 w1) (h' : Only [] w1 w2) : Step d v r w v1 w2 := ⟨h.1, h.2.nil_trans h'⟩

theorem Step.pre {d : Nat} {v v1 : Value} {r : Option Nat} {w w1 w2 : World} (h : Only [] w w1) (h' : Step d v r w1 v1 w2) : Step d v r w v1 w2 :=
  Step.trans ⟨.inl rfl, h.mono (by simp)⟩ h'

def PPost (d : Nat) (v : Value) (r : Option Nat) (ns : List Nd) (n : Nd) (w : World) (e : Ending) (w' : World) : Prop :=
  ∃ v', e = .returned (.int .i64 (putId r ns n)) ∧ DagIs w' d v' r (putNs r ns n) ∧ Step d v r w v' w'

set_option maxHeartbeats 400000 in
theorem dput_any (d : Nat) (v : Value) (r : Option Nat) (ns : List Nd) (k : Int) (f : Nat) (a b : Int) (w : World) (hf : Hid (f < 2 ^ 64)) (hd : DagIs w d v r ns) (hlen : Hid (ns.length < 20000)) :
    Calls Tryz.prog 72 #[.pointer (some ⟨d, 0, none⟩), .agg #[.int .i64 k, .float .f64 f, .int .i64 a, .int .i64 b]] w (PPost d v r ns ⟨k, f, a, b⟩ w) := by
  have ho0 := (Only.refl [] w).alloc (.cells #[.int .i64 k, .float .f64 f, .int .i64 a, .int .i64 b] 95)
  have hd0 := hd.only ho0 (by simp)
  go_enter Tryz.func72, Tryz.ntmps72
  go_wp2_with fail
  refine (put_any d v r ns k f a b _ hf hd0 hlen.out).mono ?_
  rintro e w1 ⟨ev, v1, rfl, hd1, hs1, ho1, _⟩
  have hst : Hid (Step d v r w v1 w1) := Step.pre ho0 ⟨hs1, ho1⟩
  clear hs1 ho1 ho0
  go_wp2_with fail
  go_ret
  exact ⟨v1, rfl, hd1, hst.out⟩

set_option maxHeartbeats 400000 in
theorem dleaf_any (d : Nat) (v : Value) (r : Option Nat) (ns : List Nd) (f : Nat) (w : World) (hf : Hid (f < 2 ^ 64)) (hd : DagIs w d v r ns) (hlen : Hid (ns.length < 20000)) :
    Calls Tryz.prog 73 #[.pointer (some ⟨d, 0, none⟩), .float .f64 f] w (PPost d v r ns ⟨0, f, 0, 0⟩ w) := by
  go_enter Tryz.func73, Tryz.ntmps73
  go_wp2_with fail
  refine (dput_any d v r ns 0 f 0 0 _ hf hd hlen).mono ?_
  rintro e w1 ⟨v1, rfl, hd1, hst⟩
  have hst' := Lib.hid hst
  clear hst
  go_wp2_with fail
  go_ret
  exact ⟨v1, rfl, hd1, hst'.out⟩

set_option maxHeartbeats 400000 in
theorem dsub_any (d : Nat) (v : Value) (r : Option Nat) (ns : List Nd) (a b : Int) (w : World) (hd : DagIs w d v r ns) (hlen : Hid (ns.length < 20000)) :
    Calls Tryz.prog 45 #[.pointer (some ⟨d, 0, none⟩), .int .i64 a, .int .i64 b] w (PPost d v r ns ⟨2, 0, a, b⟩ w) := by
  have hz : Hid (0 < 2 ^ 64) := by show 0 < 2 ^ 64; omega
  go_enter Tryz.func45, Tryz.ntmps45
  go_wp2_with fail
  refine (dput_any d v r ns 2 0 a b _ hz hd hlen).mono ?_
  rintro e w1 ⟨v1, rfl, hd1, hst⟩
  have hst' := Lib.hid hst
  clear hst
  go_wp2_with fail
  go_ret
  exact ⟨v1, rfl, hd1, hst'.out⟩

set_option maxHeartbeats 400000 in
theorem ddiv_any (d : Nat) (v : Value) (r : Option Nat) (ns : List Nd) (a b : Int) (w : World) (hd : DagIs w d v r ns) (hlen : Hid (ns.length < 20000)) :
    Calls Tryz.prog 44 #[.pointer (some ⟨d, 0, none⟩), .int .i64 a, .int .i64 b] w (PPost d v r ns ⟨4, 0, a, b⟩ w) := by
  have hz : Hid (0 < 2 ^ 64) := by show 0 < 2 ^ 64; omega
  go_enter Tryz.func44, Tryz.ntmps44
  go_wp2_with fail
  refine (dput_any d v r ns 4 0 a b _ hz hd hlen).mono ?_
  rintro e w1 ⟨v1, rfl, hd1, hst⟩
  have hst' := Lib.hid hst
  clear hst
  go_wp2_with fail
  go_ret
  exact ⟨v1, rfl, hd1, hst'.out⟩

set_option maxHeartbeats 400000 in
theorem droot_any (d : Nat) (v : Value) (r : Option Nat) (ns : List Nd) (a : Int) (w : World) (hd : DagIs w d v r ns) (hlen : Hid (ns.length < 20000)) :
    Calls Tryz.prog 36 #[.pointer (some ⟨d, 0, none⟩), .int .i64 a] w (PPost d v r ns ⟨5, 0, a, 0⟩ w) := by
  have hz : Hid (0 < 2 ^ 64) := by show 0 < 2 ^ 64; omega
  go_enter Tryz.func36, Tryz.ntmps36
  go_wp2_with fail
  refine (dput_any d v r ns 5 0 a 0 _ hz hd hlen).mono ?_
  rintro e w1 ⟨v1, rfl, hd1, hst⟩
  have hst' := Lib.hid hst
  clear hst
  go_wp2_with fail
  go_ret
  exact ⟨v1, rfl, hd1, hst'.out⟩

set_option maxHeartbeats 400000 in
theorem dlen_any (d : Nat) (v : Value) (r : Option Nat) (ns : List Nd) (w : World) (hd : DagIs w d v r ns) :
    Calls Tryz.prog 47 #[.pointer (some ⟨d, 0, none⟩)] w fun e w' => e = .returned (.int .i64 (ns.length : Int)) ∧ w = w' := by
  obtain ⟨A, c, rfl⟩ := hd.shape
  have h0 : w.cell? ⟨d, 0, none⟩ = some (.slice A ns.length c) := hd.blk.cell 0
  go_enter Tryz.func47, Tryz.ntmps47
  go_wp2
  go_ret
  exact ⟨rfl, rfl⟩

/-- A list of nodes in memory of its own (or nil). -/
def NodesAt (w : World) (v : Value) (ns : List Nd) : Prop := w.ownsRow 0 95 4 v ns.length (flat ns)

end Go.Proofs.YtigpnopeacicpaaGreatDoor

/-
  fold, Add, Mul: several operands from left to right.
-/
namespace Go.Proofs.YtigpnopeacicpaaGreatDoor
open Go.RowKit

theorem putNs_le (r : Option Nat) (ns : List Nd) (n : Nd) : (putNs r ns n).length ≤ ns.length + 1 := by
  unfold putNs
  split
  · split <;> simp
  · omega
def FPost (d : Nat) (v : Value) (r : Option Nat) (p : List Nd × Int) (w : World) (e : Ending) (w' : World) : Prop :=
  ∃ v', e = .returned (.int .i64 p.2) ∧ DagIs w' d v' r p.1 ∧ Step d v r w v' w'

end Go.Proofs.YtigpnopeacicpaaGreatDoor

/-
  Add and Mul; a dag that the law itself has made ('Own'), two of them side by side ('Two'); alive.
-/
namespace Go.Proofs.YtigpnopeacicpaaGreatDoor
open Go.RowKit

/-- What a call leaves that hands back an id. -/
def QDagP (d : Nat) (v : Value) (r : Option Nat) (id : Int) (ns' : List Nd) (w : World) (e : Ending) (w' : World) : Prop :=
  ∃ v', e = .returned (.int .i64 id) ∧ DagIs w' d v' r ns' ∧ Step d v r w v' w'

theorem PPost.q {d : Nat} {v : Value} {r : Option Nat} {ns : List Nd} {n : Nd} {id : Int} {ns' : List Nd} (h1 : putId r ns n = id) (h2 : putNs r ns n = ns') {w : World} : ∀ e w', PPost d v r ns n w e w' → QDagP d v r id ns' w e w' :=
  fun _ _ ⟨v', he, hd, hs⟩ => ⟨v', by rw [he, h1], by rw [← h2]; exact hd, hs⟩

theorem FPost.q {d : Nat} {v : Value} {r : Option Nat} {p : List Nd × Int} {id : Int} {ns' : List Nd} (h : p = (ns', id)) {w : World} : ∀ e w', FPost d v r p w e w' → QDagP d v r id ns' w e w' :=
  fun _ _ ⟨v', he, hd, hs⟩ => ⟨v', by rw [he, h], by rw [h] at hd; exact hd, hs⟩

/-- A dag of the law's own: all its blocks are new since w0. -/
structure Own (w0 w : World) (d : Nat) (v : Value) (r : Option Nat) (ns : List Nd) : Prop where
  is : DagIs w d v r ns
  fresh : ∀ k ∈ foot d v r, w0.heap.size ≤ k
  only : Only [] w0 w

theorem Step.foot {d : Nat} {v v' : Value} {r : Option Nat} {w w' : World} (h : Step d v r w v' w') : ∀ k ∈ foot d v' r, k ∈ foot d v r ∨ w.heap.size ≤ k := by
  intro k hk
  simp only [Proofs.YtigpnopeacicpaaGreatDoor.foot, List.mem_cons, List.mem_append, Option.mem_toList] at hk ⊢
  rcases hk with hk | hk | hk
  · exact .inl (.inl hk)
  · rcases h.1 with e | ⟨g, hg, e⟩
    · exact .inl (.inr (.inl (by rw [← e]; exact hk)))
    · right
      have : g = k := by simpa using e.symm.trans hk
      omega
  · exact .inl (.inr (.inr hk))

theorem Own.step {w0 w w' : World} {d : Nat} {v v' : Value} {r : Option Nat} {ns ns' : List Nd} (h : Own w0 w d v r ns) (hs : Step d v r w v' w') (hd : DagIs w' d v' r ns') : Own w0 w' d v' r ns' :=
  ⟨hd, fun k hk => by
    rcases hs.foot k hk with h1 | h1
    · exact h.fresh k h1
    · exact Nat.le_trans h.only.size h1, h.only.trans hs.2 (fun k hk => .inr (h.fresh k hk))⟩

theorem Own.other {w0 w w' : World} {d : Nat} {v : Value} {r : Option Nat} {ns : List Nd} {S : List Nat} (h : Own w0 w d v r ns) (ho : Only S w w') (hS : ∀ k ∈ S, w0.heap.size ≤ k) (hn : ∀ k ∈ foot d v r, k ∉ S) : Own w0 w' d v r ns :=
  ⟨h.is.only ho hn, h.fresh, h.only.trans ho (fun k hk => .inr (hS k hk))⟩

theorem own_new {w w' : World} {r : Option Nat} (hd : DagIs w' w.heap.size (.slice none 0 0) r []) (hr : ∀ m, r = some m → w.heap.size ≤ m) (ho : Only [] w w') : Own w w' w.heap.size (.slice none 0 0) r [] :=
  ⟨hd, fun k hk => by
    simp only [Proofs.YtigpnopeacicpaaGreatDoor.foot, List.mem_cons, List.mem_append, Option.mem_toList] at hk
    rcases hk with hk | hk | hk
    · omega
    · simp [Value.ownBlock] at hk
    · exact hr k hk, ho⟩

end Go.Proofs.YtigpnopeacicpaaGreatDoor

/-
  Nodes in memory: four cells each, slices of them; what Put makes of nodes.
-/
namespace Go.Proofs.YtigpnopeacicpaaGreatDoor
open Go.RowKit

/-- Four cells that hold a node. -/
def Cells4 (w : World) (b o : Nat) (n : Nd) : Prop :=
  w.cell? ⟨b, o, none⟩ = some (.int .i64 n.k) ∧ w.cell? ⟨b, o + 1, none⟩ = some (.float .f64 n.f) ∧ w.cell? ⟨b, o + 2, none⟩ = some (.int .i64 n.a) ∧ w.cell? ⟨b, o + 3, none⟩ = some (.int .i64 n.b)
theorem Cells4.only {w w' : World} {b o : Nat} {n : Nd} {S : List Nat} (h : Cells4 w b o n) (ho : Only S w w') (hn : b ∉ S) : Cells4 w' b o n :=
  ⟨ho.cell h.1 hn, ho.cell h.2.1 hn, ho.cell h.2.2.1 hn, ho.cell h.2.2.2 hn⟩

def nd0 : Nd := ⟨0, 0, 0, 0⟩

theorem flat_get : ∀ (ns : List Nd) (k j : Nat), k < ns.length → j < 4 → (flat ns)[k * 4 + j]? = ((ns[k]?.getD nd0).cells)[j]?
  | [], k, j, h, _ => by simp at h
  | n :: r, 0, j, _, hj => by
    have e : flat (n :: r) = n.cells ++ flat r := rfl
    rw [e, Nat.zero_mul, Nat.zero_add, List.getElem?_append_left (by simpa [Nd.cells] using hj)]
    rfl
  | n :: r, k + 1, j, h, hj => by
    have e : flat (n :: r) = n.cells ++ flat r := rfl
    have hl : n.cells.length = 4 := rfl
    rw [e, List.getElem?_append_right (by omega), hl, show (k + 1) * 4 + j - 4 = k * 4 + j by omega, flat_get r k j (by simpa using h) hj]
    simp

theorem NodesAt.shape {w : World} {u : Value} {ns : List Nd} (h : NodesAt w u ns) : ∃ A c, u = .slice A ns.length c ∧ ns.length ≤ c ∧ c ≤ maxLen ∧
    (∀ k, k < ns.length → ∃ g, A = some ⟨g, 0, none⟩ ∧ Cells4 w g (k * 4) (ns[k]?.getD nd0)) := by
  rcases h.2 with ⟨rfl, h0⟩ | ⟨g, cap, cur, rfl, _, hg, hn, hm, _⟩
  · refine ⟨none, 0, by rw [h0], by omega, by simp [maxLen], fun k hk => by omega⟩
  · refine ⟨_, cap, rfl, hn, hm, fun k hk => ⟨g, rfl, ?_⟩⟩
    have hc := World.ownsRow.cells h (g := g) rfl
    have at_ : ∀ j v, j < 4 → ((ns[k]?.getD nd0).cells)[j]? = some v → w.cell? ⟨g, k * 4 + j, none⟩ = some v := by
      intro j v hj hv
      have h1 := hc (k * 4 + j) v (by rw [flat_get ns k j hk hj, hv])
      have h2 : (⟨g, 0, none⟩ : Addr).add (k * 4 + j) = ⟨g, k * 4 + j, none⟩ := by unfold Addr.add; split <;> simp_all
      rwa [h2] at h1
    exact ⟨at_ 0 _ (by omega) rfl, at_ 1 _ (by omega) rfl, at_ 2 _ (by omega) rfl, at_ 3 _ (by omega) rfl⟩

theorem NodesAt.only {w w' : World} {u : Value} {ns : List Nd} {S : List Nat} (h : NodesAt w u ns) (ho : Only S w w') (hn : ∀ g, u.ownBlock = some g → g ∉ S) : NodesAt w' u ns := ownsRow_only h ho hn

def Fine (len : Nat) (k : Int) (f : Nat) (a b : Int) : Prop :=
  (validB k f a b = true ∧ k = 0 ∧ finB f = true) ∨ (validB k f a b = true ∧ k = 5 ∧ ¬ (len : Int) ≤ a) ∨ (validB k f a b = true ∧ k ≠ 0 ∧ k ≠ 5 ∧ ¬ (len : Int) ≤ a ∧ ¬ (len : Int) ≤ b)
theorem fine_of (len : Nat) (k : Int) (f : Nat) (a b : Int) (h : takesB len k f a b = true) : Fine len k f a b := by
  unfold takesB at h
  unfold Fine
  simp only [Bool.and_eq_true] at h
  obtain ⟨hv, h⟩ := h
  simp only [hv, true_and]
  by_cases h0 : k = 0
  · rw [if_pos h0] at h
    exact .inl ⟨h0, h⟩
  · rw [if_neg h0] at h
    right
    by_cases h5 : k = 5
    · rw [if_pos h5] at h
      left
      simp [hasB] at h
      exact ⟨h5, by omega⟩
    · rw [if_neg h5] at h
      right
      simp [hasB] at h
      exact ⟨h0, h5, by omega, by omega⟩

end Go.Proofs.YtigpnopeacicpaaGreatDoor

/-
  A region that draws its order, whose operations read and whose callees only make new memory: one walk in the order of the text (over the kit's wp_region_quiet, at the class 'w but for new blocks').
-/
namespace Go.Proofs.YtigpnopeacicpaaGreatDoor
open Go.RowKit

/-- The worlds that are w but for new blocks and draws. -/
def Ext (w : World) : Type := { x : World // Only [] w x }
instance extNonempty (w : World) : Nonempty (Ext w) := ⟨⟨w, Only.refl [] w⟩⟩
def Ext.w {w : World} (g : Ext w) : World := g.1
theorem Ext.ho {w : World} (g : Ext w) : Only [] w g.w := g.2
theorem Ext.cell {w : World} {p : Addr} {v : Value} (h : w.cell? p = some v) (g : Ext w) : g.w.cell? p = some v := g.ho.cell h (by simp)

end Go.Proofs.YtigpnopeacicpaaGreatDoor

/-
  code.Check: the first node that may not be there.
-/
namespace Go.Proofs.YtigpnopeacicpaaGreatDoor
open Go.RowKit

/-- Does a node of a valid form stand behind i others? -/
def standsB (i : Int) (k : Int) (f : Nat) (a b : Int) : Bool := if k = 0 then finB f else if k = 5 then decide (a < i) else decide (a < i) && decide (b < i)

set_option maxHeartbeats 400000 in
theorem stands_any (k : Int) (f : Nat) (a b i : Int) (hf : Hid (f < 2 ^ 64)) (w : World) :
    Calls Tryz.prog 159 #[.agg #[.int .i64 k, .float .f64 f, .int .i64 a, .int .i64 b], .int .i64 i] w fun e w' => e = .returned (.bool (standsB i k f a b)) ∧ Only [] w w' := by
  go_enter Tryz.func159, Tryz.ntmps159
  go_wp2_with (go_at_call 160; (with_reducible refine (finite_any _ hf.out _).mono ?_); rintro e w' ⟨rfl, rfl⟩)
  all_goals go_ret
  all_goals (refine ⟨?_, ((Only.refl [] w).alloc _)⟩)
  all_goals (simp_all [standsB]; try omega)

theorem run_store_float (P : Program) (w : World) (a : Addr) (k : FloatKind) (n : Nat) (m : Mode) : (store a (.float k n) m).run P w = stored P w a (.float k n) m := run_store P w a _ m rfl
attribute [local go_sem] run_store_float

/-- A slice of nodes reads as L. -/
def NRead (w : World) (A : Option Addr) (L : List Nd) : Prop := ∀ k, k < L.length → ∃ b o, A = some ⟨b, o, none⟩ ∧ Cells4 w b (o + k * 4) (L[k]?.getD nd0)
theorem NRead.only {w w' : World} {A : Option Addr} {L : List Nd} (h : NRead w A L) (ho : Only [] w w') : NRead w' A L := fun k hk => by
  obtain ⟨b, o, h1, h2⟩ := h k hk
  exact ⟨b, o, h1, h2.only ho (by simp)⟩

theorem NodesAt.read {w : World} {A : Option Addr} {n c : Nat} {ns : List Nd} (h : NodesAt w (.slice A n c) ns) : n = ns.length ∧ NRead w A ns := by
  obtain ⟨A', c', e, _, _, hc⟩ := h.shape
  injection e with e1 e2 e3
  subst e1
  refine ⟨e2, fun k hk => ?_⟩
  obtain ⟨g, h1, h2⟩ := hc k hk
  exact ⟨g, 0, h1, by rw [Nat.zero_add]; exact h2⟩
theorem addr_add (b o j : Nat) : (⟨b, o, none⟩ : Addr).add j = ⟨b, o + j, none⟩ := by
  unfold Addr.add
  by_cases h : j = 0 <;> simp [h]
/-- A slice of ints reads as xs. -/
def IRead (w : World) (A : Option Addr) (xs : List Int) : Prop := ∀ k, k < xs.length → ∃ b o, A = some ⟨b, o, none⟩ ∧ w.cell? ⟨b, o + k, none⟩ = some (.int .i64 (xs[k]?.getD 0))
theorem IRead.only {w w' : World} {A : Option Addr} {xs : List Int} (h : IRead w A xs) (ho : Only [] w w') : IRead w' A xs := fun k hk => by
  obtain ⟨b, o, h1, h2⟩ := h k hk
  exact ⟨b, o, h1, ho.cell h2 (by simp)⟩

/-- May node j of L be where it is? -/
def okB (L : List Nd) (j : Nat) : Bool := takesB j (L[j]?.getD nd0).k (L[j]?.getD nd0).f (L[j]?.getD nd0).a (L[j]?.getD nd0).b
def AllOk (L : List Nd) : Prop := ∀ j, j < L.length → okB L j = true
def FirstBad (L : List Nd) (i : Nat) : Prop := i < L.length ∧ (∀ j, j < i → okB L j = true) ∧ okB L i = false
theorem takes_stands (j : Nat) (k : Int) (f : Nat) (a b : Int) : takesB j k f a b = (validB k f a b && standsB j k f a b) := by
  unfold takesB
  cases hv : validB k f a b
  · rfl
  · have hv' : (k = 0 ∨ 0 ≤ a ∧ 0 ≤ b) := by
      simp only [validB, decide_eq_true_eq] at hv
      omega
    simp only [Bool.true_and, standsB, hasB]
    by_cases h0 : k = 0
    · simp [h0]
    · simp only [h0, if_false]
      have h1 : 0 ≤ a ∧ 0 ≤ b := by omega
      by_cases h5 : k = 5
      · simp [h5, h1]
      · simp [h5, h1]

/-- The value that Check answers. -/
def CkPost (L : List Nd) (w : World) (e : Ending) (w' : World) : Prop :=
  ((AllOk L ∧ e = .returned .nilIface) ∨ ∃ i, FirstBad L i ∧ ∃ v, e = .returned v ∧ IsAt w w' (i : Int) (.iface 188 (.int .i64 1)) v) ∧ Only [] w w'

set_option maxHeartbeats 1600000 in
set_option maxRecDepth 100000 in
theorem ccheck_any (A : Option Addr) (c : Nat) (L : List Nd) (w : World) (hA : Hid (NRead w A L)) (hf : Hid (∀ k, k < L.length → (L[k]?.getD nd0).f < 2 ^ 64)) (hl : (L.length : Int) ≤ 1000) :
    Calls Tryz.prog 135 #[.slice A L.length c] w (CkPost L w) := by
  go_enter Tryz.func135, Tryz.ntmps135
  go_wp2_with fail
  go_loopw [11] (fun i wr => ∃ k : Nat, k ≤ L.length ∧ i = .int .i64 (k : Int) ∧ Only [] w wr ∧ (∀ j, j < k → okB L j = true)) (fun i _ => L.length - (intOf i).toNat)
  case atStart => exact ⟨0, Nat.zero_le _, rfl, Only.refl _ _, fun j hj => by omega⟩
  case round =>
    obtain ⟨k, hk, rfl, ho, hall⟩ := hrel
    have Ho := Lib.hid ho
    have Hall := Lib.hid hall
    clear ho hall
    by_cases hlt : k < L.length
    · obtain ⟨b, o, rfl, h1⟩ := hA.out k hlt
      obtain ⟨p0, p1, p2, p3⟩ := h1.only Ho.out (by simp)
      have hn := Lib.hid (hf.out k hlt)
      have hok : Hid (okB L k = (validB (L[k]?.getD nd0).k (L[k]?.getD nd0).f (L[k]?.getD nd0).a (L[k]?.getD nd0).b && standsB k (L[k]?.getD nd0).k (L[k]?.getD nd0).f (L[k]?.getD nd0).a (L[k]?.getD nd0).b)) := by show _ = _; exact takes_stands _ _ _ _ _
      clear h1
      generalize L[k]?.getD nd0 = n at p0 p1 p2 p3 hn hok
      obtain ⟨nk, nf, na, nb⟩ := n
      have hk' : (k : Int) < (L.length : Int) := by omega
      go_wp2_with fail
      refine (cvalid_any nk nf na nb _).mono ?_
      rintro e w1 ⟨rfl, ho1⟩
      have hB := (Blk.new wr 95 [.int .i64 nk, .float .f64 nf, .int .i64 na, .int .i64 nb])
      obtain ⟨q0, q1, q2, q3⟩ := box_cells hB ho1 (by simp)
      have Ho1 := Lib.hid ((Ho.out.alloc (.cells #[.int .i64 nk, .float .f64 nf, .int .i64 na, .int .i64 nb] 95)).nil_trans ho1)
      clear ho1 hB
      cases hv : validB nk nf na nb
      · have hok' : Hid (okB L k = false) := by show _ = _; rw [hok.out, hv]; rfl
        clear hok
        go_wp2_with fail
        (with_reducible refine (malformed_any _).mono ?_)
        rintro e w' ⟨rfl, rfl⟩
        go_wp2_with fail
        (with_reducible refine (node_any _ _ _ _).mono ?_)
        rintro e w2 ⟨v, rfl, hv2, ho2⟩
        go_wp2_with fail
        go_ret
        exact ⟨.inr ⟨k, ⟨hlt, Hall.out, hok'.out⟩, v, rfl, hv2.old Ho1.out.size⟩, Ho1.out.nil_trans ho2⟩
      · cases hs : standsB (k : Int) nk nf na nb
        · have hok' : Hid (okB L k = false) := by show _ = _; rw [hok.out, hv, hs]; rfl
          clear hok
          go_wp2_with fail
          (with_reducible refine (stands_any _ _ _ _ _ hn _).mono ?_)
          rintro e w2 ⟨rfl, ho2⟩
          have Ho2 := Lib.hid (Ho1.out.nil_trans ho2)
          clear ho2
          go_wp2_with fail
          (with_reducible refine (malformed_any _).mono ?_)
          rintro e w' ⟨rfl, rfl⟩
          go_wp2_with fail
          (with_reducible refine (node_any _ _ _ _).mono ?_)
          rintro e w3 ⟨v, rfl, hv2, ho3⟩
          go_wp2_with fail
          go_ret
          exact ⟨.inr ⟨k, ⟨hlt, Hall.out, hok'.out⟩, v, rfl, hv2.old Ho2.out.size⟩, Ho2.out.nil_trans ho3⟩
        · have hok' : Hid (okB L k = true) := by show _ = _; rw [hok.out, hv, hs]; rfl
          clear hok
          go_wp2_with fail
          (with_reducible refine (stands_any _ _ _ _ _ hn _).mono ?_)
          rintro e w2 ⟨rfl, ho2⟩
          have Ho2 := Lib.hid (Ho1.out.nil_trans ho2)
          clear ho2
          go_wp2_with fail
          go_roundw
          case rel =>
            refine ⟨k + 1, by omega, by go_num, Ho2.out, fun j hj => ?_⟩
            by_cases e : j = k
            · rw [e]; exact hok'.out
            · exact Hall.out j (by omega)
          case measure => simp [intOf]; omega
    · have hnl : ¬ (k : Int) < (L.length : Int) := by omega
      go_wp2_with fail
      go_ret
      exact ⟨.inl ⟨fun j hj => Hall.out j (by omega), rfl⟩, Ho.out⟩
end Go.Proofs.YtigpnopeacicpaaGreatDoor

/-
  What Load makes of nodes: the plain law.
-/
namespace Go.Proofs.YtigpnopeacicpaaGreatDoor
open Go.RowKit

/-- A node whose operands are what the nodes before it have become. -/
def reNd (ids : List Int) (n : Nd) : Nd := ⟨n.k, n.f, if n.k = 0 then n.a else ids[n.a.toNat]?.getD 0, if n.k = 0 ∨ n.k = 5 then n.b else ids[n.b.toNat]?.getD 0⟩
def ldStep (r : Option Nat) (q : List Nd × List Int) (n : Nd) : List Nd × List Int := (putNs r q.1 (reNd q.2 n), q.2 ++ [putId r q.1 (reNd q.2 n)])
def ld (r : Option Nat) (L : List Nd) : List Nd × List Int := L.foldl (ldStep r) ([], [])
theorem ld_snoc (r : Option Nat) (L : List Nd) (n : Nd) : ld r (L ++ [n]) = ldStep r (ld r L) n := by simp [ld]
theorem ld_take (r : Option Nat) (L : List Nd) {k : Nat} (hk : k < L.length) : ld r (L.take (k + 1)) = ldStep r (ld r (L.take k)) (L[k]?.getD nd0) := by
  rw [List.take_succ_eq_append_getElem hk, ld_snoc]
  simp [hk]
/-- What holds of a part that has been loaded. -/
structure LdOk (q : List Nd × List Int) (k : Nat) : Prop where
  ids : q.2.length = k
  ns : q.1.length ≤ k
  at_ : ∀ j, j < k → 0 ≤ q.2[j]?.getD 0 ∧ q.2[j]?.getD 0 < q.1.length

theorem reNd_takes {q : List Nd × List Int} {k : Nat} (h : LdOk q k) (hk : k ≤ 1000) {n : Nd} (hn : takesB k n.k n.f n.a n.b = true) :
    takesB q.1.length (reNd q.2 n).k (reNd q.2 n).f (reNd q.2 n).a (reNd q.2 n).b = true := by
  obtain ⟨nk, nf, na, nb⟩ := n
  have hl := h.ns
  simp only at hn
  have hfine := fine_of _ _ _ _ _ hn
  unfold Fine at hfine
  rcases hfine with ⟨hv, h0, hf⟩ | ⟨hv, h5, ha⟩ | ⟨hv, h0, h5, ha, hb⟩
  · subst h0
    simp [reNd, takesB, hv, hf]
  · subst h5
    simp only [validB, decide_eq_true_eq] at hv
    have hb : nb = 0 := by
      rcases hv with h | h
      · omega
      · exact h.2.2.1 trivial
    subst hb
    obtain ⟨g1, g2⟩ := h.at_ na.toNat (by omega)
    simp only [reNd, takesB, validB, hasB]
    simp
    omega
  · simp only [validB, decide_eq_true_eq] at hv
    obtain ⟨g1, g2⟩ := h.at_ na.toNat (by omega)
    obtain ⟨g3, g4⟩ := h.at_ nb.toNat (by omega)
    simp only [reNd, takesB, validB, hasB, h0, h5, if_false, or_self]
    simp
    omega
theorem ldStep_ok (r : Option Nat) {q : List Nd × List Int} {k : Nat} (h : LdOk q k) (hk : k ≤ 1000) {n : Nd} (hn : takesB k n.k n.f n.a n.b = true) : LdOk (ldStep r q n) (k + 1) := by
  have ht := reNd_takes h hk hn
  have hle := putNs_le r q.1 (reNd q.2 n)
  have h1 := h.ids
  have h2 := h.ns
  have hmono : q.1.length ≤ (putNs r q.1 (reNd q.2 n)).length := by
    unfold putNs
    rw [if_pos ht]
    split <;> simp
  have hid : 0 ≤ putId r q.1 (reNd q.2 n) ∧ putId r q.1 (reNd q.2 n) < (putNs r q.1 (reNd q.2 n)).length := by
    unfold putNs putId
    rw [if_pos ht, if_pos ht]
    by_cases hm : r ≠ none ∧ reNd q.2 n ∈ q.1
    · rw [if_pos hm, if_pos hm]
      have := List.idxOf_lt_length_iff.2 hm.2
      omega
    · rw [if_neg hm, if_neg hm]
      simp
      omega
  refine ⟨by simp [ldStep, h1], by simp only [ldStep]; omega, fun j hj => ?_⟩
  simp only [ldStep]
  by_cases e : j = k
  · subst e
    rw [List.getElem?_append_right (by omega), h1]
    simpa using hid
  · rw [List.getElem?_append_left (by omega)]
    have := h.at_ j (by omega)
    omega
theorem ld_ok (r : Option Nat) {L : List Nd} (hL : L.length ≤ 1000) (hok : AllOk L) : ∀ k, k ≤ L.length → LdOk (ld r (L.take k)) k
  | 0, _ => ⟨rfl, by simp [ld], fun j hj => by omega⟩
  | k + 1, hk => by
    rw [ld_take r L (by omega)]
    exact ldStep_ok r (ld_ok r hL hok k (by omega)) (by omega) (hok k (by omega))
end Go.Proofs.YtigpnopeacicpaaGreatDoor
