/-
  Put of a node that comes behind the others.
-/
import Derived.Test.YtmjnifjohfljaaaTaDagQ
namespace Go.Proofs.Ytmjnifjohfljaaa
open Go.RowKit

theorem Try.nodeInfo : (Try.prog.info? 26).map (fun i => (i.zero, i.size, i.bytes)) = some (some (.agg #[.int .i64 0, .float .f64 0, .int .i64 0, .int .i64 0]), 4, 32) := by kernel_rfl

theorem flat_snoc (ns : List Nd) (n : Nd) : flat (ns ++ [n]) = flat ns ++ n.cells := by simp [flat]

theorem row_apart {w : World} {d : Nat} {v : Value} {n : Nat} {xs cs : List Value} (h : w.ownsRow 0 26 4 v n xs) (hb : Blk w d 69 cs) : v.ownBlock ≠ some d := by
  rcases h.2 with ⟨rfl, _⟩ | ⟨g, cap, cur, rfl, _, hg, _⟩
  · simp [Value.ownBlock]
  · intro e
    have e' : g = d := by simpa [Value.ownBlock] using e
    subst e'
    unfold Blk at hb
    rw [hg] at hb
    injection hb with hb
    injection hb with _ hb
    exact absurd hb (by decide)
theorem DagIs.apart {w : World} {d : Nat} {v : Value} {r : Option Nat} {ns : List Nd} (h : DagIs w d v r ns) : v.ownBlock ≠ some d := row_apart h.row h.blk
theorem DagIs.apart_map {w : World} {d : Nat} {v : Value} {m : Nat} {ns : List Nd} (h : DagIs w d v (some m) ns) : v.ownBlock ≠ some m ∧ d ≠ m := by
  obtain ⟨es, clock, hm, _⟩ := h.map m rfl
  constructor
  · rcases h.row.2 with ⟨rfl, _⟩ | ⟨g, cap, cur, rfl, _, hg, _⟩
    · simp [Value.ownBlock]
    · intro e
      have e' : g = m := by simpa [Value.ownBlock] using e
      subst e'
      rw [hg] at hm
      cases hm
  · rintro rfl
    have := h.blk
    unfold Blk at this
    rw [hm] at this
    cases this

theorem news4 {w : World} {B : Nat} {x0 x1 x2 x3 : Value} {t : TypeId} (hb : w.heap[B]? = some (.cells #[x0, x1, x2, x3] t (0, 0))) :
    ∀ j u, [x0, x1, x2, x3][j]? = some u → w.cell? ((⟨B, 0, none⟩ : Addr).add j) = some u := World.news_of_block hb

/-- The end of Put: the new row is in, the map (if there is one) has been written, the struct's field holds the row. -/
theorem put_close {w w2 w3 w4 : World} {d : Nat} {v : Value} {r : Option Nat} {ns : List Nd} {n : Nd} {g cap : Nat} {o : Obj} (hT : Only [] w w2) (hd2 : DagIs w2 d v r ns)
    (hown3 : w3.ownsRow 0 26 4 (.slice (some ⟨g, 0, none⟩) (ns.length + 1) cap) (ns.length + 1) (flat ns ++ n.cells)) (hgrow3 : (w2.alloc o).drew.grownBy w3 v.ownBlock)
    (hat3 : v.ownBlock = some g ∨ g = w2.heap.size + 1) (hnew : takesB ns.length n.k n.f n.a n.b = true) (hn : ¬ (r ≠ none ∧ n ∈ ns))
    (h4 : Only (r.toList) (w3.setCell ⟨d, 0, none⟩ (.slice (some ⟨g, 0, none⟩) (ns.length + 1) cap)) w4)
    (hm4 : ∀ m, r = some m → ∃ es clock, w4.heap[m]? = some (.map es clock) ∧ HasKeys es.toList 0 (ns ++ [n])) (hdr : ∀ m, r = some m → d ≠ m ∧ v.ownBlock ≠ some m ∧ m < w2.heap.size) :
    PutPost d v r ns n w (.returned (.tuple #[.int .i64 (ns.length : Int), .nilIface])) w4 := by
  have hb3 : Blk w3 d 69 [v, .map r] := ((hd2.blk.alloc o).drew).grown hgrow3 hd2.apart
  have hgd := row_apart hown3 hb3
  have e1 : putId r ns n = (ns.length : Int) := by unfold putId; rw [if_pos hnew, if_neg hn]
  have e2 : putNs r ns n = ns ++ [n] := by unfold putNs; rw [if_pos hnew, if_neg hn]
  have hb4 : Blk (w3.setCell ⟨d, 0, none⟩ (.slice (some ⟨g, 0, none⟩) (ns.length + 1) cap)) d 69 [.slice (some ⟨g, 0, none⟩) (ns.length + 1) cap, .map r] := hb3.set_ 0 _
  have ho3 : Only [d] w3 (w3.setCell ⟨d, 0, none⟩ (.slice (some ⟨g, 0, none⟩) (ns.length + 1) cap)) := (Only.refl [d] w3).setCell (.inl (by simp)) _
  have hg2 : v.ownBlock = some g ∨ w2.heap.size ≤ g := by rcases hat3 with h | h; exact .inl h; exact .inr (by omega)
  have hv2 : ∀ m, r = some m → g ≠ m := fun m hm e => by
    obtain ⟨_, h2, h3⟩ := hdr m hm
    rcases hg2 with h | h
    · exact h2 (by rw [h, e])
    · omega
  have hTT : Only (foot d v r) w w3 := ((hT.mono (by simp)).alloc o).drew.trans (Only.of_grown (S := v.ownBlock.toList) hgrow3 (by simp)) (fun k hk => .inl (by simp [foot] at hk ⊢; simp [hk]))
  refine ⟨.nilIface, .slice (some ⟨g, 0, none⟩) (ns.length + 1) cap, by rw [e1], ?_, ?_, ?_, by rw [if_pos hnew]⟩
  · rw [e2]
    refine ⟨hb4.only h4 ?_, ?_, hm4, ?_⟩
    · intro hm
      exact (hdr d (by simpa using hm)).1 rfl
    · rw [flat_snoc, List.length_append, List.length_singleton]
      refine ownsRow_only (ownsRow_only hown3 ho3 ?_) h4 ?_
      · intro k hk hm
        have : k = d := by simpa using hm
        subst this
        exact hgd hk
      · intro k hk hm
        have e : g = k := by simpa [Value.ownBlock] using hk
        subst e
        exact hv2 g (by simpa using hm) rfl
    · intro hr
      have hnin : n ∉ ns := fun h => hn ⟨hr, h⟩
      exact List.nodup_append.2 ⟨hd2.nodup hr, by simp, by simpa using fun a ha => (fun e : a = n => hnin (e ▸ ha))⟩
  · rcases hg2 with h | h
    · exact .inl (by rw [h]; rfl)
    · exact .inr ⟨g, Nat.le_trans hT.size h, rfl⟩
  · refine ((hTT.setCell (.inl (by simp [foot])) _).trans h4 (fun k hk => .inl (by simp [foot] at hk ⊢; simp [hk])))

set_option maxRecDepth 100000 in
set_option maxHeartbeats 1600000 in
theorem put_new_none (d : Nat) (v : Value) (ns : List Nd) (k : Int) (f : Nat) (a b : Int) (w : World) (hf : Hid (f < 2 ^ 64)) (hd : DagIs w d v none ns) (hlen : decide ((20000 : Int) ≤ (ns.length : Int)) = false)
    (ht : takesB ns.length k f a b = true) :
    Calls Try.prog 21 #[.pointer (some ⟨d, 0, none⟩), .agg #[.int .i64 k, .float .f64 f, .int .i64 a, .int .i64 b]] w (PutPost d v none ns ⟨k, f, a, b⟩ w) := by
  obtain ⟨A, c, rfl⟩ := hd.shape
  have hlen' : Hid (ns.length < 20000) := by have := of_decide_eq_false hlen; show _ < _; omega
  obtain ⟨i0, hi, hz0, hz1, hz2⟩ := info_parts Try.nodeInfo
  have hne := fun W => run_neq_map_nil (P := Try.prog) W 67 _ _ none Try.underlying67
  have h0 : w.cell? ⟨d, 0, none⟩ = some (.slice A ns.length c) := hd.blk.cell 0
  have hB := Blk.new w 26 [.int .i64 k, .float .f64 f, .int .i64 a, .int .i64 b]
  have ho0 := (Only.refl [] w).alloc (.cells #[.int .i64 k, .float .f64 f, .int .i64 a, .int .i64 b] 26)
  have h0' := ho0.cell h0 (by simp)
  go_enter Try.func21, Try.ntmps21
  go_wp2_with fail
  refine (takes_any d A ns.length c k f a b _ hf h0').mono ?_
  rintro e w1 ⟨rfl, ho⟩
  obtain ⟨k0, k1, k2, k3⟩ := box_cells hB ho (by simp)
  have ho1 : Hid (Only [] w w1) := ho0.nil_trans ho
  have c1 : w1.cell? ⟨d, 1, none⟩ = some (.map none) := ho1.out.cell (hd.blk.cell 1) (by simp)
  clear ho h0' hB ho0 h0
  go_wp2_with fail
  go_region_held3 (fun w' => w'.cell? ⟨d, 1, none⟩ = some (.map none) ∧ w'.cell? ⟨w.heap.size, 0, none⟩ = some (.int .i64 k) ∧ w'.cell? ⟨w.heap.size, 1, none⟩ = some (.float .f64 f) ∧ w'.cell? ⟨w.heap.size, 2, none⟩ = some (.int .i64 a) ∧ w'.cell? ⟨w.heap.size, 3, none⟩ = some (.int .i64 b)) (go_keep)
    (first | (go_at_call 38; refine (keyOf_any _ _ _ _ _).mono ?_; rintro e w2 ⟨rfl, ho2⟩; have c2 := ho2.cell (p := ⟨d, 1, none⟩) c1 (by simp); have q0 := ho2.cell k0 (by simp); have q1 := ho2.cell k1 (by simp); have q2 := ho2.cell k2 (by simp); have q3 := ho2.cell k3 (by simp); have hlk := look_none' ⟨k, f, a, b⟩ w2))
  have hT : Hid (Only [] w w2) := ho1.out.nil_trans ((Only.refl [] w1).drew.nil_trans ho2)
  have hd2 := hd.only hT.out (by simp)
  have c0 : w2.cell? ⟨d, 0, none⟩ = some (.slice A ns.length c) := hd2.blk.cell 0
  clear ho2 ho1 k0 k1 k2 k3 c1 hlk
  go_wp2_with fail
  have hl' := hlen'.out
  have cA := ((Only.refl [] w2).alloc (.cells #[.int .i64 k, .float .f64 f, .int .i64 a, .int .i64 b] 26)).cell c0 (by simp)
  go_region_law (first | (refine step_append_lies _ rfl (.tmp 51) (.tmp 53) 24 rfl 0 26 i0 _ 4 32 Try.underlying24 hi hz0 hz1 hz2 rfl (by decide) (.slice A ns.length c) ns.length (flat ns) rfl (by exact hd2.row.alloc _) ⟨w2.heap.size, 0, none⟩ 1 1 [.int .i64 k, .float .f64 f, .int .i64 a, .int .i64 b] rfl rfl (by exact news4 (heap_alloc_new w2 _)) (by simp [Value.oneCell']) (by decide) (by simp only [maxLen]; omega) (by omega) (Nat.zero_le _) (w2.heap.size + 1) (by simp) ?_; intro g cap w3 hown3 hgrow3 hat3 hlt3; have hb3 : Blk w3 d 69 [.slice A ns.length c, .map none] := ((hd2.blk.alloc _).drew).grown hgrow3 hd2.apart; have a0 := hb3.cell 0; have a1 := hb3.frozen 0; have a2 := hb3.cell 1; simp only [List.getElem?_cons_zero, List.getElem?_cons_succ] at a0 a2))
  all_goals go_wp2_with fail
  all_goals go_ret2
  all_goals exact put_close (r := none) (n := ⟨k, f, a, b⟩) hT.out hd2 hown3 hgrow3 hat3 ht (by simp) ((Only.refl [] _).mono (by simp)) (by simp) (by simp)
set_option maxRecDepth 100000 in
set_option maxHeartbeats 1600000 in
theorem put_new_some (d : Nat) (v : Value) (m : Nat) (ns : List Nd) (k : Int) (f : Nat) (a b : Int) (w : World) (hf : Hid (f < 2 ^ 64)) (hd : DagIs w d v (some m) ns) (hlen : decide ((20000 : Int) ≤ (ns.length : Int)) = false)
    (ht : takesB ns.length k f a b = true) (hn : (⟨k, f, a, b⟩ : Nd) ∉ ns) :
    Calls Try.prog 21 #[.pointer (some ⟨d, 0, none⟩), .agg #[.int .i64 k, .float .f64 f, .int .i64 a, .int .i64 b]] w (PutPost d v (some m) ns ⟨k, f, a, b⟩ w) := by
  obtain ⟨es, clock, hm', hkeys'⟩ := hd.map m rfl
  have hm := Lib.hid hm'
  have hkeys := Lib.hid hkeys'
  have hnin := Lib.hid hn
  have hap := Lib.hid hd.apart_map
  clear hm' hkeys' hn
  obtain ⟨A, c, rfl⟩ := hd.shape
  have hlen' : Hid (ns.length < 20000) := by have := of_decide_eq_false hlen; show _ < _; omega
  obtain ⟨i0, hi, hz0, hz1, hz2⟩ := info_parts Try.nodeInfo
  have hne := fun W => run_neq_map_nil (P := Try.prog) W 67 _ _ (some m) Try.underlying67
  have h0 : w.cell? ⟨d, 0, none⟩ = some (.slice A ns.length c) := hd.blk.cell 0
  have hB := Blk.new w 26 [.int .i64 k, .float .f64 f, .int .i64 a, .int .i64 b]
  have ho0 := (Only.refl [] w).alloc (.cells #[.int .i64 k, .float .f64 f, .int .i64 a, .int .i64 b] 26)
  have h0' := ho0.cell h0 (by simp)
  go_enter Try.func21, Try.ntmps21
  go_wp2_with fail
  refine (takes_any d A ns.length c k f a b _ hf h0').mono ?_
  rintro e w1 ⟨rfl, ho⟩
  obtain ⟨k0, k1, k2, k3⟩ := box_cells hB ho (by simp)
  have ho1 : Hid (Only [] w w1) := ho0.nil_trans ho
  have hbox1 : Hid (Blk w1 w.heap.size 26 [.int .i64 k, .float .f64 f, .int .i64 a, .int .i64 b]) := hB.only ho (by simp)
  have c1 : w1.cell? ⟨d, 1, none⟩ = some (.map (some m)) := ho1.out.cell (hd.blk.cell 1) (by simp)
  clear ho h0' hB ho0 h0
  go_wp2_with fail
  go_region_held3 (fun w' => w'.cell? ⟨d, 1, none⟩ = some (.map (some m)) ∧ w'.cell? ⟨w.heap.size, 0, none⟩ = some (.int .i64 k) ∧ w'.cell? ⟨w.heap.size, 1, none⟩ = some (.float .f64 f) ∧ w'.cell? ⟨w.heap.size, 2, none⟩ = some (.int .i64 a) ∧ w'.cell? ⟨w.heap.size, 3, none⟩ = some (.int .i64 b)) (go_keep)
    (first | (go_at_call 38; refine (keyOf_any _ _ _ _ _).mono ?_; rintro e w2 ⟨rfl, ho2⟩; have c2 := ho2.cell (p := ⟨d, 1, none⟩) c1 (by simp); have q0 := ho2.cell k0 (by simp); have q1 := ho2.cell k1 (by simp); have q2 := ho2.cell k2 (by simp); have q3 := ho2.cell k3 (by simp); have hlk := look_miss ⟨k, f, a, b⟩ w2 m es clock ns (ho2.heap (ho1.out.heap hm.out (by simp)) (by simp)) hkeys.out hnin.out))
  have hT : Hid (Only [] w w2) := ho1.out.nil_trans ((Only.refl [] w1).drew.nil_trans ho2)
  have hd2 := hd.only hT.out (by simp)
  have hbox2 : Hid (Blk w2 w.heap.size 26 [.int .i64 k, .float .f64 f, .int .i64 a, .int .i64 b]) := hbox1.out.only ((Only.refl [] w1).drew.nil_trans ho2) (by simp)
  have c0 : w2.cell? ⟨d, 0, none⟩ = some (.slice A ns.length c) := hd2.blk.cell 0
  clear ho2 ho1 k0 k1 k2 k3 c1 hlk
  go_wp2_with fail
  have hl' := hlen'.out
  have cA := ((Only.refl [] w2).alloc (.cells #[.int .i64 k, .float .f64 f, .int .i64 a, .int .i64 b] 26)).cell c0 (by simp)
  go_region_law (first | (refine step_append_lies _ rfl (.tmp 51) (.tmp 53) 24 rfl 0 26 i0 _ 4 32 Try.underlying24 hi hz0 hz1 hz2 rfl (by decide) (.slice A ns.length c) ns.length (flat ns) rfl (by exact hd2.row.alloc _) ⟨w2.heap.size, 0, none⟩ 1 1 [.int .i64 k, .float .f64 f, .int .i64 a, .int .i64 b] rfl rfl (by exact news4 (heap_alloc_new w2 _)) (by simp [Value.oneCell']) (by decide) (by simp only [maxLen]; omega) (by omega) (Nat.zero_le _) (w2.heap.size + 1) (by simp) ?_; intro g cap w3 hown3 hgrow3 hat3 hlt3; have hb3 : Blk w3 d 69 [.slice A ns.length c, .map (some m)] := ((hd2.blk.alloc _).drew).grown hgrow3 hd2.apart; have a0 := hb3.cell 0; have a1 := hb3.frozen 0; have a2 := hb3.cell 1; simp only [List.getElem?_cons_zero, List.getElem?_cons_succ] at a0 a2))
  all_goals go_wp2_with fail
  all_goals have hm2 : Hid (w2.heap[m]? = some (.map es clock)) := hT.out.heap hm.out (by simp)
  all_goals have hmw : Hid (m < w2.heap.size) := lt_of_heap hm2.out
  all_goals have hm3 : Hid (w3.heap[m]? = some (.map es clock)) := (hgrow3.block m (by have := hmw.out; simp; omega) (fun e => hap.out.1 e.symm)).trans ((Below.heap_alloc w2 _ m hmw.out).trans hm2.out)
  all_goals have hbox3 : Hid (Blk w3 w.heap.size 26 [.int .i64 k, .float .f64 f, .int .i64 a, .int .i64 b]) := ((hbox2.out.alloc _).drew).grown hgrow3 (fun e => by have := (hd.row.lt _ e).2; omega)
  all_goals have hdl : Hid (d < w.heap.size) := hd.blk.lt
  all_goals have ho3 : Hid (Only [d] w3 (w3.setCell ⟨d, 0, none⟩ (.slice (some ⟨g, 0, none⟩) (ns.length + 1) cap))) := (Only.refl [d] w3).setCell (.inl (by simp)) _
  all_goals have hb4 : Hid (Blk (w3.setCell ⟨d, 0, none⟩ (.slice (some ⟨g, 0, none⟩) (ns.length + 1) cap)) d 69 [.slice (some ⟨g, 0, none⟩) (ns.length + 1) cap, .map (some m)]) := hb3.set_ 0 _
  all_goals (generalize hw4 : w3.setCell ⟨d, 0, none⟩ (.slice (some ⟨g, 0, none⟩) (ns.length + 1) cap) = w4 at ho3 hb4 ⊢)
  all_goals have hw4' := Lib.hid hw4
  all_goals have hm4 : Hid (w4.heap[m]? = some (.map es clock)) := ho3.out.heap hm3.out (fun h => hap.out.2 (List.mem_singleton.1 h).symm)
  all_goals obtain ⟨p0, p1, p2, p3⟩ := box_cells hbox3.out ho3.out (fun h => absurd (List.mem_singleton.1 h) (Nat.ne_of_gt hdl.out))
  all_goals have p4 : w4.cell? ⟨d, 1, none⟩ = some (.map (some m)) := hb4.out.cell 1
  all_goals clear hw4 a0 a1 a2 hb3 cA hl'
  all_goals go_wp2_with fail
  all_goals go_region_held3 (fun w' => w'.cell? ⟨d, 1, none⟩ = some (.map (some m)) ∧ w'.cell? ⟨w.heap.size, 0, none⟩ = some (.int .i64 k) ∧ w'.cell? ⟨w.heap.size, 1, none⟩ = some (.float .f64 f) ∧ w'.cell? ⟨w.heap.size, 2, none⟩ = some (.int .i64 a) ∧ w'.cell? ⟨w.heap.size, 3, none⟩ = some (.int .i64 b)) (go_keep)
    (first | (go_at_call 38; refine (keyOf_any _ _ _ _ _).mono ?_; rintro e w5 ⟨rfl, ho5⟩; have r4 := ho5.cell (p := ⟨d, 1, none⟩) p4 (by simp); have r0 := ho5.cell p0 (by simp); have r1 := ho5.cell p1 (by simp); have r2 := ho5.cell p2 (by simp); have r3 := ho5.cell p3 (by simp); obtain ⟨w6, hup, ho6, hk6⟩ := upd_all ⟨k, f, a, b⟩ w5 m es clock ns (ho5.heap (S := []) hm4.out (by simp)) hkeys.out hnin.out; have hk6' := Lib.hid hk6; clear hk6; have s4 := ho6.cell r4 (by simpa using hap.out.2); have hwm : w.heap.size ∉ [m] := (fun h => absurd (List.mem_singleton.1 h) (Nat.ne_of_gt (lt_of_heap hm.out))); have s0 := ho6.cell r0 hwm; have s1 := ho6.cell r1 hwm; have s2 := ho6.cell r2 hwm; have s3 := ho6.cell r3 hwm))
  all_goals go_wp2_with fail
  all_goals go_ret2
  all_goals (subst hw4')
  all_goals exact put_close (r := some m) (n := ⟨k, f, a, b⟩) hT.out hd2 hown3 hgrow3 hat3 ht (fun h => hnin.out h.2) ((((Only.refl [] _).drew.nil_trans ho5).mono (S' := [m]) (by simp)).trans ho6 (by simp)) (fun x hx => by obtain rfl : m = x := (by simpa using hx); exact hk6'.out) (fun x hx => by obtain rfl : m = x := (by simpa using hx); exact ⟨hap.out.2, hap.out.1, hmw.out⟩)

end Go.Proofs.Ytmjnifjohfljaaa
