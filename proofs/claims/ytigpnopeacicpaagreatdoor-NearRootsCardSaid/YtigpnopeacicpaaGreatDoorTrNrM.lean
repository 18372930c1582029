/-
  Put onto a dag whose row holds no limbs leaves such a dag; Leaf, Root and Int with it.
-/
import Derived.Test.YtigpnopeacicpaaGreatDoorTrJ9
namespace Go.Proofs.YtigpnopeacicpaaGreatDoor
set_option linter.unusedSimpArgs false
open Go.RowKit

def NUd (w : World) (d : Nat) : Prop := ∀ (v : Value) (g : Nat), w.cell? ⟨d, 0, none⟩ = some v → v.ownBlock = some g → NU w g
theorem nd_zero_nu : ∀ u ∈ (Value.agg #[.int .i64 0, .float .f64 0, .int .i64 0, .int .i64 0]).cells.toList, NoU u := by
  intro u hu
  have e : (Value.agg #[.int .i64 0, .float .f64 0, .int .i64 0, .int .i64 0]).cells.toList = [.int .i64 0, .float .f64 0, .int .i64 0, .int .i64 0] := by kernel_rfl
  rw [e] at hu
  simp only [List.mem_cons, List.not_mem_nil, or_false] at hu
  rcases hu with rfl | rfl | rfl | rfl <;> (intro n h; cases h)
theorem nd_nu (k : Int) (f : Nat) (a b : Int) : ∀ u ∈ [Value.int .i64 k, .float .f64 f, .int .i64 a, .int .i64 b], NoU u := by
  intro u hu
  simp only [List.mem_cons, List.not_mem_nil, or_false] at hu
  rcases hu with rfl | rfl | rfl | rfl <;> (intro n h; cases h)
theorem NUd.only {w w' : World} {d : Nat} {v : Value} {r : Option Nat} {ns : List Nd} (h : NUd w d) (hd : DagIs w d v r ns) (ho : Only [] w w') : NUd w' d := fun v' g hc hg => by
  have hc0 := ho.cell (hd.blk.cell 0) (by simp)
  rw [hc] at hc0
  have e : v' = v := by simpa using hc0
  subst e
  exact (h _ g (hd.blk.cell 0) hg).only ho (by simp) (hd.row.lt g hg).2
theorem gm_ne {v : Value} {g m n : Nat} (h : v.ownBlock = some g ∨ g = n + 1) (h1 : v.ownBlock ≠ some m) (h2 : m < n) : g ≠ m := by
  rintro rfl
  rcases h with h | h
  · exact h1 h
  · omega
theorem NUd.nil {w : World} {d : Nat} {r : Option Nat} {ns : List Nd} (hd : DagIs w d (.slice none 0 0) r ns) : NUd w d := fun v' g hc hg => by
  have hc0 : w.cell? ⟨d, 0, none⟩ = some (.slice none 0 0) := hd.blk.cell 0
  rw [hc] at hc0
  injection hc0 with e
  subst e
  cases hg
set_option maxRecDepth 100000 in
set_option maxHeartbeats 1600000 in
theorem put_nu_some (d : Nat) (v : Value) (m : Nat) (ns : List Nd) (k : Int) (f : Nat) (a b : Int) (w : World) (hf : Hid (f < 2 ^ 64)) (hd : DagIs w d v (some m) ns) (hlen : decide ((20000 : Int) ≤ (ns.length : Int)) = false) (hnu : Hid (NUd w d))
    (ht : takesB ns.length k f a b = true) (hn : (⟨k, f, a, b⟩ : Nd) ∉ ns) :
    Calls Tryz.prog 113 #[.pointer (some ⟨d, 0, none⟩), .agg #[.int .i64 k, .float .f64 f, .int .i64 a, .int .i64 b]] w (fun e w' => PutPost d v (some m) ns ⟨k, f, a, b⟩ w e w' ∧ NUd w' d) := by
  obtain ⟨es, clock, hm', hkeys'⟩ := hd.map m rfl
  have hm := Lib.hid hm'
  have hkeys := Lib.hid hkeys'
  have hnin := Lib.hid hn
  have hap := Lib.hid hd.apart_map
  clear hm' hkeys' hn
  obtain ⟨A, c, rfl⟩ := hd.shape
  have hlen' : Hid (ns.length < 20000) := by have := of_decide_eq_false hlen; show _ < _; omega
  obtain ⟨i0, hi, hz0, hz1, hz2⟩ := info_parts Tryz.nodeInfo
  have hne := fun W => run_neq_map_nil (P := Tryz.prog) W 98 _ _ (some m) Tryz.underlying98
  have h0 : w.cell? ⟨d, 0, none⟩ = some (.slice A ns.length c) := hd.blk.cell 0
  have hB := Blk.new w 95 [.int .i64 k, .float .f64 f, .int .i64 a, .int .i64 b]
  have ho0 := (Only.refl [] w).alloc (.cells #[.int .i64 k, .float .f64 f, .int .i64 a, .int .i64 b] 95)
  have h0' := ho0.cell h0 (by simp)
  go_enter Tryz.func113, Tryz.ntmps113
  go_wp2_with fail
  refine (takes_any d A ns.length c k f a b _ hf h0').mono ?_
  rintro e w1 ⟨rfl, ho⟩
  obtain ⟨k0, k1, k2, k3⟩ := box_cells hB ho (by simp)
  have ho1 : Hid (Only [] w w1) := ho0.nil_trans ho
  have hbox1 : Hid (Blk w1 w.heap.size 95 [.int .i64 k, .float .f64 f, .int .i64 a, .int .i64 b]) := hB.only ho (by simp)
  have c1 : w1.cell? ⟨d, 1, none⟩ = some (.map (some m)) := ho1.out.cell (hd.blk.cell 1) (by simp)
  clear ho h0' hB ho0 h0
  go_wp2_with fail
  go_region_held3 (fun w' => w'.cell? ⟨d, 1, none⟩ = some (.map (some m)) ∧ w'.cell? ⟨w.heap.size, 0, none⟩ = some (.int .i64 k) ∧ w'.cell? ⟨w.heap.size, 1, none⟩ = some (.float .f64 f) ∧ w'.cell? ⟨w.heap.size, 2, none⟩ = some (.int .i64 a) ∧ w'.cell? ⟨w.heap.size, 3, none⟩ = some (.int .i64 b)) (go_keep)
    (first | (go_at_call 139; refine (keyOf_any _ _ _ _ _).mono ?_; rintro e w2 ⟨rfl, ho2⟩; have c2 := ho2.cell (p := ⟨d, 1, none⟩) c1 (by simp); have q0 := ho2.cell k0 (by simp); have q1 := ho2.cell k1 (by simp); have q2 := ho2.cell k2 (by simp); have q3 := ho2.cell k3 (by simp); have hlk := look_miss ⟨k, f, a, b⟩ w2 m es clock ns (ho2.heap (ho1.out.heap hm.out (by simp)) (by simp)) hkeys.out hnin.out))
  have hT : Hid (Only [] w w2) := ho1.out.nil_trans ((Only.refl [] w1).drew.nil_trans ho2)
  have hd2 := hd.only hT.out (by simp)
  have hbox2 : Hid (Blk w2 w.heap.size 95 [.int .i64 k, .float .f64 f, .int .i64 a, .int .i64 b]) := hbox1.out.only ((Only.refl [] w1).drew.nil_trans ho2) (by simp)
  have c0 : w2.cell? ⟨d, 0, none⟩ = some (.slice A ns.length c) := hd2.blk.cell 0
  have NU2 : Hid (∀ g, (Value.slice A ns.length c).ownBlock = some g → NU w2 g ∧ g < w2.heap.size) := fun g hg => by
    have hlt := (hd.row.lt g hg).2
    exact ⟨(hnu.out _ g (hd.blk.cell 0) hg).only hT.out (by simp) hlt, Nat.lt_of_lt_of_le hlt hT.out.size⟩
  clear hnu
  clear ho2 ho1 k0 k1 k2 k3 c1 hlk
  go_wp2_with fail
  have hl' := hlen'.out
  have cA := ((Only.refl [] w2).alloc (.cells #[.int .i64 k, .float .f64 f, .int .i64 a, .int .i64 b] 95)).cell c0 (by simp)
  go_region_law (first | (refine step_append_nu rfl (.tmp 51) (.tmp 53) 96 rfl 0 95 i0 _ 4 32 Tryz.underlying96 hi hz0 hz1 hz2 rfl (by decide) (.slice A ns.length c) ns.length (flat ns) rfl (by exact hd2.row.alloc _) ⟨w2.heap.size, 0, none⟩ 1 1 [.int .i64 k, .float .f64 f, .int .i64 a, .int .i64 b] rfl rfl (by exact news4 (heap_alloc_new w2 _)) (by simp [Value.oneCell']) (by decide) (by simp only [maxLen]; omega) (by omega) (Nat.zero_le _) (w2.heap.size + 1) (by simp) (fun g hg => (NU2.out g hg).1.alloc (NU2.out g hg).2 _) nd_zero_nu (nd_nu k f a b) ?_; intro g cap w3 hown3 hgrow3 hat3 hlt3 hnu3; have hb3 : Blk w3 d 100 [.slice A ns.length c, .map (some m)] := ((hd2.blk.alloc _).drew).grown hgrow3 hd2.apart; have a0 := hb3.cell 0; have a1 := hb3.frozen 0; have a2 := hb3.cell 1; simp only [List.getElem?_cons_zero, List.getElem?_cons_succ] at a0 a2))
  all_goals go_wp2_with fail
  all_goals have hm2 : Hid (w2.heap[m]? = some (.map es clock)) := hT.out.heap hm.out (by simp)
  all_goals have hmw : Hid (m < w2.heap.size) := lt_of_heap hm2.out
  all_goals have hm3 : Hid (w3.heap[m]? = some (.map es clock)) := (hgrow3.block m (by have := hmw.out; simp; omega) (fun e => hap.out.1 e.symm)).trans ((Below.heap_alloc w2 _ m hmw.out).trans hm2.out)
  all_goals have hbox3 : Hid (Blk w3 w.heap.size 95 [.int .i64 k, .float .f64 f, .int .i64 a, .int .i64 b]) := ((hbox2.out.alloc _).drew).grown hgrow3 (fun e => by have := (hd.row.lt _ e).2; omega)
  all_goals have hdl : Hid (d < w.heap.size) := hd.blk.lt
  all_goals have ho3 : Hid (Only [d] w3 (w3.setCell ⟨d, 0, none⟩ (.slice (some ⟨g, 0, none⟩) (ns.length + 1) cap))) := (Only.refl [d] w3).setCell (.inl (by simp)) _
  all_goals have hb4 : Hid (Blk (w3.setCell ⟨d, 0, none⟩ (.slice (some ⟨g, 0, none⟩) (ns.length + 1) cap)) d 100 [.slice (some ⟨g, 0, none⟩) (ns.length + 1) cap, .map (some m)]) := hb3.set_ 0 _
  all_goals (generalize hw4 : w3.setCell ⟨d, 0, none⟩ (.slice (some ⟨g, 0, none⟩) (ns.length + 1) cap) = w4 at ho3 hb4 ⊢)
  all_goals have hw4' := Lib.hid hw4
  all_goals have hm4 : Hid (w4.heap[m]? = some (.map es clock)) := ho3.out.heap hm3.out (fun h => hap.out.2 (List.mem_singleton.1 h).symm)
  all_goals obtain ⟨p0, p1, p2, p3⟩ := box_cells hbox3.out ho3.out (fun h => absurd (List.mem_singleton.1 h) (Nat.ne_of_gt hdl.out))
  all_goals have p4 : w4.cell? ⟨d, 1, none⟩ = some (.map (some m)) := hb4.out.cell 1
  all_goals have HGd : Hid (g ≠ d) := fun e => row_apart hown3 hb3 (by rw [← e]; rfl)
  all_goals have HNu := Lib.hid hnu3
  all_goals have HLt := Lib.hid hlt3
  all_goals clear hw4 a0 a1 a2 hb3 cA hl' hnu3 NU2
  all_goals go_wp2_with fail
  all_goals go_region_held3 (fun w' => w'.cell? ⟨d, 1, none⟩ = some (.map (some m)) ∧ w'.cell? ⟨w.heap.size, 0, none⟩ = some (.int .i64 k) ∧ w'.cell? ⟨w.heap.size, 1, none⟩ = some (.float .f64 f) ∧ w'.cell? ⟨w.heap.size, 2, none⟩ = some (.int .i64 a) ∧ w'.cell? ⟨w.heap.size, 3, none⟩ = some (.int .i64 b)) (go_keep)
    (first | (go_at_call 139; refine (keyOf_any _ _ _ _ _).mono ?_; rintro e w5 ⟨rfl, ho5⟩; have r4 := ho5.cell (p := ⟨d, 1, none⟩) p4 (by simp); have r0 := ho5.cell p0 (by simp); have r1 := ho5.cell p1 (by simp); have r2 := ho5.cell p2 (by simp); have r3 := ho5.cell p3 (by simp); obtain ⟨w6, hup, ho6, hk6⟩ := upd_all ⟨k, f, a, b⟩ w5 m es clock ns (ho5.heap (S := []) hm4.out (by simp)) hkeys.out hnin.out; have hk6' := Lib.hid hk6; clear hk6; have s4 := ho6.cell r4 (by simpa using hap.out.2); have hwm : w.heap.size ∉ [m] := (fun h => absurd (List.mem_singleton.1 h) (Nat.ne_of_gt (lt_of_heap hm.out))); have s0 := ho6.cell r0 hwm; have s1 := ho6.cell r1 hwm; have s2 := ho6.cell r2 hwm; have s3 := ho6.cell r3 hwm))
  all_goals go_wp2_with fail
  all_goals go_ret2
  all_goals (subst hw4')
  all_goals have H4 : Only [m] (w3.setCell ⟨d, 0, none⟩ (.slice (some ⟨g, 0, none⟩) (ns.length + 1) cap)) _ := ((((Only.refl [] _).drew.nil_trans ho5).mono (S' := [m]) (by simp)).trans ho6 (by simp))
  all_goals have hgm : g ≠ m := gm_ne hat3 hap.out.1 hmw.out
  all_goals refine ⟨put_close (r := some m) (n := ⟨k, f, a, b⟩) hT.out hd2 hown3 hgrow3 hat3 ht (fun h => hnin.out h.2) H4 (fun x hx => by obtain rfl : m = x := (by simpa using hx); exact hk6'.out) (fun x hx => by obtain rfl : m = x := (by simpa using hx); exact ⟨hap.out.2, hap.out.1, hmw.out⟩), fun v' g' hc hg => ?_⟩
  all_goals have hc2 := H4.cell (hb4.out.cell 0) (by simp; exact hap.out.2)
  all_goals rw [hc] at hc2
  all_goals injection hc2 with hc2
  all_goals subst hc2
  all_goals obtain rfl : g = g' := by simpa [Value.ownBlock] using hg
  all_goals exact (HNu.out.only ho3.out (by simp; exact HGd.out) HLt.out).only H4 (by simp; exact hgm) (Nat.lt_of_lt_of_le HLt.out ho3.out.size)

def NPPost (d : Nat) (v : Value) (m : Nat) (ns : List Nd) (n : Nd) (w : World) (e : Ending) (w' : World) : Prop := PPost d v (some m) ns n w e w' ∧ NUd w' d
set_option maxHeartbeats 400000 in
theorem dput_nu (d : Nat) (v : Value) (m : Nat) (ns : List Nd) (k : Int) (f : Nat) (a b : Int) (w : World) (hf : Hid (f < 2 ^ 64)) (hd : DagIs w d v (some m) ns) (hnu : Hid (NUd w d)) (hlen : Hid (ns.length < 20000)) (ht : Hid (takesB ns.length k f a b = true)) (hn : Hid ((⟨k, f, a, b⟩ : Nd) ∉ ns)) :
    Calls Tryz.prog 72 #[.pointer (some ⟨d, 0, none⟩), .agg #[.int .i64 k, .float .f64 f, .int .i64 a, .int .i64 b]] w (NPPost d v m ns ⟨k, f, a, b⟩ w) := by
  have ho0 := (Only.refl [] w).alloc (.cells #[.int .i64 k, .float .f64 f, .int .i64 a, .int .i64 b] 95)
  have hd0 := hd.only ho0 (by simp)
  have hn0 := Lib.hid (hnu.out.only hd ho0)
  go_enter Tryz.func72, Tryz.ntmps72
  go_wp2_with fail
  refine (put_nu_some d v m ns k f a b _ hf hd0 (decide_eq_false (by have := hlen.out; omega)) hn0 ht.out hn.out).mono ?_
  rintro e w1 ⟨⟨ev, v1, rfl, hd1, hs1, ho1, _⟩, hn1⟩
  have hst : Hid (Step d v (some m) w v1 w1) := Step.pre ho0 ⟨hs1, ho1⟩
  have hn' := Lib.hid hn1
  clear hs1 ho1 ho0 hn1
  go_wp2_with fail
  go_wp2_with fail
  go_ret
  exact ⟨⟨v1, rfl, hd1, hst.out⟩, hn'.out⟩
set_option maxHeartbeats 400000 in
theorem dleaf_nu (d : Nat) (v : Value) (m : Nat) (ns : List Nd) (f : Nat) (w : World) (hf : Hid (f < 2 ^ 64)) (hd : DagIs w d v (some m) ns) (hnu : Hid (NUd w d)) (hlen : Hid (ns.length < 20000)) (ht : Hid (takesB ns.length 0 f 0 0 = true)) (hn : Hid ((⟨0, f, 0, 0⟩ : Nd) ∉ ns)) :
    Calls Tryz.prog 73 #[.pointer (some ⟨d, 0, none⟩), .float .f64 f] w (NPPost d v m ns ⟨0, f, 0, 0⟩ w) := by
  go_enter Tryz.func73, Tryz.ntmps73
  go_wp2_with fail
  refine (dput_nu d v m ns 0 f 0 0 _ hf hd hnu hlen ht hn).mono ?_
  rintro e w1 ⟨⟨v1, rfl, hd1, hst⟩, hn1⟩
  have hst' := Lib.hid hst
  have hn' := Lib.hid hn1
  clear hst hn1
  go_wp2_with fail
  go_ret
  exact ⟨⟨v1, rfl, hd1, hst'.out⟩, hn'.out⟩
set_option maxHeartbeats 400000 in
theorem droot_nu (d : Nat) (v : Value) (m : Nat) (ns : List Nd) (a : Int) (w : World) (hd : DagIs w d v (some m) ns) (hnu : Hid (NUd w d)) (hlen : Hid (ns.length < 20000)) (ht : Hid (takesB ns.length 5 0 a 0 = true)) (hn : Hid ((⟨5, 0, a, 0⟩ : Nd) ∉ ns)) :
    Calls Tryz.prog 36 #[.pointer (some ⟨d, 0, none⟩), .int .i64 a] w (NPPost d v m ns ⟨5, 0, a, 0⟩ w) := by
  have hz : Hid (0 < 2 ^ 64) := by show 0 < 2 ^ 64; omega
  go_enter Tryz.func36, Tryz.ntmps36
  go_wp2_with fail
  refine (dput_nu d v m ns 5 0 a 0 _ hz hd hnu hlen ht hn).mono ?_
  rintro e w1 ⟨⟨v1, rfl, hd1, hst⟩, hn1⟩
  have hst' := Lib.hid hst
  have hn' := Lib.hid hn1
  clear hst hn1
  go_wp2_with fail
  go_ret
  exact ⟨⟨v1, rfl, hd1, hst'.out⟩, hn'.out⟩
set_option maxHeartbeats 1600000 in
theorem dint_nu (d : Nat) (v : Value) (m : Nat) (ns : List Nd) (x : Int) (f : Nat) (w : World) (hf : Hid (floatOfInt .f64 x = f)) (hf2 : Hid (f < 2 ^ 64)) (h1 : ¬ x < -9007199254740992) (h2 : ¬ 9007199254740992 < x) (hd : Hid (DagIs w d v (some m) ns)) (hnu : Hid (NUd w d)) (hlen : Hid (ns.length < 20000)) (ht : Hid (takesB ns.length 0 f 0 0 = true)) (hn : Hid ((⟨0, f, 0, 0⟩ : Nd) ∉ ns)) :
    Calls Tryz.prog 37 #[.pointer (some ⟨d, 0, none⟩), .int .i64 x] w (NPPost d v m ns ⟨0, f, 0, 0⟩ w) := by
  go_enter Tryz.func37, Tryz.ntmps37
  go_wp2_with fail
  rw [hf.out]
  (with_reducible refine (dleaf_nu d v m ns f _ hf2 hd.out hnu hlen ht hn).mono ?_)
  rintro e w1 ⟨⟨v1, rfl, hd1, hst⟩, hn1⟩
  have hst' := Lib.hid hst
  have hn' := Lib.hid hn1
  clear hst hn1
  go_wp2_with fail
  go_ret
  exact ⟨⟨v1, rfl, hd1, hst'.out⟩, hn'.out⟩
end Go.Proofs.YtigpnopeacicpaaGreatDoor
