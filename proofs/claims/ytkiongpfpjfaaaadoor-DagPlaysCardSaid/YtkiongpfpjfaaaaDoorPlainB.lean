/-
  (*plain).put of a node that may be put.
-/
import Derived.Test.YtkiongpfpjfaaaaDoorPlain
namespace Go.Proofs.YtkiongpfpjfaaaaDoor
open Go.RowKit

theorem pl_close {w w2 w3 w4 : World} {p : Nat} {v : Value} {same : Bool} {ns : List Nd} {n : Nd} {g cap : Nat} {o : Obj} (hT : Only [] w w2) (hd2 : PlainIs w2 p v same ns)
    (hown3 : w3.ownsRow 0 43 4 (.slice (some ⟨g, 0, none⟩) (ns.length + 1) cap) (ns.length + 1) (flat ns ++ n.cells)) (hgrow3 : (w2.alloc o).drew.grownBy w3 v.ownBlock)
    (hat3 : v.ownBlock = some g ∨ g = w2.heap.size + 1) (hnew : takesB ns.length n.k n.f n.a n.b = true) (hn : ¬ (shr same ≠ none ∧ n ∈ ns))
    (h4 : w4 = w3.setCell ⟨p, 0, none⟩ (.slice (some ⟨g, 0, none⟩) (ns.length + 1) cap)) :
    PlPost p v same ns n w (.returned (.int .i64 (ns.length : Int))) w4 := by
  subst h4
  have hb3 : Blk w3 p 28 [v, .bool same] := ((hd2.blk.alloc o).drew).grown hgrow3 hd2.apart
  have hgp := row_apart' hown3 hb3 (by decide)
  have e1 : putId (shr same) ns n = (ns.length : Int) := by unfold putId; rw [if_pos hnew, if_neg hn]
  have e2 : putNs (shr same) ns n = ns ++ [n] := by unfold putNs; rw [if_pos hnew, if_neg hn]
  have hb4 : Blk (w3.setCell ⟨p, 0, none⟩ (.slice (some ⟨g, 0, none⟩) (ns.length + 1) cap)) p 28 [.slice (some ⟨g, 0, none⟩) (ns.length + 1) cap, .bool same] := hb3.set_ 0 _
  have ho3 : Only [p] w3 (w3.setCell ⟨p, 0, none⟩ (.slice (some ⟨g, 0, none⟩) (ns.length + 1) cap)) := (Only.refl [p] w3).setCell (.inl (by simp)) _
  have hTT : Only (foot p v none) w w3 := ((hT.mono (by simp)).alloc o).drew.trans (Only.of_grown (S := v.ownBlock.toList) hgrow3 (by simp)) (fun k hk => .inl (by simp [foot] at hk ⊢; simp [hk]))
  refine ⟨.slice (some ⟨g, 0, none⟩) (ns.length + 1) cap, by rw [e1], ?_, ?_, ?_⟩
  · rw [e2]
    refine ⟨hb4, ?_⟩
    rw [flat_snoc, List.length_append, List.length_singleton]
    refine ownsRow_only hown3 ho3 ?_
    intro k hk hm
    have : k = p := by simpa using hm
    subst this
    exact hgp hk
  · rcases hat3 with h | h
    · exact .inl (by rw [h]; rfl)
    · exact .inr ⟨g, Nat.le_trans hT.size (by omega), rfl⟩
  · exact hTT.setCell (.inl (by simp [foot])) _

/-- Where the loop and the append stand: the box and the struct in a world that is w but for new blocks. -/
structure Mid (w w2 : World) (p : Nat) (v : Value) (same : Bool) (ns : List Nd) (k : Int) (f : Nat) (a b : Int) : Prop where
  ho : Only [] w w2
  box : Blk w2 w.heap.size 43 [.int .i64 k, .float .f64 f, .int .i64 a, .int .i64 b]
  is : PlainIs w2 p v same ns
theorem Mid.only {w w2 w3 : World} {p : Nat} {v : Value} {same : Bool} {ns : List Nd} {k : Int} {f : Nat} {a b : Int} (h : Mid w w2 p v same ns k f a b) (ho : Only [] w2 w3) : Mid w w3 p v same ns k f a b :=
  ⟨h.ho.nil_trans ho, h.box.only ho (by simp), h.is.only ho (by simp)⟩

theorem pl_ret {p : Nat} {v : Value} {same : Bool} {ns : List Nd} {n : Nd} {w w' : World} {x : Int} {e : Ending} (h : PlPost p v same ns n w (.returned (.int .i64 x)) w') (he : e = .returned (.int .i64 x) := by first | rfl | simp) : PlPost p v same ns n w e w' := by
  rw [he]; exact h

set_option maxHeartbeats 1600000 in
set_option maxRecDepth 100000 in
theorem pput_none (p : Nat) (v : Value) (ns : List Nd) (k : Int) (f : Nat) (a b : Int) (w : World) (hd : PlainIs w p v false ns) (hlen : Hid (ns.length < 20000)) (ht : takesB ns.length k f a b = true) :
    Calls Tryd.prog 8 #[.pointer (some ⟨p, 0, none⟩), .agg #[.int .i64 k, .float .f64 f, .int .i64 a, .int .i64 b]] w (PlPost p v false ns ⟨k, f, a, b⟩ w) := by
  obtain ⟨A, c, rfl, _⟩ := hd.shape
  obtain ⟨i0, hi, hz0, hz1, hz2⟩ := info_parts Tryd.nodeInfo
  have h0 : w.cell? ⟨p, 0, none⟩ = some (.slice A ns.length c) := hd.blk.cell 0
  have hB := Blk.new w 43 [.int .i64 k, .float .f64 f, .int .i64 a, .int .i64 b]
  have ho0 := (Only.refl [] w).alloc (.cells #[.int .i64 k, .float .f64 f, .int .i64 a, .int .i64 b] 43)
  have h0' := fun g => Ext.cell (ho0.cell h0 (by simp)) g
  obtain ⟨b0', b1', b2', b3'⟩ := box_cells hB (Only.refl [] _) (by simp)
  have b0 := fun g => Ext.cell b0' g
  have b1 := fun g => Ext.cell b1' g
  have b2 := fun g => Ext.cell b2' g
  have b3 := fun g => Ext.cell b3' g
  have M0 : Hid (Mid w (w.alloc (.cells #[.int .i64 k, .float .f64 f, .int .i64 a, .int .i64 b] 43)) p (.slice A ns.length c) false ns k f a b) := ⟨ho0, hB, hd.only ho0 (by simp)⟩
  clear b0' b1' b2' b3'
  have hfine := fine_of _ _ _ _ _ ht
  have Ht := Lib.hid ht
  clear ht
  unfold Fine at hfine
  have split : (validB k f a b = true ∧ (k == 0) = true ∧ (k != 0) = false ∧ finB f = true) ∨ (validB k f a b = true ∧ (k == 0) = false ∧ (k != 0) = true ∧ (k != 5) = false ∧ decide ((ns.length : Int) ≤ a) = false) ∨
      (validB k f a b = true ∧ (k == 0) = false ∧ (k != 0) = true ∧ (k != 5) = true ∧ decide ((ns.length : Int) ≤ a) = false ∧ decide ((ns.length : Int) ≤ b) = false) := by
    rcases hfine with ⟨hv, hk, hf⟩ | ⟨hv, hk, ha⟩ | ⟨hv, hk, hk5, ha, hb⟩
    · exact .inl ⟨hv, by simpa using hk, by simpa using hk, hf⟩
    · exact .inr (.inl ⟨hv, by simp; omega, by simp; omega, by simpa using hk, by simpa using ha⟩)
    · exact .inr (.inr ⟨hv, by simpa using hk, by simpa using hk, by simpa using hk5, by simpa using ha, by simpa using hb⟩)
  clear hfine
  rcases split with ⟨hv, g0, g1, g2⟩ | ⟨hv, g0, g1, g2, g3⟩ | ⟨hv, g0, g1, g2, g3, g4⟩
  all_goals
    go_enter Tryd.func8, Tryd.ntmps8
    go_wp2_with fail
    refine wp_region_ext (by kernel_rfl) (by kernel_rfl) ?_
    repeat (any_goals (first | go_big_quiet_step (first | (go_at_call 30; exact ext_of (rvalid_any _ _ _ _ _)) | (go_at_call 31; exact ext_of_same (rfinite_any _ _)))))
    refine wpQuiet_nil ?_
    intro _ hw'
    obtain ⟨gx, hw''⟩ := hw'
    subst hw''
    have M := Lib.hid (M0.out.only gx.ho)
    generalize gx.w = w2 at M ⊢
    clear b0 b1 b2 b3 h0' gx
    have c0 : w2.cell? ⟨p, 0, none⟩ = some (.slice A ns.length c) := M.out.is.blk.cell 0
    have c1 : w2.cell? ⟨p, 1, none⟩ = some (.bool false) := M.out.is.blk.cell 1
    go_wp2_with fail
    go_loopw [5] (fun i wr => i = .int .i64 0 ∧ wr = w2) (fun _ _ => 0)
    case atStart => exact ⟨rfl, rfl⟩
    case round =>
      obtain ⟨rfl, rfl⟩ := hrel
      go_wp2_with fail
      all_goals clear c0 c1
      all_goals have hd2 := M.out.is
      all_goals have hT := Lib.hid M.out.ho
      all_goals have c0 : wr.cell? ⟨p, 0, none⟩ = some (.slice A ns.length c) := hd2.blk.cell 0
      all_goals obtain ⟨q0, q1, q2, q3⟩ := box_cells M.out.box (Only.refl [] _) (by simp)
      all_goals have cA := ((Only.refl [] wr).alloc (.cells #[.int .i64 k, .float .f64 f, .int .i64 a, .int .i64 b] 43)).cell c0 (by simp)
      all_goals have hl' := hlen.out
      all_goals go_region_law (first | (refine step_append_lies _ rfl (.tmp 79) (.tmp 81) 22 rfl 0 43 i0 _ 4 32 Tryd.underlying22 hi hz0 hz1 hz2 rfl (by decide) (.slice A ns.length c) ns.length (flat ns) rfl (by exact hd2.row.alloc _) ⟨wr.heap.size, 0, none⟩ 1 1 [.int .i64 k, .float .f64 f, .int .i64 a, .int .i64 b] rfl rfl (by exact news4 (heap_alloc_new wr _)) (by simp [Value.oneCell']) (by decide) (by simp only [maxLen]; omega) (by omega) (Nat.zero_le _) (wr.heap.size + 1) (by simp) ?_; intro g cap w3 hown3 hgrow3 hat3 hlt3; have hb3 : Blk w3 p 28 [.slice A ns.length c, .bool false] := ((hd2.blk.alloc _).drew).grown hgrow3 hd2.apart; have a0 := hb3.cell 0; have a1 := hb3.frozen 0; simp only [List.getElem?_cons_zero] at a0))
      all_goals go_wp2_with fail
      all_goals go_ret
      all_goals exact pl_ret (pl_close (n := ⟨k, f, a, b⟩) hT.out hd2 hown3 hgrow3 hat3 Ht.out (by simp [shr]) rfl)
end Go.Proofs.YtkiongpfpjfaaaaDoor
