/-
  (*plain).put of a node that may be put, equal nodes shared.
-/
import Derived.Test.YtkiongpfpjfaaaaDoorPlainB
namespace Go.Proofs.YtkiongpfpjfaaaaDoor
open Go.RowKit

theorem idx_lt {n : Nd} : ∀ {ns : List Nd} {k : Nat} (h : k < ns.length) (_ : k < ns.idxOf n), ¬ ns[k] = n
  | [], k, h, _ => by simp at h
  | m :: r, 0, _, h1 => by
    intro e
    have e' : m = n := e
    subst e'
    simp at h1
  | m :: r, k + 1, h, h1 => by
    by_cases e : m = n
    · subst e; simp at h1
    · have hb : (m == n) = false := by simpa using e
      have h2 : k < r.idxOf n := by
        rw [List.idxOf_cons, hb] at h1
        simpa using h1
      have h3 : k < r.length := by simpa using h
      have := idx_lt h3 h2
      simpa using this
theorem idx_first {ns : List Nd} {n : Nd} {k : Nat} (hk : k < ns.length) (hlt : ∀ j, j < k → ns[j]?.getD nd0 ≠ n) (h : ns[k]?.getD nd0 = n) : n ∈ ns ∧ ns.idxOf n = k := by
  rw [List.getElem?_eq_getElem hk] at h
  have h' : ns[k] = n := by simpa using h
  refine ⟨by rw [← h']; exact List.getElem_mem hk, ?_⟩
  have hle : ns.idxOf n ≤ k := by
    rcases Nat.lt_or_ge k (ns.idxOf n) with h1 | h1
    · exact absurd h' (idx_lt hk h1)
    · exact h1
  rcases Nat.lt_or_ge (ns.idxOf n) k with h1 | h1
  · have h2 := hlt _ h1
    rw [List.getElem?_eq_getElem (by omega)] at h2
    exact absurd (by simp) h2
  · omega
theorem not_in {ns : List Nd} {n : Nd} (hlt : ∀ j, j < ns.length → ns[j]?.getD nd0 ≠ n) : n ∉ ns := by
  intro h
  have h1 := List.idxOf_lt_length_iff.2 h
  have h2 := hlt _ h1
  rw [List.getElem?_eq_getElem h1] at h2
  exact absurd (by simp) h2
theorem sameB_eq {x : Nd} {k : Int} {f : Nat} {a b : Int} : sameB x.k x.f x.a x.b k f a b = decide (x = ⟨k, f, a, b⟩) := by
  obtain ⟨k', f', a', b'⟩ := x
  simp [sameB]

set_option maxHeartbeats 3200000 in
set_option maxRecDepth 100000 in
theorem pput_some (p : Nat) (v : Value) (ns : List Nd) (k : Int) (f : Nat) (a b : Int) (w : World) (hd : PlainIs w p v true ns) (hlen : Hid (ns.length < 20000)) (ht : takesB ns.length k f a b = true) :
    Calls Tryd.prog 8 #[.pointer (some ⟨p, 0, none⟩), .agg #[.int .i64 k, .float .f64 f, .int .i64 a, .int .i64 b]] w (PlPost p v true ns ⟨k, f, a, b⟩ w) := by
  obtain ⟨A, c, rfl, _⟩ := hd.shape
  obtain ⟨i0, hi, hz0, hz1, hz2⟩ := info_parts Tryd.nodeInfo
  have h0 : w.cell? ⟨p, 0, none⟩ = some (.slice A ns.length c) := hd.blk.cell 0
  have hB := Blk.new w 43 [.int .i64 k, .float .f64 f, .int .i64 a, .int .i64 b]
  have ho0 := (Only.refl [] w).alloc (.cells #[.int .i64 k, .float .f64 f, .int .i64 a, .int .i64 b] 43)
  have h0' := fun g => Ext.cell (ho0.cell h0 (by simp)) g
  obtain ⟨b0', b1', b2', b3'⟩ := box_cells hB (Only.refl [] _) (by simp)
  have b0 := fun g => Ext.cell b0' g
  have b1 := fun g => Ext.cell b1' g
  have b2 := fun g => Ext.cell b2' g
  have b3 := fun g => Ext.cell b3' g
  have M0 : Hid (Mid w (w.alloc (.cells #[.int .i64 k, .float .f64 f, .int .i64 a, .int .i64 b] 43)) p (.slice A ns.length c) true ns k f a b) := ⟨ho0, hB, hd.only ho0 (by simp)⟩
  clear b0' b1' b2' b3'
  have hfine := fine_of _ _ _ _ _ ht
  have Ht := Lib.hid ht
  clear ht
  unfold Fine at hfine
  have split : (validB k f a b = true ∧ (k == 0) = true ∧ (k != 0) = false ∧ finB f = true) ∨ (validB k f a b = true ∧ (k == 0) = false ∧ (k != 0) = true ∧ (k != 5) = false ∧ decide ((ns.length : Int) ≤ a) = false) ∨
      (validB k f a b = true ∧ (k == 0) = false ∧ (k != 0) = true ∧ (k != 5) = true ∧ decide ((ns.length : Int) ≤ a) = false ∧ decide ((ns.length : Int) ≤ b) = false) := by
    rcases hfine with ⟨hv, hk, hf⟩ | ⟨hv, hk, ha⟩ | ⟨hv, hk, hk5, ha, hb⟩
    · exact .inl ⟨hv, by simpa using hk, by simpa using hk, hf⟩
    · exact .inr (.inl ⟨hv, by simp; omega, by simp; omega, by simpa using hk, by simpa using ha⟩)
    · exact .inr (.inr ⟨hv, by simpa using hk, by simpa using hk, by simpa using hk5, by simpa using ha, by simpa using hb⟩)
  clear hfine
  rcases split with ⟨hv, g0, g1, g2⟩ | ⟨hv, g0, g1, g2, g3⟩ | ⟨hv, g0, g1, g2, g3, g4⟩
  all_goals
    go_enter Tryd.func8, Tryd.ntmps8
    go_wp2_with fail
    refine wp_region_ext (by kernel_rfl) (by kernel_rfl) ?_
    repeat (any_goals (first | go_big_quiet_step (first | (go_at_call 30; exact ext_of (rvalid_any _ _ _ _ _)) | (go_at_call 31; exact ext_of_same (rfinite_any _ _)))))
    refine wpQuiet_nil ?_
    intro _ hw'
    obtain ⟨gx, hw''⟩ := hw'
    subst hw''
    have M := Lib.hid (M0.out.only gx.ho)
    generalize gx.w = w2 at M ⊢
    clear b0 b1 b2 b3 h0' gx
    have c0 : w2.cell? ⟨p, 0, none⟩ = some (.slice A ns.length c) := M.out.is.blk.cell 0
    have c1 : w2.cell? ⟨p, 1, none⟩ = some (.bool true) := M.out.is.blk.cell 1
    go_wp2_with fail
    clear c0 c1 hv g0 g1 g2
    try clear g3
    try clear g4
    go_loopw [5] (fun i wr => ∃ j : Nat, j ≤ ns.length ∧ i = .int .i64 (j : Int) ∧ Mid w wr p (.slice A ns.length c) true ns k f a b ∧ (∀ q, q < j → ns[q]?.getD nd0 ≠ ⟨k, f, a, b⟩)) (fun i _ => ns.length - (intOf i).toNat)
    case atStart => exact ⟨0, Nat.zero_le _, rfl, M.out, fun q hq => by omega⟩
    case round =>
      obtain ⟨j, hj, rfl, hM, hall⟩ := hrel
      have HM := Lib.hid hM
      have Hall := Lib.hid hall
      clear hM hall
      have c0 : wr.cell? ⟨p, 0, none⟩ = some (.slice A ns.length c) := HM.out.is.blk.cell 0
      have c1 : wr.cell? ⟨p, 1, none⟩ = some (.bool true) := HM.out.is.blk.cell 1
      by_cases hlt : j < ns.length
      · have hlt' : (j : Int) < (ns.length : Int) := by omega
        obtain ⟨A', c', e, hcell⟩ := HM.out.is.shape
        injection e with e1 _ e2
        subst e1 e2
        obtain ⟨g, rfl, n0, n1, n2, n3⟩ := hcell j hlt
        obtain ⟨q0, q1, q2, q3⟩ := box_cells HM.out.box (Only.refl [] _) (by simp)
        have c0' := fun g => Ext.cell c0 g
        have n0' := fun g => Ext.cell n0 g
        have n1' := fun g => Ext.cell n1 g
        have n2' := fun g => Ext.cell n2 g
        have n3' := fun g => Ext.cell n3 g
        have q0' := fun g => Ext.cell q0 g
        have q1' := fun g => Ext.cell q1 g
        have q2' := fun g => Ext.cell q2 g
        have q3' := fun g => Ext.cell q3 g
        clear n0 n1 n2 n3 q0 q1 q2 q3 hcell
        have hsame := @sameB_eq (ns[j]?.getD nd0) k f a b
        have Hidx := Lib.hid (@idx_first ns ⟨k, f, a, b⟩ j hlt Hall.out)
        have Hj : Hid (ns[j]?.getD nd0 ≠ ⟨k, f, a, b⟩ → ∀ q, q < j + 1 → ns[q]?.getD nd0 ≠ ⟨k, f, a, b⟩) := by
          intro h q hq
          by_cases e : q = j
          · exact e ▸ h
          · exact Hall.out q (by omega)
        generalize ns[j]?.getD nd0 = m at n0' n1' n2' n3' hsame Hidx Hj
        clear hB ho0 h0 hd M0 M
        have Hsame := Lib.hid hsame
        clear hsame
        go_wp2_with fail
        clear c0 c1
        refine wp_region_ext (by kernel_rfl) (by kernel_rfl) ?_
        repeat (any_goals (first | go_big_quiet_step ((go_at_call 16; exact ext_of (same_any _ _ _ _ _ _ _ _ _))) | quiet_step ((go_at_call 16; exact ext_of (same_any _ _ _ _ _ _ _ _ _))) | (refine wpQuiet_step (fun K hK => ?_); go_simp; split <;> (refine hK _ ?_; clear hK K))))
        all_goals (refine wpQuiet_nil ?_; intro _ hw'; obtain ⟨gx, hw''⟩ := hw'; subst hw'')
        have M := Lib.hid (HM.out.only gx.ho)
        generalize gx.w = w3 at M ⊢
        clear c0' n0' n1' n2' n3' q0' q1' q2' q3' gx HM
        by_cases hm : m = ⟨k, f, a, b⟩
        · have hs : sameB m.k m.f m.a m.b k f a b = true := by rw [Hsame.out]; simp [hm]
          have Hpost := Lib.hid (Hidx.out hm)
          have e1 : Hid (putId (shr true) ns ⟨k, f, a, b⟩ = (j : Int)) := by show _ = _; unfold putId; rw [if_pos Ht.out, if_pos ⟨by simp [shr], Hpost.out.1⟩, Hpost.out.2]
          have e2 : Hid (putNs (shr true) ns ⟨k, f, a, b⟩ = ns) := by show _ = _; unfold putNs; rw [if_pos Ht.out, if_pos ⟨by simp [shr], Hpost.out.1⟩]
          simp only [hs]
          clear hs
          go_wp2_with fail
          go_ret
          exact pl_ret (x := (j : Int)) ⟨_, by rw [e1.out], by rw [e2.out]; exact M.out.is, .inl rfl, M.out.ho.mono (by simp)⟩
        · have hs : sameB m.k m.f m.a m.b k f a b = false := by rw [Hsame.out]; simp [hm]
          have Hm := Lib.hid hm
          clear hm
          simp only [hs]
          clear hs
          have hj20 : (j : Int) + 1 ≤ 20000 := by have := hlen.out; omega
          go_wp2_with fail
          go_roundw
          case rel =>
            exact ⟨j + 1, by omega, by go_num, M.out, Hj.out Hm.out⟩
          case measure => simp [intOf]; omega
      · have hnl : ¬ (j : Int) < (ns.length : Int) := by omega
        have hnin := Lib.hid (@not_in ns ⟨k, f, a, b⟩ (fun q hq => Hall.out q (by omega)))
        clear hB ho0 h0 hd M0 M
        go_wp2_with fail
        all_goals clear c0 c1
        have hd2 := HM.out.is
        have hT := Lib.hid HM.out.ho
        have c0 : wr.cell? ⟨p, 0, none⟩ = some (.slice A ns.length c) := hd2.blk.cell 0
        obtain ⟨q0, q1, q2, q3⟩ := box_cells HM.out.box (Only.refl [] _) (by simp)
        have cA := ((Only.refl [] wr).alloc (.cells #[.int .i64 k, .float .f64 f, .int .i64 a, .int .i64 b] 43)).cell c0 (by simp)
        have hl' := hlen.out
        go_region_law (first | (refine step_append_lies _ rfl (.tmp 79) (.tmp 81) 22 rfl 0 43 i0 _ 4 32 Tryd.underlying22 hi hz0 hz1 hz2 rfl (by decide) (.slice A ns.length c) ns.length (flat ns) rfl (by exact hd2.row.alloc _) ⟨wr.heap.size, 0, none⟩ 1 1 [.int .i64 k, .float .f64 f, .int .i64 a, .int .i64 b] rfl rfl (by exact news4 (heap_alloc_new wr _)) (by simp [Value.oneCell']) (by decide) (by simp only [maxLen]; omega) (by omega) (Nat.zero_le _) (wr.heap.size + 1) (by simp) ?_; intro g cap w3 hown3 hgrow3 hat3 hlt3; have hb3 : Blk w3 p 28 [.slice A ns.length c, .bool true] := ((hd2.blk.alloc _).drew).grown hgrow3 hd2.apart; have a0 := hb3.cell 0; have a1 := hb3.frozen 0; simp only [List.getElem?_cons_zero] at a0))
        all_goals go_wp2_with fail
        all_goals go_ret
        all_goals exact pl_ret (pl_close (n := ⟨k, f, a, b⟩) hT.out hd2 hown3 hgrow3 hat3 Ht.out (by simp [shr, hnin.out]) rfl)

theorem pput_any (p : Nat) (v : Value) (same : Bool) (ns : List Nd) (k : Int) (f : Nat) (a b : Int) (w : World) (hd : PlainIs w p v same ns) (hlen : Hid (ns.length < 20000)) :
    Calls Tryd.prog 8 #[.pointer (some ⟨p, 0, none⟩), .agg #[.int .i64 k, .float .f64 f, .int .i64 a, .int .i64 b]] w (PlPost p v same ns ⟨k, f, a, b⟩ w) := by
  cases ht : takesB ns.length k f a b
  · exact pput_bad p v same ns k f a b w hd ht
  · cases same
    · exact pput_none p v ns k f a b w hd hlen ht
    · exact pput_some p v ns k f a b w hd hlen ht
end Go.Proofs.YtkiongpfpjfaaaaDoor
