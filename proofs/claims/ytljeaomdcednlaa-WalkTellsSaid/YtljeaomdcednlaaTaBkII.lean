/-
  The Book: grow: the walk.
-/
import Derived.Test.YtljeaomdcednlaaTaBkIH
namespace Go.Proofs.Ytljeaomdcednlaa
open Go.RowKit

set_option maxHeartbeats 3200000 in
set_option maxRecDepth 100000 in
theorem grow_any (b : Nat) (A : Option Addr) (c : Nat) (us : List Value) (m : Nat → Nat) (w : World) (hc4 : w.cell? ⟨b, 0, none⟩ = some (.slice A us.length c)) (hb : Hid (b ∉ obs us))
    (hA : Hid (∀ k, k < us.length → ∃ g, A = some ⟨g, 0, none⟩ ∧ g ∉ obs us ∧ w.cell? ⟨g, k, none⟩ = some (us[k]?.getD nilS))) (hl : Hid (∀ i, i < us.length → IntsAt w (us[i]?.getD nilS) (marks i 0 (m i)))) (hlt : Hid (∀ x ∈ obs us, x < w.heap.size))
    (hnd : Hid (obs us).Nodup) (hn : (us.length : Int) ≤ 250) (hm : Hid (∀ k, k < us.length → m k ≤ 800)) :
    Calls Try.prog 34 #[.pointer (some ⟨b, 0, none⟩)] w fun e w' => ∃ o gs, e = .returned o ∧ GrowRel w w' us m us.length o gs := by
  obtain ⟨i0, hi, hz0, hz1, hz2⟩ := list_parts
  go_enter Try.func34, Try.ntmps34
  go_wp2_with fail
  go_loopw [3, 4] (fun o i wr => ∃ (k : Nat) (gs : List Value), k ≤ us.length ∧ i = .int .i64 (k : Int) ∧ GrowRel w wr us m k o gs) (fun _ i _ => us.length - (intOf i).toNat)
  case atStart => exact ⟨0, [], Nat.zero_le _, rfl, Only.refl _ _, fun i hi _ => hl.out i hi, fun i hi => by omega, World.ownsRow_nil _ _ _ _, rfl, fun i hi => by omega, fun i hi => by omega, fun g hg => by simp [Value.ownBlock] at hg⟩
  case round =>
    obtain ⟨k, gs, hk, rfl, hG⟩ := hrel
    have HG := Lib.hid hG
    clear hG
    have c4 := HG.out.only.cell hc4 hb.out
    by_cases hkl : k < us.length
    · obtain ⟨g, rfl, hg, hcell⟩ := hA.out k hkl
      have ck := HG.out.only.cell hcell hg
      have hkk := HG.out.rest k hkl (Nat.le_refl _)
      obtain ⟨B, cB, hu, -⟩ := e_shape hkk
      rw [marks_length] at hu
      have HU := Lib.hid hu
      rw [hu] at ck
      have G0 : Hid (GrowIn wr wr (us[k]?.getD nilS) B (marks k 0 (m k)) (.slice B (m k) cB) (marks k 0 (m k + 0))) := by
        rw [hu] at hkk ⊢
        exact ⟨hkk, .inl rfl, Only.refl _ _, (e_read hkk).2, [], by simp⟩
      have HK := Lib.hid hkk
      have hmk := Lib.hid (hm.out k hkl)
      clear hu hkk hcell
      have hk' : (k : Int) < (us.length : Int) := by omega
      go_wp2_with fail
      clear c4 ck
      obtain ⟨Ao, co, rfl, -⟩ := HG.out.row.shape
      obtain ⟨w0, hw0⟩ : ∃ w0, w0 = wr := ⟨_, rfl⟩
      rw [← hw0] at G0 HK HG
      go_loopw [5, 6] (fun l i wq => ∃ j : Nat, j ≤ 12 ∧ i = .int .i64 (j : Int) ∧ GrowIn w0 wq (us[k]?.getD nilS) B (marks k 0 (m k)) l (marks k 0 (m k + j))) (fun _ i _ => 12 - (intOf i).toNat)
      case atStart => exact ⟨0, Nat.zero_le _, rfl, by rw [← hw0]; exact G0.out⟩
      case round =>
        obtain ⟨j, hj, rfl, hGI⟩ := hrel
        obtain ⟨q, hq⟩ : ∃ q, q = m k + j := ⟨_, rfl⟩
        rw [← hq] at hGI
        have HGI := Lib.hid hGI
        obtain ⟨lB, lc, rfl⟩ := hGI.shape
        have Hq : Hid (q = m k + j ∧ q ≤ 812) := ⟨hq, by have := hmk.out; omega⟩
        clear hGI G0 hw0 hq
        by_cases hjl : j < 12
        · have hjl' : (j : Int) < 12 := by omega
          go_wp2_with fail
          refine (mark_num k q 1 1 _ (by omega) (by have := Hq.out.2; omega) rfl (by omega)).mono ?_
          rintro e w3 ⟨X, cX, rfl, hX, ho3⟩
          have HGI3 := Lib.hid (HGI.out.nil ho3)
          clear ho3
          have HX := Lib.hid hX
          clear hX
          go_wp2_with (at_builtin; refine wpList_push_marks rfl _ _ rfl k q 1 HGI3.out HK.out HU.out rfl X cX rfl HX.out (by decide) (by have := Hq.out.2; omega) ?_; intro g2 cap2 w4 hG4)
          go_roundw
          case rel => exact ⟨j + 1, by omega, by go_num, by rw [show m k + (j + 1) = q + 1 by have := Hq.out.1; omega]; exact hG4⟩
          case measure => simp [intOf]; omega
        · have hnl : ¬ (j : Int) < 12 := by omega
          have hq12 : Hid (q + 60 = m k + 72) := by show _ = _; have := Hq.out.1; omega
          go_wp2_with fail
          refine (mark_num k q 60 60 _ (by omega) (by have := Hq.out.2; omega) rfl (by omega)).mono ?_
          rintro e w3 ⟨X, cX, rfl, hX, ho3⟩
          have HGI3 := Lib.hid (HGI.out.nil ho3)
          clear ho3
          have HX := Lib.hid hX
          clear hX
          go_wp2_with (first
            | (at_builtin; refine wpList_push_marks rfl _ _ rfl k q 60 HGI3.out HK.out HU.out rfl X cX rfl HX.out (by decide) (by have := Hq.out.2; omega) ?_; intro g2 cap2 w4 hG4; have HG4 := Lib.hid hG4; clear hG4; have HR4 := Lib.hid (row_kept HG.out hlt.out hkl HG4.out))
            | (at_builtin; refine wpList_append_lies _ rfl _ _ _ rfl 0 22 i0 _ 1 24 Try.underlying30 hi hz0 hz1 hz2 rfl (by decide) (.slice Ao gs.length co) gs.length gs rfl (by exact HR4.out.alloc _) ⟨w4.heap.size, 0, none⟩ 1 1 [.slice (some ⟨g2, 0, none⟩) (q + 60) cap2] rfl rfl (by exact cell_one_new _ _ _) (by simp [Value.oneCell']) (by decide) (by have := HG.out.glen; simp only [maxLen]; omega) (by have := HG.out.glen; omega) (Nat.zero_le _) (w4.heap.size + 1) (by simp) ?_; intro g5 cap5 w5 hown5 hgr5 hat5 hlt5))
          have hG6 : GrowIn w0 w4 (us[k]?.getD nilS) B (marks k 0 (m k)) (.slice (some ⟨g2, 0, none⟩) (q + 60) cap2) (marks k 0 (m k + 72)) := by
            have h := HG4.out
            rw [show marks k 0 (q + 60) = marks k 0 (m k + 72) by rw [hq12.out]] at h
            exact h
          have hR := HG.out.next hlt.out hnd.out hkl HU.out hG6 hown5 hgr5 hat5
          go_roundw
          case rel => exact ⟨k + 1, _, by omega, by go_num, hR⟩
          case measure => simp [intOf]; omega
    · have hnl : ¬ (k : Int) < (us.length : Int) := by omega
      obtain rfl : k = us.length := by omega
      go_wp2_with fail
      go_returns
      exact ⟨_, rfl, gs, HG.out⟩
end Go.Proofs.Ytljeaomdcednlaa
