/-
  DagMakes: the law's walk, no ids.
-/
import Derived.Test.YtkiongpfpjfaaaaMakesB
import Derived.Deep.DeepCutAuto
namespace Go.Proofs.Ytkiongpfpjfaaaa
open Go.RowKit

set_option maxRecDepth 100000 in
set_option maxHeartbeats 3200000 in
theorem makes_nil (A B : Option Addr) (L : List Nat) (c c' : Nat) (x : Int) (w : World) (h1 : ¬ (20 : Int) < (L.length : Int))
    (hin : Hid (∀ k, k < L.length → ∃ b o, A = some ⟨b, o, none⟩ ∧ w.cell? ⟨b, o + k, none⟩ = some (.float .f64 (L[k]?.getD 0)) ∧ L[k]?.getD 0 < 2 ^ 64)) :
    Calls Try.prog 6 #[.slice A L.length c, .int .i64 x, .slice B 0 c'] w fun e w' => e = .returned (.bool true) ∧ Only [] w w' := by
  have hL : Hid (L.length ≤ 20) := by show _ ≤ _; omega
  go_enter Try.func6, Try.ntmps6
  go_wp2_with (go_at_call 7; (with_reducible refine (alive_any _).mono ?_); rintro e w1 ⟨rfl, ho1⟩)
  refine (new_any false _).mono ?_
  rintro e w2 ⟨r, rfl, hd2, hr2, hm2, ho2⟩
  obtain rfl : r = none := hr2.2 rfl
  have A2 := Lib.hid (own_new hd2 hm2 ho2)
  have HO1 := Lib.hid ho1
  clear hd2 hm2 ho2 hr2 ho1
  go_wp2_with fail
  have P0 := Lib.hid (Pair.new A2.out (Blk.new w2 51 [.slice none 0 0, .bool false]) ((Only.refl [] w2).alloc (.cells #[.slice none 0 0, .bool false] 51)))
  generalize hp : w2.heap.size = p at P0 ⊢
  clear hp A2
  go_loopw [9] (fun i wr => ∃ k : Nat, k ≤ L.length ∧ i = .int .i64 (k : Int) ∧ MRel w1 w1.heap.size p L k wr) (fun i _ => L.length - (intOf i).toNat)
  case atStart => exact ⟨0, Nat.zero_le _, rfl, _, _, P0⟩
  case round =>
    obtain ⟨k, hk, rfl, v, u, HP⟩ := hrel
    clear P0
    by_cases hlt : k < L.length
    · skip
      obtain ⟨b, o, rfl, hc0, hx⟩ := hin.out k hlt
      have HX := Lib.hid hx
      have Hc0 := Lib.hid (HO1.out.cell hc0 (by simp))
      have hc1 := HP.out.cell Hc0.out
      have hsn : mk (L.take (k + 1)) = putNs none (mk (L.take k)) ⟨0, L[k]?.getD 0, 0, 0⟩ := by
        rw [List.take_succ_eq_append_getElem hlt, mk_snoc]
        simp [hlt]
      have hle := mk_le (L.take k)
      rw [List.length_take] at hle
      have hl : Hid ((mk (L.take k)).length < 20000) := by show _ < _; have := hL.out; omega
      have Hsn := Lib.hid hsn
      clear hle hsn hc0 hx hin
      generalize L[k]?.getD 0 = y at *
      generalize mk (L.take k) = ns at *
      have hk' : (k : Int) < (L.length : Int) := by omega
      go_wp2_with fail
      go_region_held3 (fun w' => w'.cell? ⟨b, o + k, none⟩ = some (.float .f64 y)) (go_keep) (first | (go_at_call 21; refine (put_dp HP.out.drew (dleaf_any _ v none ns y _ HX HP.out.drew.a.is hl)).mono ?_; rintro e w3 ⟨v3, rfl, HP3⟩; have c3 := HP3.out.cell Hc0.out) | (go_at_call 22; refine (put_pp HP3.out hl).mono ?_; rintro e w4 ⟨u4, rfl, HP4⟩; have c4 := HP4.out.cell Hc0.out))
      go_wp2_with fail
      go_roundw
      case rel =>
        refine ⟨k + 1, by omega, by go_num, v3, u4, ?_⟩
        rw [Hsn.out]
        exact HP4
      case measure => simp [intOf]; omega
    · skip
      have hk' : k = L.length := by omega
      have hnl : ¬ (k : Int) < (L.length : Int) := by omega
      rw [hk', List.take_length] at HP
      have hl : Hid ((mk L).length ≤ 20) := by show _ ≤ _; have := mk_le L; have := hL.out; omega
      clear hk' hk hlt hL hin
      generalize mk L = ns at *
      have hlw : Hid ((wNs ns x).length ≤ 21) := by show _ ≤ _; have := wNs_le ns x; have := hl.out; omega
      have hll : Hid (ns.length < 20000) := by show _ < _; have := hl.out; omega
      go_upto_region 13 with fail
      go_cut [61] (fun s wx => s = .bool (inR x) ∧ wx = wr)
      case first =>
        go_wp2_with fail
        all_goals go_meet
        all_goals refine ⟨?_, rfl⟩
        all_goals simp [inR]
        all_goals omega
      obtain ⟨rfl, rfl⟩ := hcut
      go_upto_if 61 with fail
      go_cut [10] (fun s wx => s = .int .i64 (wId ns x) ∧ ∃ u5, Hid (Pair w1 wx w1.heap.size v ns p u5 (wNs ns x)))
      case first =>
        cases hr : inR x
        · have e1 : wNs ns x = ns := by simp [wNs, hr]
          have e2 : wId ns x = -1 := by simp [wId, hr]
          go_wp2_with fail
          go_meet
          exact ⟨by rw [e2], u, by rw [e1]; exact HP⟩
        · have e1 : putNs none ns ⟨0, floatOfInt .f64 x, 0, 0⟩ = wNs ns x := by simp [wNs, hr]
          have e2 : putId none ns ⟨0, floatOfInt .f64 x, 0, 0⟩ = wId ns x := by simp [wId, hr]
          go_wp2_with fail
          refine (put_pp HP.out hll).mono ?_
          rintro e w4 ⟨u4, rfl, HP4⟩
          rw [e1] at HP4
          rw [e2]
          clear e1 e2
          go_wp2_with fail
          go_meet
          exact ⟨rfl, u4, HP4⟩
      case rest =>
        obtain ⟨rfl, u5, HP4⟩ := hcut
        go_wp2_with fail
        refine (int_dp HP4.out hll).mono ?_
        rintro e w5 ⟨v5, rfl, HP5⟩
        clear hl hll HP4 HP
        generalize wNs ns x = ns1 at *
        generalize wId ns x = iw at *
        go_wp2_with fail
        have l1 : Hid (ns1.length < 20000) := by show _ < _; have := hlw.out; omega
        have l2 : Hid ((putNs none ns1 ⟨0, 0, 0, 0⟩).length < 20000) := by show _ < _; have := hlw.out; have := putNs_le none ns1 ⟨0, 0, 0, 0⟩; omega
        have l3 : (putNs none (putNs none ns1 ⟨0, 0, 0, 0⟩) ⟨0, 4607182418800017408, 0, 0⟩).length ≤ 23 := by have := hlw.out; have := putNs_le none ns1 ⟨0, 0, 0, 0⟩; have := putNs_le none (putNs none ns1 ⟨0, 0, 0, 0⟩) ⟨0, 4607182418800017408, 0, 0⟩; omega
        have l4 := Lib.hid l3
        clear l3
        go_region_with (first
          | (go_at_call 24; refine (put_dp HP5.out.drew (dadd_nil _ v5 none ns1 _ HP5.out.drew.a.is l1)).mono ?_; rintro e wa ⟨va, rfl, HPa⟩)
          | (go_at_call 22; refine (put_pp HPc.out l2).mono ?_; rintro e wd ⟨ud, rfl, HPd⟩; obtain ⟨Ad, cd, rfl, _⟩ := HPd.out.b.shape; have cp := HPd.out.b.blk.cell 0)
          | (go_at_call 25; refine (put_dp HPb.out (dmul_nil _ va none _ _ HPb.out.a.is l2)).mono ?_; rintro e wc ⟨vc, rfl, HPc⟩)
          | (go_at_call 22; refine (put_pp HPa.out l1).mono ?_; rintro e wb ⟨ub, rfl, HPb⟩)
          | (go_at_call 10; refine (dall_any _ vc none _ _ HPd.out.a.is (by have := l4.out; show _ < _; omega)).mono ?_; rintro e we ⟨ue, rfl, hne, _, hoe⟩; obtain ⟨Ae, ce, rfl, _⟩ := hne.shape; have cp2 := hoe.cell cp (by simp))
          | (go_at_call 26; refine (samenodes_any Ae Ad ce cd _ _ hne.read.2 ((show NodesAt _ _ _ from HPd.out.b.row).only hoe (by simp)).read.2 (by have := l4.out; omega)).mono ?_; rintro e wf ⟨rfl, hof⟩))
        all_goals go_wp2_with fail
        all_goals go_ret
        all_goals exact ⟨by first | (simp; done) | rfl | (simp; rfl) | (simp [Act.put]; done), HO1.out.nil_trans (HPd.out.a.only.nil_trans (hoe.nil_trans hof))⟩
end Go.Proofs.Ytkiongpfpjfaaaa
