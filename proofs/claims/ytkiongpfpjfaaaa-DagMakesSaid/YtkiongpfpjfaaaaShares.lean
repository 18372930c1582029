/-
  DagShares: build, and the law's walk.
-/
import Derived.Test.YtkiongpfpjfaaaaSharesA
namespace Go.Proofs.Ytkiongpfpjfaaaa
open Go.RowKit

def BRel (d : Nat) (v : Value) (r : Option Nat) (ns : List Nd) (L : List Int) (w : World) (k : Nat) (id : Value) (wr : World) : Prop :=
  ∃ v', id = .int .i64 (buildRun r ns (L.take k)).2 ∧ DagIs wr d v' r (buildRun r ns (L.take k)).1 ∧ Step d v r w v' wr

theorem hl_of {n : Nat} (h : n < 20000) : Hid (n < 20000) := h
theorem step_notin {d : Nat} {v v1 : Value} {r : Option Nat} {w w1 : World} {b : Nat} (h : Step d v r w v1 w1) (hb : b ∉ foot d v r) (hlt : b < w.heap.size) : b ∉ foot d v1 r := fun hm => by
  rcases h.foot b hm with h | h
  · exact hb h
  · omega

set_option maxRecDepth 100000 in
set_option maxHeartbeats 3200000 in
theorem build_any (d : Nat) (v : Value) (r : Option Nat) (ns : List Nd) (b o c : Nat) (L : List Int) (w : World) (hd : DagIs w d v r ns) (hlen : Hid (ns.length + 1 + 2 * L.length ≤ 10000))
    (hin : Hid (∀ j, j < L.length → w.cell? ⟨b, o + j, none⟩ = some (.int .i64 (L[j]?.getD 0)))) (hb : Hid (b ∉ foot d v r)) :
    Calls Try.prog 20 #[.pointer (some ⟨d, 0, none⟩), .slice (some ⟨b, o, none⟩) L.length c] w (FPost d v r (buildRun r ns L) w) := by
  have hLb : (L.length : Int) ≤ 10000 := by have := hlen.out; omega
  go_enter Try.func20, Try.ntmps20
  go_wp2_with fail
  refine (dleaf_any d v r ns 4607182418800017408 _ hid_one hd (hl_of (by have := hlen.out; omega))).mono ?_
  rintro e w1 ⟨v1, rfl, hd1, hst⟩
  have Hst1 := Lib.hid hst
  have Hd1 := Lib.hid hd1
  clear hst hd1
  go_wp2_with fail
  go_loopw [5, 6] (fun id i wr => ∃ k : Nat, k ≤ L.length ∧ i = .int .i64 (k : Int) ∧ BRel d v r ns L w k id wr) (fun _ i _ => L.length - (intOf i).toNat)
  case atStart => exact ⟨0, Nat.zero_le _, rfl, v1, rfl, Hd1.out, Hst1.out⟩
  case round =>
    obtain ⟨k, hk, rfl, v1, rfl, hd1, hst⟩ := hrel
    have Hst := Lib.hid hst
    clear hst
    by_cases hlt : k < L.length
    · have hg0 := build_good r ns (L.take k) (by have := hlen.out; rw [List.length_take]; omega)
      have hsn0 : buildRun r ns (L.take (k + 1)) = step1 r (buildRun r ns (L.take k)) (L[k]?.getD 0) := by
        rw [List.take_succ_eq_append_getElem hlt, buildRun_snoc]
        simp [hlt]
      have h1 := Hst.out.2.cell (hin.out k hlt) hb.out
      generalize buildRun r ns (L.take k) = p at hg0 hsn0 hd1 ⊢
      obtain ⟨ns1, id1⟩ := p
      generalize L[k]?.getD 0 = x at h1 hsn0
      have hgood := Lib.hid hg0.1
      have hl1 : Hid (ns1.length ≤ 10000) := by have h2 := hg0.2; have h3 := hlen.out; rw [List.length_take] at h2; simp only at h2; show _ ≤ _; omega
      clear hg0
      have hk' : (k : Int) < (L.length : Int) := by omega
      have hflv := Lib.hid (flv_ok x).1
      have hlf := leaf_takes ns1.length x
      have hok := put_ok r ns1 (leafNode x) hlf
      have hle := putNs_le r ns1 (leafNode x)
      have hot := Lib.hid (op_takes (putNs r ns1 (leafNode x)).length (kindOf x) id1 (putId r ns1 (leafNode x)) ⟨hgood.out.1, by have := hgood.out.2; have := hok.2.2.1.length_le; simp only at *; omega⟩ ⟨hok.1, hok.2.1⟩ (by have := hl1.out; omega))
      have hhas : Hid (hasB (putNs r ns1 (leafNode x)).length id1 = true) := by
        have a1 := hgood.out.1
        have a2 := hgood.out.2
        have a3 := hok.2.2.1.length_le
        show hasB _ _ = true
        simp only [hasB, decide_eq_true_eq]
        simp only at a1 a2
        omega
      have hl2 : Hid ((putNs r ns1 (leafNode x)).length ≤ 10001) := by have := hl1.out; show _ ≤ _; omega
      have hsn1 : buildRun r ns (L.take (k + 1)) = (putNs r (putNs r ns1 (leafNode x)) (opNode (kindOf x) id1 (putId r ns1 (leafNode x))), putId r (putNs r ns1 (leafNode x)) (opNode (kindOf x) id1 (putId r ns1 (leafNode x)))) := hsn0
      have hkb := kindOf_bounds x
      have hkd : kindOf x = (x.tmod 4 + 4).tmod 4 := rfl
      have hleaf : leafNode x = ⟨0, flv x, 0, 0⟩ := rfl
      have hfl : floatOfInt .f64 (2 + x.tmod 5) = flv x := rfl
      have t4 := tmod_bounds x 4 (by omega)
      have t5 := tmod_bounds x 5 (by omega)
      have e4 : (x.tmod 4 + 4).tmod 4 = (x.tmod 4 + 4) % 4 := Int.tmod_eq_emod_of_nonneg (by omega)
      rw [e4] at hkd
      generalize kindOf x = q at hkb hkd hsn1 hot
      generalize flv x = fx at hflv hfl hleaf
      generalize hx5 : x.tmod 5 = y5 at t5 hfl
      generalize hx4 : x.tmod 4 = y4 at t4 hkd
      obtain ⟨t4a, t4b⟩ := t4
      obtain ⟨t5a, t5b⟩ := t5
      have hkq : (y4 + 4) % 4 = q := hkd.symm
      rw [hleaf] at hot hhas hl2 hsn1
      have Hsn := Lib.hid hsn1
      have Hcell := Lib.hid h1
      clear hsn1 hsn0 hkd hlf hok hle e4 hleaf
      have hbn : Hid (b ∉ foot d v1 r) := step_notin Hst.out hb.out (World.block_lt_of_cell? _ _ (hin.out k hlt))
      go_wp2_with fail
      (with_reducible refine (dleaf_any d v1 r ns1 fx _ hflv hd1 (hl_of (by have := hl1.out; omega))).mono ?_)
      rintro e w2 ⟨v2, rfl, hd2, hst2⟩
      have Hst2 := Lib.hid (Hst.out.trans hst2)
      have h2 := hst2.2.cell Hcell.out hbn.out
      clear hst2 h1 hd1
      generalize putId r ns1 ⟨0, fx, 0, 0⟩ = lv at hot Hsn ⊢
      generalize putNs r ns1 ⟨0, fx, 0, 0⟩ = ns2 at hot hhas hl2 Hsn hd2
      have hq4 : q = 0 ∨ q = 1 ∨ q = 2 ∨ q = 3 := by omega
      clear hkb
      have hbf2 : Hid (∀ g, g = w2.heap.size → g ∉ foot d v2 r) := fun g e hm => by have := hd2.lt g hm; omega
      rcases hq4 with rfl | rfl | rfl | rfl
      · have hsn : Hid (buildRun r ns (L.take (k + 1)) = (putNs r ns2 ⟨1, 0, id1, lv⟩, putId r ns2 ⟨1, 0, id1, lv⟩)) := Hsn.out
        clear Hsn
        go_wp2_with fail
        have hB := Blk.new w2 3 [.int .i64 id1, .int .i64 lv]
        have hO := (Only.refl [] w2).alloc (.cells #[.int .i64 id1, .int .i64 lv] 3)
        have hA := hd2.only hO (by simp)
        have efold : foldS r 1 ns2 [id1, lv] = (putNs r ns2 ⟨1, 0, id1, lv⟩, putId r ns2 ⟨1, 0, id1, lv⟩) := by simp [foldS, foldRun, hhas.out]
        refine ((dadd_any d v2 r ns2 w2.heap.size 0 2 id1 [lv] _ hA (hl_of (by have := hl2.out; simp only [List.length_singleton]; omega)) (hbf2.out _ rfl) (hB.cell 0) (by intro j hj; obtain rfl : j = 0 := (by simpa using hj); exact hB.cell 1) (by simp) (by decide)).mono (FPost.q efold)).mono ?_
        rintro e w3 ⟨v3, rfl, hd3, hst3⟩
        replace hst3 := Step.pre hO hst3
        clear efold hB hO hA
        have Hst3 := Lib.hid hst3
        clear hst3
        go_wp2_with fail
        go_roundw
        case rel =>
          have e1 := hsn.out
          exact ⟨k + 1, by omega, by go_num, v3, by rw [e1], by rw [e1]; exact hd3, Hst2.out.trans Hst3.out⟩
        case measure => simp [intOf]; omega
      · have hsn : Hid (buildRun r ns (L.take (k + 1)) = (putNs r ns2 ⟨2, 0, lv, id1⟩, putId r ns2 ⟨2, 0, lv, id1⟩)) := Hsn.out
        clear Hsn
        go_wp2_with fail
        refine (dsub_any d v2 r ns2 lv id1 _ hd2 (hl_of (by have := hl2.out; omega))).mono ?_
        rintro e w3 ⟨v3, rfl, hd3, hst3⟩
        have Hst3 := Lib.hid hst3
        clear hst3
        go_wp2_with fail
        go_roundw
        case rel =>
          have e1 := hsn.out
          exact ⟨k + 1, by omega, by go_num, v3, by rw [e1], by rw [e1]; exact hd3, Hst2.out.trans Hst3.out⟩
        case measure => simp [intOf]; omega
      · have hsn : Hid (buildRun r ns (L.take (k + 1)) = (putNs r ns2 ⟨3, 0, id1, id1⟩, putId r ns2 ⟨3, 0, id1, id1⟩)) := Hsn.out
        clear Hsn
        go_wp2_with fail
        have hB := Blk.new w2 3 [.int .i64 id1, .int .i64 id1]
        have hO := (Only.refl [] w2).alloc (.cells #[.int .i64 id1, .int .i64 id1] 3)
        have hA := hd2.only hO (by simp)
        have efold : foldS r 3 ns2 [id1, id1] = (putNs r ns2 ⟨3, 0, id1, id1⟩, putId r ns2 ⟨3, 0, id1, id1⟩) := by simp [foldS, foldRun, hhas.out]
        refine ((dmul_any d v2 r ns2 w2.heap.size 0 2 id1 [id1] _ hA (hl_of (by have := hl2.out; simp only [List.length_singleton]; omega)) (hbf2.out _ rfl) (hB.cell 0) (by intro j hj; obtain rfl : j = 0 := (by simpa using hj); exact hB.cell 1) (by simp) (by decide)).mono (FPost.q efold)).mono ?_
        rintro e w3 ⟨v3, rfl, hd3, hst3⟩
        replace hst3 := Step.pre hO hst3
        clear efold hB hO hA
        have Hst3 := Lib.hid hst3
        clear hst3
        go_wp2_with fail
        go_roundw
        case rel =>
          have e1 := hsn.out
          exact ⟨k + 1, by omega, by go_num, v3, by rw [e1], by rw [e1]; exact hd3, Hst2.out.trans Hst3.out⟩
        case measure => simp [intOf]; omega
      · have hsn : Hid (buildRun r ns (L.take (k + 1)) = (putNs r ns2 ⟨5, 0, id1, 0⟩, putId r ns2 ⟨5, 0, id1, 0⟩)) := Hsn.out
        clear Hsn
        go_wp2_with fail
        refine (droot_any d v2 r ns2 id1 _ hd2 (hl_of (by have := hl2.out; omega))).mono ?_
        rintro e w3 ⟨v3, rfl, hd3, hst3⟩
        have Hst3 := Lib.hid hst3
        clear hst3
        go_wp2_with fail
        go_roundw
        case rel =>
          have e1 := hsn.out
          exact ⟨k + 1, by omega, by go_num, v3, by rw [e1], by rw [e1]; exact hd3, Hst2.out.trans Hst3.out⟩
        case measure => simp [intOf]; omega
    · have hk' : k = L.length := by omega
      have hnl : ¬ (k : Int) < (L.length : Int) := by omega
      have hfin : Hid (buildRun r ns (L.take k) = buildRun r ns L) := by show _ = _; rw [hk', List.take_length]
      clear hk'
      go_wp2_with fail
      go_ret
      exact ⟨v1, by rw [← hfin.out]; rfl, by rw [← hfin.out]; exact hd1, Hst.out⟩

set_option maxRecDepth 100000 in
set_option maxHeartbeats 1600000 in
theorem shares_out (A : Option Addr) (n c : Nat) (same : Bool) (w : World) (hn : n < 1 ∨ 20 < n) :
    Calls Try.prog 5 #[.slice A n c, .bool same] w fun e w' => e = .returned (.bool true) ∧ Only [] w w' := by
  rcases hn with hn | hn
  · obtain rfl : n = 0 := by omega
    clear hn
    go_enter Try.func5, Try.ntmps5
    go_wp2_with (go_at_call 7; (with_reducible refine (alive_any _).mono ?_); rintro e w1 ⟨rfl, ho1⟩)
    go_ret
    exact ⟨rfl, ho1⟩
  · have h1 : ¬ (n : Int) < 1 := by omega
    have h2 : (20 : Int) < (n : Int) := by omega
    clear hn
    go_enter Try.func5, Try.ntmps5
    go_wp2_with (go_at_call 7; (with_reducible refine (alive_any _).mono ?_); rintro e w1 ⟨rfl, ho1⟩)
    go_ret
    exact ⟨rfl, ho1⟩

set_option maxRecDepth 100000 in
set_option maxHeartbeats 1600000 in
theorem shares_in (b o c : Nat) (L : List Int) (same : Bool) (w : World) (h1 : ¬ (L.length : Int) < 1) (h2 : ¬ (20 : Int) < (L.length : Int))
    (hin : Hid (∀ j, j < L.length → w.cell? ⟨b, o + j, none⟩ = some (.int .i64 (L[j]?.getD 0)))) :
    Calls Try.prog 5 #[.slice (some ⟨b, o, none⟩) L.length c, .bool same] w fun e w' => e = .returned (.bool true) ∧ Only [] w w' := by
  have hL1 : Hid (1 ≤ L.length ∧ L.length ≤ 20) := by show _ ∧ _; omega
  go_enter Try.func5, Try.ntmps5
  go_wp2_with (go_at_call 7; (with_reducible refine (alive_any _).mono ?_); rintro e w1 ⟨rfl, ho1⟩)
  refine (new_any same _).mono ?_
  rintro e w2 ⟨r, rfl, hd2, hr2, hm2, ho2⟩
  have A2 := Lib.hid (own_new hd2 hm2 ho2)
  have Hr := Lib.hid hr2
  have HO1 := Lib.hid ho1
  have hbw : Hid (b < w.heap.size) := World.block_lt_of_cell? _ _ (hin.out 0 (by have := hL1.out; omega))
  clear hd2 hm2 ho2 hr2 ho1
  have hin2 : Hid (∀ j, j < L.length → w2.cell? ⟨b, o + j, none⟩ = some (.int .i64 (L[j]?.getD 0))) := fun j hj => (HO1.out.nil_trans A2.out.only).cell (hin.out j hj) (by simp)
  have hnf : ∀ (v : Value) (wx : World) (ns : List Nd), Own w1 wx w1.heap.size v r ns → b ∉ foot w1.heap.size v r := fun v wx ns h hm => by
    have := h.fresh b hm
    have := hbw.out
    have := HO1.out.size
    omega
  have Hnf := Lib.hid hnf
  clear hnf
  go_wp2_with fail
  refine (build_any w1.heap.size _ r [] b o c L _ A2.out.is (by have := hL1.out; show _ ≤ _; simp only [List.length_nil]; omega) hin2 (Hnf.out _ _ _ A2.out)).mono ?_
  rintro e w3 ⟨v3, rfl, hd3, hst3⟩
  have A3 := Lib.hid (A2.out.step hst3 hd3)
  have hin3 : Hid (∀ j, j < L.length → w3.cell? ⟨b, o + j, none⟩ = some (.int .i64 (L[j]?.getD 0))) := fun j hj => hst3.2.cell (hin2.out j hj) (Hnf.out _ _ _ A2.out)
  have hb1 := build_good r [] L (by have := hL1.out; simp only [List.length_nil]; omega)
  have hb2 := none_build [] L (by have := hL1.out; simp only [List.length_nil]; omega)
  have hs := fun m => some_build m L (by have := hL1.out; omega)
  have hb3 := none_build (buildRun none [] L).1 L (by have := hL1.out; have := hb2.1; simp only [List.length_nil] at this; omega)
  simp only [List.length_nil] at hb1 hb2
  clear hd3 hst3
  cases same
  · obtain rfl : r = none := Hr.out.2 rfl
    clear hs hb1
    have ea : (buildRun none [] L).2 = 2 * (L.length : Int) := by have := hb2.2; omega
    have el : (buildRun none [] L).1.length = 1 + 2 * L.length := by have := hb2.1; omega
    have eb : (buildRun none (buildRun none [] L).1 L).2 = 1 + 4 * (L.length : Int) := by have := hb3.2; omega
    have em : (buildRun none (buildRun none [] L).1 L).1.length = 2 + 4 * L.length := by have := hb3.1; omega
    clear hb2 hb3
    generalize buildRun none [] L = p at A3 ea el eb em ⊢
    obtain ⟨ns3, a3⟩ := p
    simp only at ea el eb em
    subst ea
    have El := Lib.hid el
    have Em := Lib.hid em
    have Eb := Lib.hid eb
    clear el em eb
    go_wp2_with fail
    refine (dlen_any _ _ _ _ _ A3.out.is).mono ?_
    rintro e w4 ⟨rfl, rfl⟩
    go_wp2_with fail
    refine (build_any w1.heap.size v3 none ns3 b o c L _ A3.out.is (by have := El.out; have := hL1.out; show _ ≤ _; omega) hin3 (Hnf.out _ _ _ A3.out)).mono ?_
    rintro e w5 ⟨v5, rfl, hd5, hst5⟩
    have A5 := Lib.hid (A3.out.step hst5 hd5)
    clear hd5 hst5
    have e1 : (ns3.length : Int) = 1 + 2 * (L.length : Int) := by have := El.out; omega
    rw [e1, Eb.out]
    clear e1
    have c1 : ((1 : Int) + 4 * (L.length : Int) == 2 * (L.length : Int) + (1 + 2 * (L.length : Int))) = true := by simp; omega
    have g0 : (0 : Int) ≤ 2 * (L.length : Int) := by omega
    go_wp2_with fail
    refine (dlen_any _ _ _ _ _ A5.out.is).mono ?_
    rintro e w6 ⟨rfl, rfl⟩
    have e2 : ((buildRun none ns3 L).1.length : Int) = 2 + 4 * (L.length : Int) := by have := Em.out; omega
    rw [e2]
    clear e2
    have c2 : ((2 : Int) + 4 * (L.length : Int) == 2 * (1 + 2 * (L.length : Int))) = true := by simp; omega
    go_wp2_with fail
    go_ret
    exact ⟨by simp, HO1.out.nil_trans A5.out.only⟩
  · obtain ⟨m, rfl⟩ : ∃ m, r = some m := by
      cases r with
      | none => have := Hr.out.1 rfl; cases this
      | some m => exact ⟨m, rfl⟩
    have hsm := hs m
    clear hb2 hb3 hs
    generalize buildRun (some m) [] L = p at A3 hb1 hsm ⊢
    obtain ⟨ns3, a3⟩ := p
    simp only [Good] at hb1 hsm
    obtain ⟨⟨g0, g1⟩, g2⟩ := hb1
    have hl3 : Hid (ns3.length ≤ 41) := by have := hL1.out; show _ ≤ _; omega
    have hsm' := Lib.hid hsm
    clear hsm g1 g2
    go_wp2_with fail
    refine (dlen_any _ _ _ _ _ A3.out.is).mono ?_
    rintro e w4 ⟨rfl, rfl⟩
    go_wp2_with fail
    refine (build_any w1.heap.size v3 (some m) ns3 b o c L _ A3.out.is (by have := hl3.out; have := hL1.out; show _ ≤ _; omega) hin3 (Hnf.out _ _ _ A3.out)).mono ?_
    rw [hsm'.out]
    rintro e w5 ⟨v5, rfl, hd5, hst5⟩
    have A5 := Lib.hid (A3.out.step hst5 hd5)
    clear hd5 hst5
    go_wp2_with fail
    refine (dlen_any _ _ _ _ _ A5.out.is).mono ?_
    rintro e w6 ⟨rfl, rfl⟩
    go_wp2_with fail
    go_ret
    exact ⟨by simp, HO1.out.nil_trans A5.out.only⟩
end Go.Proofs.Ytkiongpfpjfaaaa
