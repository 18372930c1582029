/-
  DagMakes: the law's walk, ids.
-/
import Derived.Test.YtkiongpfpjfaaaaMakesB
import Derived.Deep.DeepCutAuto
import Derived.Test.YtkiongpfpjfaaaaShares
namespace Go.Proofs.Ytkiongpfpjfaaaa
open Go.RowKit

section
variable {w0 w : World} {d p : Nat} {v u : Value} {ns ms : List Nd}
theorem fresh_p {lb : Nat} (h : Pair w0 w d v ns p u ms) (hl : lb < w0.heap.size) : lb ∉ foot p u none := fun hm => by have := h.pf lb hm; omega
theorem fresh_d {lb : Nat} (h : Pair w0 w d v ns p u ms) (hl : lb < w0.heap.size) : lb ∉ foot d v none := fun hm => by have := h.a.fresh lb hm; omega
theorem chain_pp {f : FuncId} {args : Array Value} {q : List Nd × Int} {n : List Nd} {i : Int} (e : q = (n, i)) (h : Pair w0 w d v ns p u ms) (hc : Calls Try.prog f args w (CPost p u q w)) : Calls Try.prog f args w (PP w0 d v ns p i n) := by
  subst e; exact pp_of h hc
theorem fold_dp {f : FuncId} {args : Array Value} {q : List Nd × Int} {n : List Nd} {i : Int} (e : q = (n, i)) (h : Pair w0 w d v ns p u ms) (hc : Calls Try.prog f args w (FPost d v none q w)) : Calls Try.prog f args w (DP w0 d p u ms i n) := by
  subst e; exact dp_of h hc
theorem put_pp' {k : Int} {f : Nat} {a b i : Int} {n : List Nd} (e : putId none ms ⟨k, f, a, b⟩ = i ∧ putNs none ms ⟨k, f, a, b⟩ = n) (h : Pair w0 w d v ns p u ms) (hl : Hid (ms.length < 20000)) :
    Calls Try.prog 22 #[.pointer (some ⟨p, 0, none⟩), .agg #[.int .i64 k, .float .f64 f, .int .i64 a, .int .i64 b]] w (PP w0 d v ns p i n) := by
  obtain ⟨rfl, rfl⟩ := e; exact put_pp h hl
theorem put_dp' {f : FuncId} {args : Array Value} {m : Nd} {i : Int} {n : List Nd} (e : putId none ns m = i ∧ putNs none ns m = n) (h : Pair w0 w d v ns p u ms) (hc : Calls Try.prog f args w (PPost d v none ns m w)) : Calls Try.prog f args w (DP w0 d p u ms i n) := by
  obtain ⟨rfl, rfl⟩ := e; exact put_dp h hc
end

set_option maxRecDepth 100000 in
set_option maxHeartbeats 3200000 in
theorem makes_cons (A : Option Addr) (L : List Nat) (c lb lo c' : Nat) (y : Int) (ys : List Int) (x : Int) (w : World) (h1 : ¬ (20 : Int) < (L.length : Int)) (h2 : ¬ (12 : Int) < (ys.length : Int) + 1) (hc : Hid (ys.length + 1 ≤ c' ∧ c' ≤ maxLen))
    (hin : Hid (∀ k, k < L.length → ∃ b o, A = some ⟨b, o, none⟩ ∧ w.cell? ⟨b, o + k, none⟩ = some (.float .f64 (L[k]?.getD 0)) ∧ L[k]?.getD 0 < 2 ^ 64))
    (hx : Hid (w.cell? ⟨lb, lo, none⟩ = some (.int .i64 y))) (hxs : Hid (∀ j, j < ys.length → w.cell? ⟨lb, lo + (j + 1), none⟩ = some (.int .i64 (ys[j]?.getD 0)))) :
    Calls Try.prog 6 #[.slice A L.length c, .int .i64 x, .slice (some ⟨lb, lo, none⟩) (ys.length + 1) c'] w fun e w' => e = .returned (.bool true) ∧ Only [] w w' := by
  have hys : Hid (ys.length ≤ 11) := by show _ ≤ _; omega
  have hL : Hid (L.length ≤ 20) := by show _ ≤ _; omega
  go_enter Try.func6, Try.ntmps6
  go_wp2_with (go_at_call 7; (with_reducible refine (alive_any _).mono ?_); rintro e w1 ⟨rfl, ho1⟩)
  refine (new_any false _).mono ?_
  rintro e w2 ⟨r, rfl, hd2, hr2, hm2, ho2⟩
  obtain rfl : r = none := hr2.2 rfl
  have A2 := Lib.hid (own_new hd2 hm2 ho2)
  have HO1 := Lib.hid ho1
  clear hd2 hm2 ho2 hr2 ho1
  go_wp2_with fail
  have P0 := Lib.hid (Pair.new A2.out (Blk.new w2 51 [.slice none 0 0, .bool false]) ((Only.refl [] w2).alloc (.cells #[.slice none 0 0, .bool false] 51)))
  generalize hp : w2.heap.size = p at P0 ⊢
  clear hp A2
  go_loopw [9] (fun i wr => ∃ k : Nat, k ≤ L.length ∧ i = .int .i64 (k : Int) ∧ MRel w1 w1.heap.size p L k wr) (fun i _ => L.length - (intOf i).toNat)
  case atStart => exact ⟨0, Nat.zero_le _, rfl, _, _, P0⟩
  case round =>
    obtain ⟨k, hk, rfl, v, u, HP⟩ := hrel
    clear P0
    by_cases hlt : k < L.length
    · skip
      obtain ⟨b, o, rfl, hc0, hx⟩ := hin.out k hlt
      have HX := Lib.hid hx
      have Hc0 := Lib.hid (HO1.out.cell hc0 (by simp))
      have hc1 := HP.out.cell Hc0.out
      have hsn : mk (L.take (k + 1)) = putNs none (mk (L.take k)) ⟨0, L[k]?.getD 0, 0, 0⟩ := by
        rw [List.take_succ_eq_append_getElem hlt, mk_snoc]
        simp [hlt]
      have hle := mk_le (L.take k)
      rw [List.length_take] at hle
      have hl : Hid ((mk (L.take k)).length < 20000) := by show _ < _; have := hL.out; omega
      have Hsn := Lib.hid hsn
      clear hle hsn hc0 hx hin
      generalize L[k]?.getD 0 = y at *
      generalize mk (L.take k) = ns at *
      have hk' : (k : Int) < (L.length : Int) := by omega
      go_wp2_with fail
      go_region_held3 (fun w' => w'.cell? ⟨b, o + k, none⟩ = some (.float .f64 y)) (go_keep) (first | (go_at_call 21; refine (put_dp HP.out.drew (dleaf_any _ v none ns y _ HX HP.out.drew.a.is hl)).mono ?_; rintro e w3 ⟨v3, rfl, HP3⟩; have c3 := HP3.out.cell Hc0.out) | (go_at_call 22; refine (put_pp HP3.out hl).mono ?_; rintro e w4 ⟨u4, rfl, HP4⟩; have c4 := HP4.out.cell Hc0.out))
      go_wp2_with fail
      go_roundw
      case rel =>
        refine ⟨k + 1, by omega, by go_num, v3, u4, ?_⟩
        rw [Hsn.out]
        exact HP4
      case measure => simp [intOf]; omega
    · have hlb : Hid (lb < w1.heap.size) := Nat.lt_of_lt_of_le (World.block_lt_of_cell? _ _ hx.out) HO1.out.size
      have hx1 : Hid (w1.cell? ⟨lb, lo, none⟩ = some (.int .i64 y)) := HO1.out.cell hx.out (by simp)
      have hxs1 : Hid (∀ j, j < ys.length → w1.cell? ⟨lb, lo + (j + 1), none⟩ = some (.int .i64 (ys[j]?.getD 0))) := fun j hj => HO1.out.cell (hxs.out j hj) (by simp)
      clear hx hxs
      have hk' : k = L.length := by omega
      have hnl : ¬ (k : Int) < (L.length : Int) := by omega
      rw [hk', List.take_length] at HP
      have hl : Hid ((mk L).length ≤ 20) := by show _ ≤ _; have := mk_le L; have := hL.out; omega
      clear hk' hk hlt hL hin
      generalize mk L = ns at *
      have hlw : Hid ((wNs ns x).length ≤ 21) := by show _ ≤ _; have := wNs_le ns x; have := hl.out; omega
      have hll : Hid (ns.length < 20000) := by show _ < _; have := hl.out; omega
      go_upto_region 13 with fail
      go_cut [61] (fun s wx => s = .bool (inR x) ∧ wx = wr)
      case first =>
        go_wp2_with fail
        all_goals go_meet
        all_goals refine ⟨?_, rfl⟩
        all_goals simp [inR]
        all_goals omega
      obtain ⟨rfl, rfl⟩ := hcut
      go_upto_if 61 with fail
      go_cut [10] (fun s wx => s = .int .i64 (wId ns x) ∧ ∃ u5, Hid (Pair w1 wx w1.heap.size v ns p u5 (wNs ns x)))
      case first =>
        cases hr : inR x
        · have e1 : wNs ns x = ns := by simp [wNs, hr]
          have e2 : wId ns x = -1 := by simp [wId, hr]
          go_wp2_with fail
          go_meet
          exact ⟨by rw [e2], u, by rw [e1]; exact HP⟩
        · have e1 : putNs none ns ⟨0, floatOfInt .f64 x, 0, 0⟩ = wNs ns x := by simp [wNs, hr]
          have e2 : putId none ns ⟨0, floatOfInt .f64 x, 0, 0⟩ = wId ns x := by simp [wId, hr]
          go_wp2_with fail
          refine (put_pp HP.out hll).mono ?_
          rintro e w4 ⟨u4, rfl, HP4⟩
          rw [e1] at HP4
          rw [e2]
          clear e1 e2
          go_wp2_with fail
          go_meet
          exact ⟨rfl, u4, HP4⟩
      case rest =>
        obtain ⟨rfl, u5, HP4⟩ := hcut
        go_wp2_with fail
        refine (int_dp HP4.out hll).mono ?_
        rintro e w5 ⟨v5, rfl, HP5⟩
        clear hl hll HP4 HP
        generalize wNs ns x = ns1 at *
        generalize wId ns x = iw at *
        go_wp2_with fail
        have hbp : Hid (lb ∉ foot w1.heap.size v5 none ∧ ∀ k : Nat, k < w1.heap.size → k ∉ foot p u5 none) := ⟨fun hm => by have := HP5.out.a.fresh lb hm; have := hlb.out; omega, fun k hk hm => by have := HP5.out.pf k hm; omega⟩
        have hx5 := HP5.out.cell hx1.out
        have hxs5 : Hid (∀ j, j < ys.length → w5.cell? ⟨lb, lo + (j + 1), none⟩ = some (.int .i64 (ys[j]?.getD 0))) := fun j hj => HP5.out.cell (hxs1.out j hj)
        have ll : Hid (ns1.length + ys.length < 20000) := by show _ < _; have := hlw.out; have := hys.out; omega
        obtain ⟨n2, i2, hq2⟩ : ∃ n2 i2, foldS none 1 ns1 (y :: ys) = (n2, i2) := ⟨_, _, rfl⟩
        have l2 : Hid (n2.length ≤ 33) := by show _ ≤ _; have h := foldS_le 1 (y :: ys) ns1; rw [hq2] at h; have := hlw.out; have := hys.out; simp only [List.length_cons] at h; omega
        have Hq2 := Lib.hid hq2
        clear hq2
        go_wp2_with fail
        refine (chain_pp Hq2.out HP5.out (chain_any p u5 ns1 1 (by show (1 : Int) ≠ 0; decide) lb lo c' y ys _ HP5.out.b ll (fresh_p HP5.out hlb.out) hx5 hxs5)).mono ?_
        rintro e w6 ⟨u6', rfl, HP6⟩
        clear hx5 hxs5
        have hx6 := HP6.out.cell hx1.out
        have hxs6 : Hid (∀ j, j < ys.length → w6.cell? ⟨lb, lo + 1 + j, none⟩ = some (.int .i64 (ys[j]?.getD 0))) := fun j hj => by rw [Nat.add_right_comm]; exact HP6.out.cell (hxs1.out j hj)
        go_wp2_with fail
        refine (fold_dp Hq2.out HP6.out (dadd_any _ v5 none ns1 lb lo c' y ys _ HP6.out.a.is ll (fresh_d HP6.out hlb.out) hx6 hxs6 hc.out.1 hc.out.2)).mono ?_
        rintro e w7 ⟨v7, rfl, HP7⟩
        clear hx6 hxs6 ll Hq2
        have hx7 := HP7.out.cell hx1.out
        have hxs7 : Hid (∀ j, j < ys.length → w7.cell? ⟨lb, lo + (j + 1), none⟩ = some (.int .i64 (ys[j]?.getD 0))) := fun j hj => HP7.out.cell (hxs1.out j hj)
        have ll : Hid (n2.length + ys.length < 20000) := by show _ < _; have := l2.out; have := hys.out; omega
        obtain ⟨n3, i3, hq3⟩ : ∃ n3 i3, foldS none 3 n2 (y :: ys) = (n3, i3) := ⟨_, _, rfl⟩
        have l3 : Hid (n3.length ≤ 45) := by show _ ≤ _; have h := foldS_le 3 (y :: ys) n2; rw [hq3] at h; have := l2.out; have := hys.out; simp only [List.length_cons] at h; omega
        have Hq3 := Lib.hid hq3
        clear hq3
        go_wp2_with fail
        refine (chain_pp Hq3.out HP7.out (chain_any p u6' n2 3 (by show (3 : Int) ≠ 0; decide) lb lo c' y ys _ HP7.out.b ll (fresh_p HP7.out hlb.out) hx7 hxs7)).mono ?_
        rintro e w8 ⟨u8, rfl, HP8⟩
        clear hx7 hxs7
        have hx8 := HP8.out.cell hx1.out
        have hxs8 : Hid (∀ j, j < ys.length → w8.cell? ⟨lb, lo + 1 + j, none⟩ = some (.int .i64 (ys[j]?.getD 0))) := fun j hj => by rw [Nat.add_right_comm]; exact HP8.out.cell (hxs1.out j hj)
        go_wp2_with fail
        refine (fold_dp Hq3.out HP8.out (dmul_any _ v7 none n2 lb lo c' y ys _ HP8.out.a.is ll (fresh_d HP8.out hlb.out) hx8 hxs8 hc.out.1 hc.out.2)).mono ?_
        rintro e w9 ⟨v9, rfl, HP9⟩
        clear hx8 hxs8 ll Hq3
        obtain ⟨n4, i4, hq4, hr4⟩ : ∃ n4 i4, putId none n3 ⟨4, 0, i2, i3⟩ = i4 ∧ putNs none n3 ⟨4, 0, i2, i3⟩ = n4 := ⟨_, _, rfl, rfl⟩
        obtain ⟨n5, i5, hq5, hr5⟩ : ∃ n5 i5, putId none n4 ⟨5, 0, i4, 0⟩ = i5 ∧ putNs none n4 ⟨5, 0, i4, 0⟩ = n5 := ⟨_, _, rfl, rfl⟩
        obtain ⟨n6, i6, hq6, hr6⟩ : ∃ n6 i6, putId none n5 ⟨2, 0, i5, y⟩ = i6 ∧ putNs none n5 ⟨2, 0, i5, y⟩ = n6 := ⟨_, _, rfl, rfl⟩
        have l4 : Hid (n4.length ≤ 46) := by show _ ≤ _; have h := putNs_le none n3 ⟨4, 0, i2, i3⟩; rw [hr4] at h; have := l3.out; omega
        have l5 : Hid (n5.length ≤ 47) := by show _ ≤ _; have h := putNs_le none n4 ⟨5, 0, i4, 0⟩; rw [hr5] at h; have := l4.out; omega
        have l6 : Hid (n6.length ≤ 48) := by show _ ≤ _; have h := putNs_le none n5 ⟨2, 0, i5, y⟩; rw [hr6] at h; have := l5.out; omega
        have H4 := Lib.hid (And.intro hq4 hr4)
        have H5 := Lib.hid (And.intro hq5 hr5)
        have H6 := Lib.hid (And.intro hq6 hr6)
        clear hq4 hr4 hq5 hr5 hq6 hr6
        go_wp2_with fail
        refine (put_pp' H4.out HP9.out (hl_of (by have := l3.out; omega))).mono ?_
        rintro e wa ⟨ua, rfl, HPa⟩
        go_wp2_with fail
        refine (put_pp' H5.out HPa.out (hl_of (by have := l4.out; omega))).mono ?_
        rintro e wb ⟨ub, rfl, HPb⟩
        have hxb := HPb.out.cell hx1.out
        go_wp2_with fail
        refine (put_pp' H6.out HPb.out (hl_of (by have := l5.out; omega))).mono ?_
        rintro e wc ⟨uc, rfl, HPc⟩
        clear hxb
        go_wp2_with fail
        obtain ⟨Ad, cd, rfl, _⟩ := HPc.out.b.shape
        have hxc := HPc.out.cell hx1.out
        have cpc := HPc.out.b.blk.cell 0
        have b3 := hl_of (show n3.length < 20000 by have := l3.out; omega)
        have b4 := hl_of (show n4.length < 20000 by have := l4.out; omega)
        have b5 := hl_of (show n5.length < 20000 by have := l5.out; omega)
        have cpc' : wc.cell? ⟨p, 0, none⟩ = some (.slice Ad n6.length cd) := cpc
        clear cpc hxc
        have hxc := HPc.out.drew.cell hx1.out
        have cpc := HPc.out.drew.b.blk.cell 0
        simp only [List.getElem?_cons_zero] at cpc
        go_region_held3 (fun w' => w'.cell? ⟨lb, lo, none⟩ = some (.int .i64 y) ∧ w'.cell? ⟨p, 0, none⟩ = some (.slice Ad n6.length cd)) (go_keep) (first
          | (go_at_call 28; refine (put_dp' H4.out HPc.out.drew (ddiv_any _ v9 none n3 i2 i3 _ HPc.out.drew.a.is b3)).mono ?_; rintro e x1 ⟨v10, rfl, HPd⟩; have hc1 := HPd.out.cell hx1.out; have cp1 := HPd.out.b.blk.cell 0; simp only [List.getElem?_cons_zero] at cp1)
          | (go_at_call 29; refine (put_dp' H5.out HPd.out (droot_any _ v10 none n4 i4 _ HPd.out.a.is b4)).mono ?_; rintro e x2 ⟨v11, rfl, HPe⟩; have hc2 := HPe.out.cell hx1.out; have cp2 := HPe.out.b.blk.cell 0; simp only [List.getElem?_cons_zero] at cp2)
          | (go_at_call 30; refine (put_dp' H6.out HPe.out (dsub_any _ v11 none n5 i5 y _ HPe.out.a.is b5)).mono ?_; rintro e x3 ⟨v12, rfl, HPf⟩; have hc3 := HPf.out.cell hx1.out; have cp3 := HPf.out.b.blk.cell 0; simp only [List.getElem?_cons_zero] at cp3)
          | (go_at_call 10; refine (dall_any _ v12 none _ _ HPf.out.a.is (by have := l6.out; show _ < _; omega)).mono ?_; rintro e x4 ⟨ue, rfl, hne, _, hoe⟩; obtain ⟨Ae, ce, rfl, _⟩ := hne.shape; have cp4 := hoe.cell cp3 (by simp); have hc4 := hoe.cell hc3 (by simp))
          | (go_at_call 26; refine (samenodes_any Ae Ad ce cd _ _ hne.read.2 ((show NodesAt _ _ _ from HPf.out.b.row).only hoe (by simp)).read.2 (by have := l6.out; omega)).mono ?_; rintro e x5 ⟨rfl, hof⟩; have cp5 := hof.cell cp4 (by simp); have hc5 := hof.cell hc4 (by simp)))
        go_wp2_with fail
        go_ret
        exact ⟨by simp, HO1.out.nil_trans (HPf.out.a.only.nil_trans (hoe.nil_trans hof))⟩
end Go.Proofs.Ytkiongpfpjfaaaa
