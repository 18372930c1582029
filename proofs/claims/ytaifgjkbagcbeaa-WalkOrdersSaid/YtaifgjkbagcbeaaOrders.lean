/-
  WalkOrders: the law's walk.
-/
import Derived.Test.YtaifgjkbagcbeaaTree
import Derived.Test.YtaifgjkbagcbeaaMapB
import Derived.Test.YtaifgjkbagcbeaaOrdT
import Derived.IntWalk
namespace Go.Proofs.Ytaifgjkbagcbeaa
open Go.RowKit
attribute [local go_sem] run_store_float

set_option maxRecDepth 100000 in
theorem orders_out (A B : Option Addr) (n c m c' : Nat) (a b : Int) (w : World) (h : 80 < (n : Int) ∨ ((n : Int) ≤ 80 ∧ n = 0) ∨ ((n : Int) ≤ 80 ∧ n ≠ 0 ∧ 200 < (m : Int))) :
    Calls Try.prog 4 #[.slice A n c, .slice B m c', .int .i64 a, .int .i64 b] w fun e w' => e = .returned (.bool true) ∧ Only [] w w' := by
  rcases h with h | ⟨h, rfl⟩ | ⟨h, h0, h2⟩
  all_goals
    try have h0' : ((n : Int) == 0) = false := by simpa using h0
    go_enter Try.func4, Try.ntmps4
    go_wp2_with fail
    refine (alive10_any w).mono ?_
    rintro e w1 ⟨rfl, ho⟩
    have HO := Lib.hid ho
    clear ho
    go_wp2_with fail
    go_ret
    exact ⟨rfl, HO.out⟩

set_option maxHeartbeats 3200000 in
set_option maxRecDepth 100000 in
theorem orders_in (A B : Option Addr) (c c' : Nat) (kinds refs : List Int) (a b : Int) (w : World) (hA : Hid (IRead w A kinds)) (hB : Hid (IRead w B refs)) (hk : (kinds.length : Int) ≤ 80) (hk0 : 0 < (kinds.length : Int)) (hr : (refs.length : Int) ≤ 200) :
    Calls Try.prog 4 #[.slice A kinds.length c, .slice B refs.length c', .int .i64 a, .int .i64 b] w fun e w' => e = .returned (.bool true) ∧ Only [] w w' := by
  have hmm := @run_makeMap Try.prog
  have hkz : ((kinds.length : Int) == 0) = false := beq_eq_false_iff_ne.2 (by omega)
  go_enter Try.func4, Try.ntmps4
  go_wp2_with fail
  refine (alive10_any w).mono ?_
  rintro e w1 ⟨rfl, ho1⟩
  have HO1 := Lib.hid ho1
  clear ho1
  go_wp2_with fail
  refine (tree_any A B c c' kinds refs w1 (hA.out.only HO1.out) (hB.out.only HO1.out) (by omega) (by omega)).mono ?_
  rintro e w2 ⟨u, rfl, hT⟩
  have HT := Lib.hid hT
  obtain ⟨Au, cu, rfl, -, -, -⟩ := hT.1.shape
  rw [treeL_len]
  clear hT
  go_wp2_with fail
  have HNR : Hid (NRead w2 Au (treeL kinds refs kinds.length)) := (HT.out.1.read).2
  have HAll : Hid (AllOk (treeL kinds refs kinds.length)) := treeL_ok kinds refs kinds.length (by omega)
  have HBits : Hid (∀ k, k < (treeL kinds refs kinds.length).length → ((treeL kinds refs kinds.length)[k]?.getD nd0).f < 2 ^ 64) := fun k hk => by
    rw [treeL_len] at hk
    rw [treeL_get _ _ _ _ hk]
    exact treeN_bits kinds refs k
  have HLd := Lib.hid (load10_any Au cu (treeL kinds refs kinds.length) w2 HNR HBits (by rw [treeL_len]; omega) HAll)
  have HLen : Hid ((treeL kinds refs kinds.length).length = kinds.length) := treeL_len _ _ _
  generalize treeL kinds refs kinds.length = ns at HNR HAll HLd HLen HT ⊢
  rw [HLen.out] at HLd
  refine HLd.out.mono ?_
  rintro e w3 ⟨d, v, rfl, hown⟩
  have HOwn := Lib.hid hown
  clear hown HLd HBits
  have HW3 : Hid (Only [] w w3) := HO1.out.nil_trans (HT.out.2.2.nil_trans HOwn.out.only)
  have HNR3 : Hid (NRead w3 Au ns) := HNR.out.only HOwn.out.only
  have HNlt : Hid (∀ x, Au = some x → x.block < w3.heap.size) := by
    rintro x rfl
    have h1 := (World.ownsRow.lt HT.out.1 x.block rfl).2
    have := HOwn.out.only.size
    omega
  clear HT HO1 hA hB HNR
  obtain ⟨n, hn⟩ : ∃ n, kinds.length = n := ⟨_, rfl⟩
  rw [hn] at HLen hk hk0
  rw [hn]
  clear hn
  obtain ⟨a1, a2⟩ := tmod_bd a (n : Int) hk0
  obtain ⟨b1, b2⟩ := tmod_bd b (n : Int) hk0
  have wa0 : IntKind.i64.wrap (a.tmod (n : Int)) = a.tmod (n : Int) := IntWalk.i64_in _ (by omega)
  have wb0 : IntKind.i64.wrap (b.tmod (n : Int)) = b.tmod (n : Int) := IntWalk.i64_in _ (by omega)
  have wa1 : IntKind.i64.wrap (a.tmod (n : Int) + n) = a.tmod (n : Int) + n := IntWalk.i64_in _ (by omega)
  have wb1 : IntKind.i64.wrap (b.tmod (n : Int) + n) = b.tmod (n : Int) + n := IntWalk.i64_in _ (by omega)
  have ea : (a.tmod (n : Int) + n).tmod (n : Int) = a % n := by rw [Int.tmod_eq_emod_of_nonneg (by omega), emod_of]
  have eb : (b.tmod (n : Int) + n).tmod (n : Int) = b % n := by rw [Int.tmod_eq_emod_of_nonneg (by omega), emod_of]
  have ra1 := Int.emod_nonneg a (b := (n : Int)) (by omega)
  have ra2 := Int.emod_lt_of_pos a (b := (n : Int)) hk0
  have rb1 := Int.emod_nonneg b (b := (n : Int)) (by omega)
  have rb2 := Int.emod_lt_of_pos b (b := (n : Int)) hk0
  obtain ⟨a0, ha0⟩ : ∃ a0, a % (n : Int) = a0 := ⟨_, rfl⟩
  obtain ⟨b0, hb0⟩ : ∃ b0, b % (n : Int) = b0 := ⟨_, rfl⟩
  rw [ha0] at ea ra1 ra2
  rw [hb0] at eb rb1 rb2
  clear ha0 hb0
  have HOrd := Lib.hid (ord_ok (ok_dag HAll.out) (a := a0) (b := b0) (by rw [HLen.out]; omega) (by rw [HLen.out]; omega))
  have HNs : Hid (ns.length ≤ 20000) := by show _ ≤ _; rw [HLen.out]; omega
  go_wp2_with fail
  go_quiet (fail)
  go_wp2_with fail
  clear wa0 wb0 wa1 wb1 ea eb a1 a2 b1 b2 hkz
  have HQ : Hid (Only [] w3 (w3.drewN nq)) := (Only.refl [] w3).drewN nq
  have HD4 : Hid (DagIs (w3.drewN nq) d v none ns) := HOwn.out.is.only HQ.out (by simp)
  have HA : Hid (IRead ((w3.drewN nq).alloc (.cells #[.int .i64 a0] 3)) (some ⟨w3.heap.size, 0, none⟩) [a0]) := fun k hk => ⟨w3.heap.size, 0, rfl, by
    have e : k = 0 := by simpa using hk
    subst e
    exact (Blk.new (w3.drewN nq) 3 [.int .i64 a0]).cell 0⟩
  refine (below_any d v none ns [a0] (some ⟨w3.heap.size, 0, none⟩) 1 _ (HD4.out.only ((Only.refl [] _).alloc _) (by simp)) (ok_dag HAll.out) HNs.out HA (by simp)).mono ?_
  rintro e w5 ⟨u, rfl, hX, -, ho5⟩
  have HX5 : Hid (IntsAt w5 u (belowOf ns a0)) := hX
  have HO5 : Hid (Only [] w3 w5) := (HQ.out.alloc _).nil_trans ho5
  obtain ⟨X, hXe⟩ : ∃ X, X = belowOf ns a0 := ⟨_, rfl⟩
  have HXe := Lib.hid hXe
  rw [← hXe] at HX5
  obtain ⟨Ax, cx, rfl, hXr⟩ := HX5.out.shape
  have HXr := Lib.hid hXr
  clear hX ho5 hXe hXr HA HD4 HQ
  go_wp2_with fail
  have HA : Hid (IRead (w5.alloc (.cells #[.int .i64 a0, .int .i64 b0] 3)) (some ⟨w5.heap.size, 0, none⟩) [a0, b0]) := fun k hk => ⟨w5.heap.size, 0, rfl, by
    have hb := Blk.new w5 3 [.int .i64 a0, .int .i64 b0]
    have e : k = 0 ∨ k = 1 := by simp at hk; omega
    rcases e with rfl | rfl
    · exact hb.cell 0
    · exact hb.cell 1⟩
  refine (below_any d v none ns [a0, b0] (some ⟨w5.heap.size, 0, none⟩) 2 _ ((HOwn.out.is.only HO5.out (by simp)).only ((Only.refl [] _).alloc _) (by simp)) (ok_dag HAll.out) HNs.out HA (by simp)).mono ?_
  rintro e w6 ⟨u, rfl, hY, -, ho6⟩
  obtain ⟨Y, hYe⟩ : ∃ Y, Y = belowL ns (· ∈ [a0, b0]) := ⟨_, rfl⟩
  rw [← HXe.out, ← hYe] at HOrd
  have HY6 : Hid (IntsAt w6 u Y) := hYe ▸ hY
  have HO6 : Hid (Only [] w5 w6) := ((Only.refl [] _).alloc _).nil_trans ho6
  obtain ⟨Ay, cy, rfl, hYr⟩ := HY6.out.shape
  have HYr := Lib.hid hYr
  have HXr6 : Hid (IRead w6 Ax X) := HXr.out.only HO6.out
  have HXlt : Hid (∀ x, Ax = some x → x.block < w6.heap.size) := by
    rintro x rfl
    have := HX5.out.lt x.block rfl
    have := HO6.out.size
    omega
  have HYlt : Hid (∀ x, Ay = some x → x.block < w6.heap.size) := by
    rintro x rfl
    exact HY6.out.lt x.block rfl
  have HO36 : Hid (Only [] w3 w6) := HO5.out.nil_trans HO6.out
  have HN6 : Hid (NRead w6 Au ns) := HNR3.out.only HO36.out
  have HNlt6 : Hid (∀ x, Au = some x → x.block < w6.heap.size) := fun x hx => Nat.lt_of_lt_of_le (HNlt.out x hx) HO36.out.size
  clear hY hYe ho6 hYr HA HXr HX5 HY6 HO5 HO6 HNlt
  go_wp2_with fail
  clear hmm
  have HM7 : Hid (MapB (w6.alloc (.map #[] 0)) w6.heap.size 0 (fun _ => false)) := MapB.made w6
  have HO7 : Hid (Only [] w6 (w6.alloc (.map #[] 0))) := (Only.refl _ _).alloc _
  have HYL : Hid (Y.length ≤ 80) := by show _ ≤ _; have := HOrd.out.idsY.len; have := HLen.out; omega
  have HXL : Hid (X.length ≤ 80) := by show _ ≤ _; have := HOrd.out.idsX.len; have := HLen.out; omega
  have hyl : (Y.length : Int) ≤ 80 := by have := HYL.out; omega
  obtain ⟨m, hm⟩ : ∃ m, w6.heap.size = m := ⟨_, rfl⟩
  rw [hm] at HM7 HXlt HYlt HNlt6
  rw [hm]
  have HmW : Hid (w3.heap.size ≤ m) := by show _ ≤ _; have := HO36.out.size; omega
  clear hm
  go_loopw [15] (fun i wr => ∃ k : Nat, k ≤ Y.length ∧ i = .int .i64 (k : Int) ∧ Only [m] w6 wr ∧ MapB wr m k (fun y => decide (y ∈ Y.take k))) (fun i _ => Y.length - (intOf i).toNat)
  case atStart => exact ⟨0, Nat.zero_le _, rfl, HO7.out.mono (by simp), by simpa using HM7.out⟩
  case round =>
    obtain ⟨k, hkl, rfl, ho, hM⟩ := hrel
    have HO := Lib.hid ho
    have HM := Lib.hid hM
    clear ho hM HM7 HO7
    by_cases hlt : k < Y.length
    · obtain ⟨v', hv', hvn⟩ := HOrd.out.idsY.mem k hlt
      obtain ⟨by_, oy, rfl, hc⟩ := HYr.out k hlt
      have hbm : by_ ≠ m := by have := HYlt.out _ rfl; simp only at this; omega
      have c1 := HO.out.cell hc (by simpa using hbm)
      rw [hv'] at c1
      obtain ⟨bn, on, rfl, n0⟩ := HN6.out v' hvn
      have hbn : bn ≠ m := by have := HNlt6.out _ rfl; simp only at this; omega
      obtain ⟨q0, q1, q2, q3⟩ := n0.only HO.out (by simpa using hbn)
      have HKid : Hid (∀ z ∈ kids (ns[v']?.getD nd0), z ∈ Y.take k) := by
        have := HOrd.out.kids k hlt
        rw [hv'] at this
        exact this
      have HStep : Hid ((fun y => if y = (v' : Int) then true else decide (y ∈ Y.take k)) = fun y => decide (y ∈ Y.take (k + 1))) := by
        show _ = _
        funext y
        rw [← hv']
        have := take_snoc_mem hlt y
        by_cases e : y = Y[k]?.getD 0
        · rw [if_pos e]
          symm
          rw [decide_eq_true_iff, this]
          exact .inr e
        · rw [if_neg e]
          congr 1
          simp [this, e]
      have HBd : Hid (∀ z ∈ kids (ns[v']?.getD nd0), Small z) := fun z hz => by
        have h1 := ok_dag HAll.out (v' : Int) (by omega) (by omega) z hz
        have := HLen.out
        unfold Small
        omega
      generalize ns[v']?.getD nd0 = nd at q0 q1 q2 q3 HKid HBd
      obtain ⟨nk, nf, na, nb⟩ := nd
      simp only at q0 q1 q2 q3
      have hvn' : (v' : Int) < (n : Int) := by have := HLen.out; omega
      have hsv : Small (v' : Int) := by unfold Small; omega
      have hlt' : (k : Int) < (Y.length : Int) := by omega
      have hk80 : k < 80 := by have := HYL.out; omega
      by_cases h0 : nk = 0
      · subst h0
        by_cases hk0' : k = 0
        · have g0 : decide (0 < k) = false := by simp [hk0']
          clear hk0' hlt hc n0
          obtain ⟨w8, hup, hM8, hO8⟩ := HM.out.store (by omega) hsv true
          rw [HStep.out] at hM8
          have HM8 := Lib.hid hM8
          have HO8 := Lib.hid hO8
          clear hM8 hO8
          go_wp2_with fail
          go_roundw
          case rel => exact ⟨k + 1, by omega, by go_num, HO.out.trans HO8.out (by simp), HM8.out⟩
          case measure => simp [intOf]; omega
        · obtain ⟨j, rfl⟩ : ∃ j, k = j + 1 := ⟨k - 1, by omega⟩
          have hp : Y[j]?.getD 0 < (v' : Int) := hv' ▸ HOrd.out.asc (j + 1) (by omega) hlt
          obtain ⟨b', o', e, hc2⟩ := HYr.out j (by omega)
          injection e with e
          injection e with e1 e2
          subst e1 e2
          have c2 := HO.out.cell hc2 (by simpa using hbm)
          generalize Y[j]?.getD 0 = pv at hp c2
          clear hlt hc n0 hc2 hk0'
          obtain ⟨w8, hup, hM8, hO8⟩ := HM.out.store (by omega) hsv true
          rw [HStep.out] at hM8
          have HM8 := Lib.hid hM8
          have HO8 := Lib.hid hO8
          clear hM8 hO8
          go_wp2_with fail
          go_roundw
          case rel => exact ⟨(j + 1) + 1, by omega, by go_num, HO.out.trans HO8.out (by simp), HM8.out⟩
          case measure => simp [intOf]; omega
      · by_cases h5 : nk = 5
        · subst h5
          obtain ⟨j, rfl⟩ : ∃ j, k = j + 1 := ⟨k - 1, by
            have h1 := HKid.out na (by simp [kids])
            have : 0 < (Y.take k).length := List.length_pos_of_mem h1
            rw [List.length_take] at this
            omega⟩
          have hp : Y[j]?.getD 0 < (v' : Int) := hv' ▸ HOrd.out.asc (j + 1) (by omega) hlt
          obtain ⟨b', o', e, hc2⟩ := HYr.out j (by omega)
          injection e with e
          injection e with e1 e2
          subst e1 e2
          have c2 := HO.out.cell hc2 (by simpa using hbm)
          generalize Y[j]?.getD 0 = pv at hp c2
          have l1 := HM.out.look (HBd.out na (by simp [kids]))
          rw [show decide (na ∈ Y.take (j + 1)) = true from decide_eq_true (HKid.out na (by simp [kids]))] at l1
          clear hlt hc n0 hc2 h0
          obtain ⟨w8, hup, hM8, hO8⟩ := HM.out.store (by omega) hsv true
          rw [HStep.out] at hM8
          have HM8 := Lib.hid hM8
          have HO8 := Lib.hid hO8
          clear hM8 hO8
          go_wp2_with fail
          go_roundw
          case rel => exact ⟨(j + 1) + 1, by omega, by go_num, HO.out.trans HO8.out (by simp), HM8.out⟩
          case measure => simp [intOf]; omega
        · have g0 : (nk == 0) = false := by simpa using h0
          have g5 : (nk == 5) = false := by simpa using h5
          have g0' : (nk != 0) = true := by simpa using h0
          have g5' : (nk != 5) = true := by simpa using h5
          obtain ⟨j, rfl⟩ : ∃ j, k = j + 1 := ⟨k - 1, by
            have h1 := HKid.out na (by simp [kids, h0, h5])
            have : 0 < (Y.take k).length := List.length_pos_of_mem h1
            rw [List.length_take] at this
            omega⟩
          have hp : Y[j]?.getD 0 < (v' : Int) := hv' ▸ HOrd.out.asc (j + 1) (by omega) hlt
          obtain ⟨b', o', e, hc2⟩ := HYr.out j (by omega)
          injection e with e
          injection e with e1 e2
          subst e1 e2
          have c2 := HO.out.cell hc2 (by simpa using hbm)
          generalize Y[j]?.getD 0 = pv at hp c2
          have l1 := HM.out.look (HBd.out na (by simp [kids, h0, h5]))
          rw [show decide (na ∈ Y.take (j + 1)) = true from decide_eq_true (HKid.out na (by simp [kids, h0, h5]))] at l1
          have l2 := HM.out.look (HBd.out nb (by simp [kids, h0, h5]))
          rw [show decide (nb ∈ Y.take (j + 1)) = true from decide_eq_true (HKid.out nb (by simp [kids, h0, h5]))] at l2
          clear hlt hc n0 hc2 h0 h5
          obtain ⟨w8, hup, hM8, hO8⟩ := HM.out.store (by omega) hsv true
          rw [HStep.out] at hM8
          have HM8 := Lib.hid hM8
          have HO8 := Lib.hid hO8
          clear hM8 hO8
          go_wp2_with fail
          go_roundw
          case rel => exact ⟨(j + 1) + 1, by omega, by go_num, HO.out.trans HO8.out (by simp), HM8.out⟩
          case measure => simp [intOf]; omega
    · have hnl : ¬ (k : Int) < (Y.length : Int) := by omega
      have e : k = Y.length := by omega
      have HAllY : Hid (Y.take k = Y) := by
        show _ = _
        rw [e, List.take_length]
      rw [HAllY.out] at HM
      have hk80 : k ≤ 80 := by have := HYL.out; omega
      clear e hlt
      go_wp2_with fail
      have hxl : (X.length : Int) ≤ 80 := by have := HXL.out; omega
      go_loop [17] (fun i => ∃ q : Nat, q ≤ X.length ∧ i = .int .i64 (q : Int)) (fun i => X.length - (intOf i).toNat)
      case atStart => exact ⟨0, Nat.zero_le _, rfl⟩
      case round =>
        obtain ⟨q, hq, rfl⟩ := hrel
        by_cases hlt : q < X.length
        · obtain ⟨x', hx', hxn⟩ := HOrd.out.idsX.mem q hlt
          obtain ⟨bx, ox, rfl, hc⟩ := HXr6.out q hlt
          have hbx : bx ≠ m := by have := HXlt.out _ rfl; simp only at this; omega
          have c1 := HO.out.cell hc (by simpa using hbx)
          rw [hx'] at c1
          have l1 := HM.out.look (k := (x' : Int)) (by have := HLen.out; unfold Small; omega)
          rw [show decide ((x' : Int) ∈ Y) = true from decide_eq_true (hx' ▸ HOrd.out.sub _ (getD_mem hlt))] at l1
          have hlt' : (q : Int) < (X.length : Int) := by omega
          clear hx' hc hlt
          go_wp2_with fail
          go_round
          case rel => exact ⟨q + 1, by omega, by go_num⟩
          case measure => simp [intOf]; omega
        · have hnl' : ¬ (q : Int) < (X.length : Int) := by omega
          have l1 := HM.out.look (k := a0) (by unfold Small; omega)
          rw [show decide (a0 ∈ Y) = true from decide_eq_true HOrd.out.ha] at l1
          have l2 := HM.out.look (k := b0) (by unfold Small; omega)
          rw [show decide (b0 ∈ Y) = true from decide_eq_true HOrd.out.hb] at l2
          have hne := HOrd.out.ne
          obtain ⟨bx, ox, rfl, hc⟩ := HXr6.out (X.length - 1) (by omega)
          have hbx : bx ≠ m := by have := HXlt.out _ rfl; simp only at this; omega
          have c1 := HO.out.cell hc (by simpa using hbx)
          rw [HOrd.out.last] at c1
          have hdep : depOf ns a0 < (X.length : Int) := HOrd.out.dep
          have hx1 : 1 ≤ (X.length : Int) := by omega
          have HDep := Lib.hid (depth_any d v none ns a0 wr (HOwn.out.is.only ((HO36.out.mono (S' := [m]) (by simp)).trans HO.out (by simp)) (fun z hz => by
            have h1 := HOwn.out.is.lt z hz
            have h2 := HmW.out
            simp
            omega)) (ok_dag HAll.out) HNs.out (by unfold Small; omega))
          clear hc hlt hq
          go_wp2_with fail
          refine HDep.out.mono ?_
          rintro e w9 ⟨rfl, ho9⟩
          have HO9 := Lib.hid ho9
          clear ho9 HDep
          go_wp2_with fail
          go_ret
          exact ⟨rfl, (HW3.out.nil_trans HO36.out).trans (HO.out.nil_trans HO9.out) (fun z hz => .inr (by
            have h1 := HW3.out.size
            have h2 := HmW.out
            simp at hz
            omega))⟩

theorem orders_any (A B : Option Addr) (c c' : Nat) (kinds refs : List Int) (a b : Int) (w : World) (hA : IRead w A kinds) (hB : IRead w B refs) :
    Calls Try.prog 4 #[.slice A kinds.length c, .slice B refs.length c', .int .i64 a, .int .i64 b] w fun e w' => e = .returned (.bool true) ∧ Only [] w w' := by
  by_cases h : (80 < (kinds.length : Int) ∨ ((kinds.length : Int) ≤ 80 ∧ kinds.length = 0) ∨ ((kinds.length : Int) ≤ 80 ∧ kinds.length ≠ 0 ∧ 200 < (refs.length : Int)))
  · exact orders_out A B _ c _ c' a b w h
  · exact orders_in A B c c' kinds refs a b w hA hB (by omega) (by omega) (by omega)
end Go.Proofs.Ytaifgjkbagcbeaa
