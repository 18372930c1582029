/-
  NatSums: the law's walk.
-/
import Derived.Test.YtafipkighpjknaaDoorSums
import Derived.Test.YtafipkighpjknaaDoorGNV
import Derived.Test.YtafipkighpjknaaDoorGRefS
namespace Go.Proofs.YtafipkighpjknaaDoor
set_option linter.unusedSimpArgs false
open Go.RowKit

theorem lightB_of (L : List LI1) : lightB (L.map fun x => ⟨x.a, x.xs.length, x.c⟩) = decide (∀ x ∈ L, x.xs.length ≤ 40) := by
  unfold lightB
  rw [List.all_map]
  induction L with
  | nil => simp
  | cons x L ih => rw [List.all_cons, ih]; simp
set_option maxHeartbeats 800000 in
set_option maxRecDepth 100000 in
theorem sums_long (A : Option Addr) (n c : Nat) (z : Int) (w : World) (htab : Hid (Tab w)) (h : 12 < n) (hn : (n : Int) ≤ 9223372036854775807) :
    Calls Tryd.prog 4 #[.slice A n c, .int .i64 z] w fun e w' => e = .returned (.bool true) ∧ Only [] w w' := by
  have h1 : (12 : Int) < (n : Int) := by omega
  go_enter Tryd.func4, Tryd.ntmps4
  go_wp2_with fail
  refine (alive1_any w (Lib.hid (htab.out.only (Only.refl [] w)))).mono ?_
  rintro e w2 ⟨rfl, ho2⟩
  have HO2 := Lib.hid ho2
  clear ho2
  go_wp2_with fail
  go_ret
  exact ⟨rfl, HO2.out⟩
theorem slread_of {w : World} {A : Option Addr} {L : List LI1} (h : LimbssIn w A L) : SlRead w A (L.map fun x => ⟨x.a, x.xs.length, x.c⟩) := fun k hk => by
  rw [List.length_map] at hk
  obtain ⟨b, o, h1, h2⟩ := h.1 k hk
  exact ⟨b, o, h1, by rw [h2]; simp [LI1.v]⟩
set_option maxHeartbeats 800000 in
set_option maxRecDepth 100000 in
theorem sums_heavy (A : Option Addr) (n c : Nat) (L : List LI1) (z : Int) (w : World) (htab : Hid (Tab w)) (hL : Hid (LimbssIn w A L)) (hn : Hid (L.length = n)) (h : (n : Int) ≤ 12) (h40 : Hid (¬ ∀ x ∈ L, x.xs.length ≤ 40)) :
    Calls Tryd.prog 4 #[.slice A n c, .int .i64 z] w fun e w' => e = .returned (.bool true) ∧ Only [] w w' := by
  have hli := light_any A c _ w (Lib.hid (slread_of hL.out)) (by rw [List.length_map, hn.out]; omega)
  rw [List.length_map, hn.out, lightB_of, decide_eq_false h40.out] at hli
  have HLi := Lib.hid hli
  have h1 : ¬ (12 : Int) < (n : Int) := by omega
  clear hli
  go_enter Tryd.func4, Tryd.ntmps4
  go_wp2_with fail
  refine HLi.out.mono ?_
  rintro e w1 ⟨rfl, ho1⟩
  have HO1 := Lib.hid ho1
  clear ho1
  go_wp2_with fail
  refine (alive1_any w1 (Lib.hid (htab.out.only HO1.out))).mono ?_
  rintro e w2 ⟨rfl, ho2⟩
  have HO2 := Lib.hid (HO1.out.nil_trans ho2)
  clear ho2
  go_wp2_with fail
  go_ret
  exact ⟨rfl, HO2.out⟩
theorem tmod_bound (z : Int) {n : Int} (h : 0 < n) : -n < z.tmod n ∧ z.tmod n < n := by
  rcases Int.le_total 0 z with h0 | h0
  · rw [Int.tmod_eq_emod_of_nonneg h0]
    have := Int.emod_nonneg z (show n ≠ 0 by omega)
    have := Int.emod_lt_of_pos z h
    omega
  · rw [← Int.neg_neg z, Int.neg_tmod, Int.tmod_eq_emod_of_nonneg (show 0 ≤ -z by omega)]
    have := Int.emod_nonneg (-z) (show n ≠ 0 by omega)
    have := Int.emod_lt_of_pos (-z) h
    omega
set_option maxHeartbeats 6400000 in
set_option maxRecDepth 100000 in
theorem sums_in (A : Option Addr) (n c : Nat) (L : List LI1) (z : Int) (w : World) (htab : Hid (Tab w)) (hL : Hid (LimbssIn w A L)) (hn : Hid (L.length = n)) (h : (n : Int) ≤ 12) (h40 : Hid (∀ x ∈ L, x.xs.length ≤ 40)) (_ : -9223372036854775808 ≤ z ∧ z ≤ 9223372036854775807) :
    Calls Tryd.prog 4 #[.slice A n c, .int .i64 z] w fun e w' => e = .returned (.bool true) ∧ Only [] w w' := by
  have hli := light_any A c _ w (Lib.hid (slread_of hL.out)) (by rw [List.length_map, hn.out]; omega)
  rw [List.length_map, hn.out, lightB_of, decide_eq_true h40.out] at hli
  have HLi := Lib.hid hli
  have h1 : ¬ (12 : Int) < (n : Int) := by omega
  have HLt : Hid (Lt40 w L) := fun x hx => ⟨hL.out.2 x hx, h40.out x hx⟩
  have HLi12 : Hid (n ≤ 12) := by show _ ≤ _; omega
  clear hli
  go_enter Tryd.func4, Tryd.ntmps4
  go_wp2_with fail
  refine HLi.out.mono ?_
  rintro e w1 ⟨rfl, ho1⟩
  have HO1 := Lib.hid ho1
  clear ho1
  go_wp2_with fail
  refine (alive1_any w1 (Lib.hid (htab.out.only HO1.out))).mono ?_
  rintro e w2 ⟨rfl, ho2⟩
  have HO2 := Lib.hid (HO1.out.nil_trans ho2)
  clear ho2
  have HL2 : Hid (∀ (j : Nat) (hj : j < L.length), ∃ b o, A = some ⟨b, o, none⟩ ∧ w2.cell? ⟨b, o + j, none⟩ = some L[j].v) := fun j hj => by
    obtain ⟨b, o, e1, e2⟩ := hL.out.1 j hj
    exact ⟨b, o, e1, HO2.out.cell e2 (by simp)⟩
  have HLt2 := Lib.hid (HLt.out.only HO2.out)
  go_wp2_with fail
  go_loopw [5, 6, 7, 8] (fun v1 v2 v3 iv wr => ∃ (i c1 c2 k3 c3 : Nat) (A1 A2 A3 : Option Addr), i ≤ n ∧ v1 = .slice A1 i c1 ∧ v2 = .slice A2 i c2 ∧ v3 = .slice A3 k3 c3 ∧ iv = .int .i64 (i : Int) ∧ SC w2 wr L i A1 A2 A3 c1 c2 k3 c3) (fun _ _ _ iv _ => n - (intOf iv).toNat)
  case atStart => exact ⟨0, 0, 0, 0, 0, none, none, none, Nat.zero_le _, rfl, rfl, rfl, rfl, SC.start _ _⟩
  case round =>
    obtain ⟨i, c1, c2, k3, c3, A1, A2, A3, hi, rfl, rfl, rfl, rfl, hR⟩ := hrel
    have HR := Lib.hid hR
    clear hR
    by_cases hlt : i < n
    · have hlL : i < L.length := by have := hn.out; omega
      obtain ⟨q, hq⟩ : ∃ q, n - 1 - i = q := ⟨_, rfl⟩
      have hqL : q < L.length := by have := hn.out; omega
      obtain ⟨b, o, rfl, hc1⟩ := HL2.out i hlL
      obtain ⟨b', o', e6, hc2⟩ := HL2.out q hqL
      injection e6 with e6
      injection e6 with e7 e8 _
      subst e7 e8
      have hii : (i : Int) < (n : Int) := by omega
      obtain ⟨n1, hn1⟩ : ∃ q, n - 1 = q := ⟨_, rfl⟩
      have en1 : (n : Int) - 1 = (n1 : Int) := by omega
      have eq1 : (n1 : Int) - (i : Int) = (q : Int) := by omega
      have hqi : (q : Int) < (n : Int) := by omega
      have E1 : Hid (L.take (i + 1) = L.take i ++ [L[i]]) := List.take_succ_eq_append_getElem hlL
      have E2 : Hid (L.reverse.take (i + 1) = L.reverse.take i ++ [L[q]]) := by
        show _ = _
        rw [List.take_succ_eq_append_getElem (by rw [List.length_reverse]; exact hlL), List.getElem_reverse]
        have : L.length - 1 - i = q := by rw [hn.out]; exact hq
        simp only [this]
      have HOk := Lib.hid (HLt2.out L[i] (List.getElem_mem hlL))
      have HTk : Hid (Lt40 w2 (L.take i)) := HLt2.out.sub (fun x hx => List.mem_of_mem_take hx)
      have HLen1 : Hid (i = (L.take i).length) := by show _ = _; rw [List.length_take]; omega
      have HLen2 : Hid (i = (L.reverse.take i).length) := by show _ = _; rw [List.length_take, List.length_reverse]; omega
      generalize L[i] = z1 at hc1 E1 HOk
      generalize L[q] = z2 at hc2 E2
      obtain ⟨za, zc, zxs⟩ := z1
      obtain ⟨ya, yc, yxs⟩ := z2
      have cz1 : w2.cell? ⟨b, o + i, none⟩ = some (.slice za zxs.length zc) := hc1
      have cz2 : w2.cell? ⟨b, o + q, none⟩ = some (.slice ya yxs.length yc) := hc2
      have d1 := HR.out.only.cell cz1 (by simp)
      clear hc1 hc2 hq hn1
      go_upto_region 9 with (at_builtin; refine append_row1 rfl _ _ rfl (.slice A1 i c1) i (L.take i) ⟨za, zc, zxs⟩ rfl (HR.out.r1.only ((Only.refl [] wr).alloc _) (by simp)) HLen1.out wr.heap.size rfl (Blk.new wr 28 [(LI1.mk za zc zxs).v]) (by omega) (by have := HR.out.only.size; simp only [World.size_alloc]; omega) ?_; intro A1' c1' w3 h1' h2' h3'; have H1 := Lib.hid h1'; have B1 := Lib.hid h2'; have O1 := Lib.hid h3'; clear h1' h2' h3')
      have ho1 := HR.out.one ((Only.refl [] wr).alloc _) O1.out
      have d2 := ho1.2.2.cell cz2 (by simp)
      have HA2 := Lib.hid ho1.1
      have HSz : Hid (w2.heap.size ≤ w3.heap.size) := ho1.2.2.size
      clear ho1 d1
      go_upto_region 10 with (at_builtin; refine append_row1 rfl _ _ rfl (.slice A2 i c2) i (L.reverse.take i) ⟨ya, yc, yxs⟩ rfl (HA2.out.only ((Only.refl [] w3).alloc _) (by simp)) HLen2.out w3.heap.size rfl (Blk.new w3 28 [(LI1.mk ya yc yxs).v]) (by omega) (by have := HSz.out; simp only [World.size_alloc]; omega) ?_; intro A2' c2' w4 h1' h2' h3'; have H2 := Lib.hid h1'; have B2 := Lib.hid h2'; have O2 := Lib.hid h3'; clear h1' h2' h3')
      have ho2 := HR.out.two ((Only.refl [] wr).alloc _) O1.out ((Only.refl [] w3).alloc _) O2.out
      have d3 := ho2.2.cell cz1 (by simp)
      have HS4 := Lib.hid ho2.1
      have HV4 : Hid (NV w4 (.slice za zxs.length zc) (val zxs)) := by
        have hk := HOk.out
        exact NV.mk ⟨(hk.1.1.only ho2.2).1, hk.1.1.2, by have := hk.2; simp only at this; omega⟩ hk.1.2.1 (by have := hk.2; simp only at this; omega)
      have HFv : Hid (Few (val zxs)) := HV4.out.few
      have HFs : Hid (Few (tot (L.take i))) := (tot_few HTk.out (by rw [List.length_take]; have := HLi12.out; omega)).few (by omega)
      clear ho2 d2 cz2
      go_wp2_with fail
      refine (from_v HV4).mono ?_
      rintro e w5 ⟨B5, l5, d5, rfl, hv5, -, ho5⟩
      have HV5 := Lib.hid hv5
      have HS5 := Lib.hid (HS4.out.only ho5)
      have HO5 := Lib.hid ho5
      clear hv5 ho5
      go_wp2_with fail
      refine (radd_v HS5 HV5 HFs HFv).mono ?_
      rintro e w6 ⟨A4, k4, c4, rfl, hv6, hf6, ho6⟩
      have HV6 := Lib.hid hv6
      have HF6 : Hid (∀ a, A4 = some a → w4.heap.size ≤ a.block) := fun a e => Nat.le_trans HO5.out.size (hf6 a e)
      have HO6 := Lib.hid (HO5.out.nil_trans ho6)
      clear hv6 hf6 ho6
      go_wp2_with fail
      go_roundw
      case rel => exact ⟨i + 1, c1', c2', k4, c4, A1', A2', A4, by omega, rfl, rfl, rfl, by go_num, HR.out.next E1.out E2.out ((Only.refl [] wr).alloc _) O1.out H1.out B1.out ((Only.refl [] w3).alloc _) O2.out H2.out B2.out HO6.out HV6.out HF6.out⟩
      case measure => simp [intOf]; omega
    · obtain rfl : n = i := by omega
      have HR1 : Hid (ARow w2 wr (.slice A1 n c1) L) := by have h1 := HR.out.r1; rwa [List.take_of_length_le (Nat.le_of_eq hn.out)] at h1
      have HR2 : Hid (ARow w2 wr (.slice A2 n c2) L.reverse) := by have h1 := HR.out.r2; rwa [List.take_of_length_le (by rw [List.length_reverse]; exact Nat.le_of_eq hn.out)] at h1
      have HS : Hid (RV wr (.slice A3 k3 c3) (tot L)) := by have h1 := HR.out.sm; rwa [List.take_of_length_le (Nat.le_of_eq hn.out)] at h1
      have HOr := Lib.hid HR.out.only
      have HLtR : Hid (Lt40 w2 L.reverse) := HLt2.out.sub (fun x hx => List.mem_reverse.1 hx)
      have HFt : Hid (Few (tot L)) := (tot_few HLt2.out (by rw [hn.out]; exact HLi12.out)).few (by omega)
      have hnl : ¬ (n : Int) < (n : Int) := by omega
      clear HR hlt
      go_wp2_with fail
      refine (addRow_v HR1 (Lib.hid (HLt2.out.only HOr.out)) (by rw [hn.out]; exact HLi12.out)).mono ?_
      rintro e w5 ⟨A5, k5, c5, rfl, hr5, hv5, ho5⟩
      have HK5 := Lib.hid hr5.len
      have HE := Lib.hid (((Env.start wr).step ho5).push hv5)
      clear hr5 hv5 ho5
      go_wp2_with fail
      have hx0 := Env.at HE 0 rfl rfl
      (with_reducible refine (is_nv hx0 HK5 (Lib.hid (HS.out.only HE.out.only)) HFt).mono ?_)
      clear hx0
      rintro e w6 ⟨rfl, ho⟩
      rw [decide_eq_true rfl]
      replace HE := Lib.hid (HE.out.step ho)
      clear ho
      go_wp2_with fail
      have had := addRow_v (Lib.hid (HR2.out.only HE.out.only (by simp))) (Lib.hid (HLtR.out.only (HOr.out.nil_trans HE.out.only))) (by rw [List.length_reverse, hn.out]; exact HLi12.out)
      rw [tot_reverse] at had
      refine had.mono ?_
      clear had
      rintro e w7 ⟨A7, k7, c7, rfl, hr7, hv7, ho7⟩
      have HK7 := Lib.hid hr7.len
      replace HE := Lib.hid ((HE.out.step ho7).push hv7)
      clear hr7 hv7 ho7
      go_wp2_with fail
      have hx0 := Env.at HE 0 rfl rfl
      (with_reducible refine (is_nv hx0 HK7 (Lib.hid (HS.out.only HE.out.only)) HFt).mono ?_)
      clear hx0
      rintro e w8 ⟨rfl, ho⟩
      rw [decide_eq_true rfl]
      replace HE := Lib.hid (HE.out.step ho)
      clear ho
      by_cases h0 : n = 0
      · have hz0 : ((n : Int) == 0) = true := by rw [beq_iff_eq]; omega
        clear h0
        go_wp2_with fail
        go_ret
        exact ⟨rfl, (HO2.out.nil_trans HOr.out).nil_trans HE.out.only⟩
      · have hz0 : ((n : Int) == 0) = false := by rw [beq_eq_false_iff_ne]; omega
        have hnp : (0 : Int) < (n : Int) := by omega
        obtain ⟨g1, g2⟩ := tmod_bound z hnp
        obtain ⟨y0, hy0⟩ : ∃ y, z.tmod (n : Int) = y := ⟨_, rfl⟩
        rw [hy0] at g1 g2
        obtain ⟨m1, hm1⟩ : ∃ m1 : Nat, y0 + (n : Int) = (m1 : Int) := ⟨(y0 + (n : Int)).toNat, by omega⟩
        obtain ⟨k, hk⟩ : ∃ k, m1 % n = k := ⟨_, rfl⟩
        have hkn : k < n := by rw [← hk]; exact Nat.mod_lt _ (by omega)
        have hk1 : (m1 : Int) % (n : Int) = (k : Int) := by rw [← hk]; rfl
        have hk2 : (m1 : Int).tmod (n : Int) = (k : Int) := by rw [Int.tmod_eq_emod_of_nonneg (by omega)]; exact hk1
        have hne : (n : Int) ≠ 0 := by omega
        clear hk h0 hnp
        go_upto_region 17 with fail
        obtain ⟨A1', c1', e7, hcell, hcap, -⟩ := HR1.out.read
        injection e7 with e8 e9 e10
        subst e8 e10
        clear e9
        obtain ⟨ga, rfl, -⟩ := hcell 0 (by rw [hn.out]; omega)
        have HC : Hid (∀ (j : Nat) (hj : j < L.length), wr.cell? ⟨ga, j, none⟩ = some L[j].v) := fun j hj => by
          obtain ⟨b', e1, e2⟩ := hcell j hj
          injection e1 with e1
          injection e1 with e1 _ _
          subst e1
          rwa [Nat.zero_add] at e2
        have hcap' : n ≤ c1 := by rw [hn.out] at hcap; exact hcap
        obtain ⟨k1, hk1e⟩ : ∃ k1, k + 1 = k1 := ⟨_, rfl⟩
        have hkc : k ≤ c1 := by omega
        have hkw : IntKind.i64.wrap ((k : Int) + 1) = (k1 : Int) := by rw [show (k : Int) + 1 = (k1 : Int) by omega]; rw [IntKind.wrap_i64]; omega
        have hkn1 : (k1 : Int) ≤ (n : Int) := by omega
        obtain ⟨ot, hot, hoe⟩ : ∃ ot, (k1 ≠ c1 → ot = k1) ∧ (if c1 = k1 then (some ⟨ga, 0, none⟩ : Option Addr) else some ⟨ga, k1, none⟩) = some ⟨ga, ot, none⟩ := by
          by_cases h0 : c1 = k1
          · exact ⟨0, fun hne => absurd h0.symm hne, by rw [if_pos h0]⟩
          · exact ⟨k1, fun _ => rfl, by rw [if_neg h0]⟩
        obtain ⟨nt, hnt⟩ : ∃ nt, n - k1 = nt := ⟨_, rfl⟩
        have HJ1 : Hid (k = (L.take k).length) := by show _ = _; rw [List.length_take, hn.out]; omega
        have HJ2 : Hid (nt = (L.drop k1).length) := by show _ = _; rw [List.length_drop, hn.out]; omega
        have HC1 : Hid (∀ wx, Only [] wr wx → ∀ (j : Nat) (hj : j < (L.take k).length), wx.cell? ((⟨ga, 0, none⟩ : Addr).add j) = some (L.take k)[j].v) := fun wx ho j hj => by
          rw [addr_plus, Nat.zero_add, List.getElem_take]
          exact ho.cell (HC.out j (by rw [List.length_take] at hj; omega)) (by simp)
        have HC2 : Hid (∀ wx, Only [] wr wx → ∀ (j : Nat) (hj : j < (L.drop k1).length), wx.cell? ((⟨ga, ot, none⟩ : Addr).add j) = some (L.drop k1)[j].v) := fun wx ho j hj => by
          have hj2 := hj
          rw [List.length_drop, hn.out] at hj2
          rw [addr_plus, List.getElem_drop, hot (by omega)]
          exact ho.cell (HC.out (k1 + j) (by rw [hn.out]; omega)) (by simp)
        have HSz : Hid (w2.heap.size ≤ w8.heap.size) := (HOr.out.nil_trans HE.out.only).size
        have HK := Lib.hid hkn
        have hk12 : k ≤ 500 := by omega
        have hnt12 : nt ≤ 500 := by omega
        have HK1 := Lib.hid hk1e
        have HNT : Hid (k + nt ≤ 12) := by show _ ≤ _; omega
        clear hcell hot hcap hcap' hkn hk1 hk2 hne hm1 hy0 g1 g2 hk1e
        apply wp_region_typed_tail2 8 (by kernel_rfl) [isV _, isV _, isV _, isAR w2 w8.heap.size k (L.take k), isV _, isV _, isV _, isV _] [[], [], [0, 1], [2], [], [], [5], [4, 6]] (by kernel_rfl) (by kernel_rfl) (by kernel_rfl)
        case ho =>
          simp only [List.take_succ_cons, List.take_zero]
          refine owes2_cons (fun wx hox => ?_) ?_
          · skip
            skip
            refine withs_plain rfl ?_
            simp only [withs, List.getElem?_cons_zero, List.getElem?_cons_succ, Option.bind, Option.getD]
            repeat (first | (with_reducible refine all_isV ?_) | (with_reducible refine all_isWC ?_; intro sx Ax kx cx hvx hwx) | (with_reducible refine all_isNR ?_; intro Ax kx cx hvx) | (with_reducible refine all_isNV ?_; intro Ax kx cx hvx) | (with_reducible refine all_isDV ?_; intro sx Ax kx cx hvx) | (with_reducible refine all_isWV ?_; intro sx Ax kx cx hvx) | (with_reducible refine all_isD ?_; intro sx Ax kx cx hvx hwx) | (with_reducible refine all_isRow ?_; intro gx' hbx) | (with_reducible refine all_isPtr ?_; intro gp' hbp hgp) | (with_reducible refine all_isRow1 ?_; intro gx' sr Ar kr cr hbx hvr))
            go_simp
            exact ⟨Only.refl _ _, isV.self _ _⟩
          refine owes2_cons (fun wx hox => ?_) ?_
          · skip
            skip
            refine withs_plain rfl ?_
            simp only [withs, List.getElem?_cons_zero, List.getElem?_cons_succ, Option.bind, Option.getD]
            repeat (first | (with_reducible refine all_isV ?_) | (with_reducible refine all_isWC ?_; intro sx Ax kx cx hvx hwx) | (with_reducible refine all_isNR ?_; intro Ax kx cx hvx) | (with_reducible refine all_isNV ?_; intro Ax kx cx hvx) | (with_reducible refine all_isDV ?_; intro sx Ax kx cx hvx) | (with_reducible refine all_isWV ?_; intro sx Ax kx cx hvx) | (with_reducible refine all_isD ?_; intro sx Ax kx cx hvx hwx) | (with_reducible refine all_isRow ?_; intro gx' hbx) | (with_reducible refine all_isPtr ?_; intro gp' hbp hgp) | (with_reducible refine all_isRow1 ?_; intro gx' sr Ar kr cr hbx hvr))
            go_simp
            exact ⟨Only.refl _ _, isV.self _ _⟩
          refine owes2_cons (fun wx hox => ?_) ?_
          · skip
            skip
            refine withs_plain rfl ?_
            simp only [withs, List.getElem?_cons_zero, List.getElem?_cons_succ, Option.bind, Option.getD]
            repeat (first | (with_reducible refine all_isV ?_) | (with_reducible refine all_isWC ?_; intro sx Ax kx cx hvx hwx) | (with_reducible refine all_isNR ?_; intro Ax kx cx hvx) | (with_reducible refine all_isNV ?_; intro Ax kx cx hvx) | (with_reducible refine all_isDV ?_; intro sx Ax kx cx hvx) | (with_reducible refine all_isWV ?_; intro sx Ax kx cx hvx) | (with_reducible refine all_isD ?_; intro sx Ax kx cx hvx hwx) | (with_reducible refine all_isRow ?_; intro gx' hbx) | (with_reducible refine all_isPtr ?_; intro gp' hbp hgp) | (with_reducible refine all_isRow1 ?_; intro gx' sr Ar kr cr hbx hvr))
            go_simp
            exact ⟨Only.refl _ _, isV.self _ _⟩
          refine owes2_cons (fun wx hox => ?_) ?_
          · skip
            skip
            refine withs_plain rfl ?_
            simp only [withs, List.getElem?_cons_zero, List.getElem?_cons_succ, Option.bind, Option.getD]
            repeat (first | (with_reducible refine all_isV ?_) | (with_reducible refine all_isWC ?_; intro sx Ax kx cx hvx hwx) | (with_reducible refine all_isNR ?_; intro Ax kx cx hvx) | (with_reducible refine all_isNV ?_; intro Ax kx cx hvx) | (with_reducible refine all_isDV ?_; intro sx Ax kx cx hvx) | (with_reducible refine all_isWV ?_; intro sx Ax kx cx hvx) | (with_reducible refine all_isD ?_; intro sx Ax kx cx hvx hwx) | (with_reducible refine all_isRow ?_; intro gx' hbx) | (with_reducible refine all_isPtr ?_; intro gp' hbp hgp) | (with_reducible refine all_isRow1 ?_; intro gx' sr Ar kr cr hbx hvr))
            (refine grow_rows _ _ rfl rfl k c1 (L.take k) ⟨ga, 0, none⟩ rfl HJ1.out (HC1.out _ (HE.out.only.nil_trans hox)) (Nat.le_trans hk12 (by decide)) (Nat.le_trans HSz.out hox.size) hox.size)
          refine owes2_cons (fun wx hox => ?_) ?_
          · skip
            skip
            refine withs_plain rfl ?_
            simp only [withs, List.getElem?_cons_zero, List.getElem?_cons_succ, Option.bind, Option.getD]
            repeat (first | (with_reducible refine all_isV ?_) | (with_reducible refine all_isWC ?_; intro sx Ax kx cx hvx hwx) | (with_reducible refine all_isNR ?_; intro Ax kx cx hvx) | (with_reducible refine all_isNV ?_; intro Ax kx cx hvx) | (with_reducible refine all_isDV ?_; intro sx Ax kx cx hvx) | (with_reducible refine all_isWV ?_; intro sx Ax kx cx hvx) | (with_reducible refine all_isD ?_; intro sx Ax kx cx hvx hwx) | (with_reducible refine all_isRow ?_; intro gx' hbx) | (with_reducible refine all_isPtr ?_; intro gp' hbp hgp) | (with_reducible refine all_isRow1 ?_; intro gx' sr Ar kr cr hbx hvr))
            go_simp
            exact ⟨Only.refl _ _, isV.self _ _⟩
          refine owes2_cons (fun wx hox => ?_) ?_
          · skip
            skip
            refine withs_plain rfl ?_
            simp only [withs, List.getElem?_cons_zero, List.getElem?_cons_succ, Option.bind, Option.getD]
            repeat (first | (with_reducible refine all_isV ?_) | (with_reducible refine all_isWC ?_; intro sx Ax kx cx hvx hwx) | (with_reducible refine all_isNR ?_; intro Ax kx cx hvx) | (with_reducible refine all_isNV ?_; intro Ax kx cx hvx) | (with_reducible refine all_isDV ?_; intro sx Ax kx cx hvx) | (with_reducible refine all_isWV ?_; intro sx Ax kx cx hvx) | (with_reducible refine all_isD ?_; intro sx Ax kx cx hvx hwx) | (with_reducible refine all_isRow ?_; intro gx' hbx) | (with_reducible refine all_isPtr ?_; intro gp' hbp hgp) | (with_reducible refine all_isRow1 ?_; intro gx' sr Ar kr cr hbx hvr))
            go_simp
            exact ⟨Only.refl _ _, isV.self _ _⟩
          refine owes2_cons (fun wx hox => ?_) ?_
          · skip
            skip
            refine withs_plain rfl ?_
            simp only [withs, List.getElem?_cons_zero, List.getElem?_cons_succ, Option.bind, Option.getD]
            repeat (first | (with_reducible refine all_isV ?_) | (with_reducible refine all_isWC ?_; intro sx Ax kx cx hvx hwx) | (with_reducible refine all_isNR ?_; intro Ax kx cx hvx) | (with_reducible refine all_isNV ?_; intro Ax kx cx hvx) | (with_reducible refine all_isDV ?_; intro sx Ax kx cx hvx) | (with_reducible refine all_isWV ?_; intro sx Ax kx cx hvx) | (with_reducible refine all_isD ?_; intro sx Ax kx cx hvx hwx) | (with_reducible refine all_isRow ?_; intro gx' hbx) | (with_reducible refine all_isPtr ?_; intro gp' hbp hgp) | (with_reducible refine all_isRow1 ?_; intro gx' sr Ar kr cr hbx hvr))
            go_simp
            exact ⟨Only.refl _ _, isV.self _ _⟩
          refine owes2_cons (fun wx hox => ?_) ?_
          · skip
            skip
            refine withs_plain rfl ?_
            simp only [withs, List.getElem?_cons_zero, List.getElem?_cons_succ, Option.bind, Option.getD]
            repeat (first | (with_reducible refine all_isV ?_) | (with_reducible refine all_isWC ?_; intro sx Ax kx cx hvx hwx) | (with_reducible refine all_isNR ?_; intro Ax kx cx hvx) | (with_reducible refine all_isNV ?_; intro Ax kx cx hvx) | (with_reducible refine all_isDV ?_; intro sx Ax kx cx hvx) | (with_reducible refine all_isWV ?_; intro sx Ax kx cx hvx) | (with_reducible refine all_isD ?_; intro sx Ax kx cx hvx hwx) | (with_reducible refine all_isRow ?_; intro gx' hbx) | (with_reducible refine all_isPtr ?_; intro gp' hbp hgp) | (with_reducible refine all_isRow1 ?_; intro gx' sr Ar kr cr hbx hvr))
            go_simp
            exact ⟨Only.refl _ _, isV.self _ _⟩
          exact owes2_nil
        case he =>
          simp only [List.drop_succ_cons, List.drop_zero]
          intro wx hox
          refine withs_of (by simp only [List.length, List.range, List.range.loop]; exact rfl) ?_
          simp only [withs, List.getElem?_cons_zero, List.getElem?_cons_succ, Option.bind, Option.getD]
          with_reducible refine all_isV ?_
          with_reducible refine all_isV ?_
          with_reducible refine all_isV ?_
          with_reducible refine all_isAR ?_
          intro A9 c9 hr9 hf9
          with_reducible refine all_isV ?_
          with_reducible refine all_isV ?_
          with_reducible refine all_isV ?_
          with_reducible refine all_isV ?_
          go_simp
          have HX := Lib.hid hox
          clear hox hoe hkc hkw hkn1 hnt
          go_upto_region 18 with (at_builtin; refine append_rows rfl _ _ rfl (.slice A9 k c9) k nt (c1 - k1) (L.take k) (L.drop k1) rfl hr9.out HJ1.out ⟨ga, ot, none⟩ rfl HJ2.out (HC2.out _ (HE.out.only.nil_trans HX.out)) (by omega) (Nat.le_trans HSz.out HX.out.size) ?_; intro v' w10 h1' h2' h3'; obtain ⟨A10, c10, e10, -⟩ := h1'.read; subst e10; obtain ⟨n2, hn2⟩ : ∃ n2, (L.take k ++ L.drop k1).length = n2 := ⟨_, rfl⟩; rw [hn2] at h1' ⊢; have HR10 := Lib.hid h1'; have O10 := Lib.hid h3'; have HN2 := Lib.hid hn2; clear h1' h2' h3' hn2)
          have HO10 : Hid (Only [] w8 w10) := HX.out.trans O10.out (fun b hb => .inr (hf9.out b (mem_own hb)))
          have hkL : k < L.length := by rw [hn.out]; exact HK.out
          have cz := (HE.out.only.nil_trans HO10.out).cell (HC.out k hkL) (by simp)
          have HOk := Lib.hid (HLt2.out L[k] (List.getElem_mem hkL))
          have HSum : Hid (tot (L.take k ++ L.drop k1) + val L[k].xs = tot L) := by
            show _ = _
            have e1 : L.take (k + 1) = L.take k ++ [L[k]] := List.take_succ_eq_append_getElem hkL
            have e2 := List.take_append_drop (k + 1) L
            have e3 : tot L = tot (L.take (k + 1) ++ L.drop (k + 1)) := by rw [e2]
            rw [HK1.out] at e3
            rw [e3, ← HK1.out, e1, tot_append, tot_append, tot_append, tot_one]
            omega
          have HLtT : Hid (Lt40 w10 (L.take k ++ L.drop k1)) := ((HLt2.out.only (HOr.out.nil_trans HE.out.only)).only HO10.out).sub (fun x hx => by
            rcases List.mem_append.1 hx with h | h
            · exact List.mem_of_mem_take h
            · exact List.mem_of_mem_drop h)
          have HLn : Hid ((L.take k ++ L.drop k1).length ≤ 12) := by
            show _ ≤ _
            rw [List.length_append, ← HJ1.out, ← HJ2.out]
            exact HNT.out
          generalize L[k] = zk at cz HOk HSum
          obtain ⟨ya, yc, yxs⟩ := zk
          have cz1 : w10.cell? ⟨ga, k, none⟩ = some (.slice ya yxs.length yc) := cz
          have HVk : Hid (NV w10 (.slice ya yxs.length yc) (val yxs)) := by
            have hk := HOk.out
            have ho := (HOr.out.nil_trans HE.out.only).nil_trans HO10.out
            exact NV.mk ⟨(hk.1.1.only ho).1, hk.1.1.2, by have := hk.2; simp only at this; omega⟩ hk.1.2.1 (by have := hk.2; simp only at this; omega)
          have hkn : (k : Int) < (n : Int) := by have := HK.out; omega
          have HDec : Hid (decide (val yxs ≤ tot L) = true) := decide_eq_true (by have := HSum.out; simp only at this; omega)
          have HDif : Hid (tot L - val yxs = tot (L.take k ++ L.drop k1)) := by have := HSum.out; simp only at this; show _ = _; omega
          replace HE := Lib.hid (HE.out.step HO10.out)
          clear cz hkL
          go_wp2_with fail
          have hx0 := Env.at HE 1 rfl rfl
          (with_reducible refine (sub_v hx0 HVk).mono ?_)
          clear hx0
          rintro e w11 ⟨A11, k11, c11, _, rfl, rfl, -, hv, ho⟩
          rw [HDec.out]
          rw [HDif.out] at hv
          have HO11 := Lib.hid ho
          replace HE := Lib.hid ((HE.out.step ho).push hv)
          clear hv ho cz1
          go_wp2_with fail
          refine (addRow_v (Lib.hid (HR10.out.only HO11.out (by simp))) (Lib.hid (HLtT.out.only HO11.out)) HLn.out).mono ?_
          rintro e w12 ⟨A12, k12, c12, rfl, -, hv, ho⟩
          replace HE := Lib.hid ((HE.out.step ho).push hv)
          clear hv ho
          go_wp2_with fail
          have hx0 := Env.at HE 1 rfl rfl
          have hx1 := Env.at HE 0 rfl rfl
          (with_reducible refine (cmp_v hx0 hx1).mono ?_)
          clear hx0 hx1
          rintro e w13 ⟨rfl, ho⟩
          rw [cmp_eq rfl]
          replace HE := Lib.hid (HE.out.step ho)
          clear ho
          go_wp2_with fail
          go_ret
          exact ⟨rfl, (HO2.out.nil_trans HOr.out).nil_trans HE.out.only⟩
        case hl =>
          repeat (refine List.forall_mem_cons.2 ⟨?_, ?_⟩; (first | exact isV.lasts _ | exact isAR.lasts _ _ _ _))
          exact fun _ h => (by cases h)
theorem natSums_any (A : Option Addr) (c : Nat) (L : List LI1) (z : Int) (w : World) (hA : LimbssIn w A L) (_ : L.length ≤ c) (hm : c ≤ maxLen) (hz : (Lit.int .i64 z).wf = true) (htab : Tab w) (_ : Tab6 w) :
    Calls Tryd.prog 4 #[.slice A L.length c, .int .i64 z] w fun e w' => e = .returned (.bool true) ∧ Only [] w w' := by
  have hz' : -9223372036854775808 ≤ z ∧ z ≤ 9223372036854775807 := by
    have hb : IntKind.i64.min ≤ z ∧ z ≤ 9223372036854775807 := by simpa [Lit.wf] using hz
    exact ⟨hb.1, hb.2⟩
  by_cases h1 : 12 < L.length
  · exact sums_long A _ c z w htab h1 (by simp only [maxLen] at hm; omega)
  · by_cases h2 : ∀ x ∈ L, x.xs.length ≤ 40
    · exact sums_in A _ c L z w htab (Lib.hid hA) (Lib.hid rfl) (by omega) (Lib.hid h2) hz'
    · exact sums_heavy A _ c L z w htab (Lib.hid hA) (Lib.hid rfl) (by omega) (Lib.hid h2)
end Go.Proofs.YtafipkighpjknaaDoor
