/-
  Joined texts.
-/
import Derived.Test.YtigpnopeacicpaaDoorTbBoN
import Derived.Test.YtigpnopeacicpaaDoorTbJ16
import Derived.Test.YtigpnopeacicpaaDoorTbJ5
import Derived.Test.YtigpnopeacicpaaDoorTbJ7
/-
  The reference's parts and what is known of each number: plain.
-/
namespace Go.Proofs.YtigpnopeacicpaaDoor
set_option linter.unusedSimpArgs false

theorem comb_okOf {lf : Nat → En} (hlf : ∀ v, (lf v).ok = true) (n : Nd) (a b : En) (ha : n.k ≠ 0 → a.ok = true) (hb : n.k ≠ 0 → n.k ≠ 5 → b.ok = true) : (combE lf n a b).ok = true := by
  unfold combE
  split
  · exact hlf _
  · rename_i h0
    split
    · simp [ha h0, hb h0 (by omega)]
    · split
      · simp [ha h0, hb h0 (by omega)]
      · split
        · simp [ha h0, hb h0 (by omega)]
        · split <;> exact ha h0
theorem mem_below {ns : List Nd} (ok : OkDag ns) {x y : Int} : y ∈ belowOf ns x ↔ Reach ns (· ∈ [x]) y := mem_belowL ok
theorem ent_whole {ns : List Nd} (ok : DagOk ns) : ∀ (n x : Nat), x < n → x < ns.length → ((ent lfB ns (x : Int)).ok = true ↔ ∀ y ∈ belowOf ns (x : Int), clipB ns y = true)
  | 0, _, h, _ => by omega
  | n + 1, x, h, hx => by
    have he := ent_eq lfB ok.ok ok.nodes.kind hx
    have hkid := ok.ok (x : Int) (by omega) (by omega)
    have hkk := ok.nodes.kind x hx
    have hka : (nodeAt ns (x : Int)).k ≠ 0 → (nodeAt ns (x : Int)).a ∈ kids (nodeAt ns (x : Int)) := fun h0 => by unfold kids; rw [if_neg h0]; split <;> simp
    have hkb : (nodeAt ns (x : Int)).k ≠ 0 → (nodeAt ns (x : Int)).k ≠ 5 → (nodeAt ns (x : Int)).b ∈ kids (nodeAt ns (x : Int)) := fun h0 h5 => by unfold kids; rw [if_neg h0, if_neg h5]; simp
    have ih : ∀ c ∈ kids (nodeAt ns (x : Int)), ((ent lfB ns c).ok = true ↔ ∀ y ∈ belowOf ns c, clipB ns y = true) := fun c hc => by
      have h1 := hkid c hc
      have h2 := ent_whole ok n c.toNat (by omega) (by omega)
      rwa [show ((c.toNat : Nat) : Int) = c by omega] at h2
    constructor
    · intro hw y hy
      rw [he] at hw
      obtain ⟨h1, h2⟩ := clip_whole hw
      have h3 := comb_whole _ _ _ h1
      rcases reach_step ok.ok ((mem_below ok.ok).1 hy) with e | ⟨c, hc, h4⟩
      · subst e
        unfold clipB
        by_cases h0 : (nodeAt ns (x : Int)).k = 0
        · simp [h0]
        · have h5 : (combOf ns (x : Int)).u ≤ topB ∧ (combOf ns (x : Int)).l ≤ topB := by
            have e2 : clipE (combOf ns (x : Int)) = combOf ns (x : Int) := h2
            have e3 : (clipE (combOf ns (x : Int))).u ≤ topB ∧ (clipE (combOf ns (x : Int))).l ≤ topB := by
              unfold clipE
              exact ⟨by dsimp only; omega, by dsimp only; omega⟩
            rw [e2] at e3
            exact e3
          simp [h5.1, h5.2]
      · have hok : (ent lfB ns c).ok = true := by
          unfold kids at hc
          split at hc
          · cases hc
          · rename_i h0
            split at hc
            · have e : c = (nodeAt ns (x : Int)).a := by simpa using hc
              exact e ▸ h3.1 h0
            · rename_i h5
              have e : c = (nodeAt ns (x : Int)).a ∨ c = (nodeAt ns (x : Int)).b := by simpa using hc
              rcases e with e | e
              · exact e ▸ h3.1 h0
              · exact e ▸ h3.2 h0 h5 (by omega)
        exact (ih c hc).1 hok y ((mem_below ok.ok).2 h4)
    · intro hall
      have hself := hall (x : Int) ((mem_below ok.ok).2 (.root _ (by simp) (by omega) (by omega)))
      have hkids : ∀ c ∈ kids (nodeAt ns (x : Int)), (ent lfB ns c).ok = true := fun c hc => (ih c hc).2 fun y hy => hall y ((mem_below ok.ok).2 (reach_up (by omega) (by omega) hc ((mem_below ok.ok).1 hy)))
      have h1 : (combOf ns (x : Int)).ok = true := comb_okOf lfB_whole _ _ _ (fun h0 => hkids _ (hka h0)) (fun h0 h5 => hkids _ (hkb h0 h5))
      have h2 : (combOf ns (x : Int)).u ≤ topB ∧ (combOf ns (x : Int)).l ≤ topB := by
        by_cases h0 : (nodeAt ns (x : Int)).k = 0
        · have e : combOf ns (x : Int) = lfB (nodeAt ns (x : Int)).f := by unfold combOf combE; rw [if_pos h0]
          have := lfB_ok (nodeAt ns (x : Int)).f
          rw [e, topB_val]
          omega
        · unfold clipB at hself
          simpa [h0] using hself
      rw [he]
      show ((combOf ns (x : Int)).ok && (decide ((combOf ns (x : Int)).u ≤ topB) && decide ((combOf ns (x : Int)).l ≤ topB))) = true
      rw [h1, decide_eq_true h2.1, decide_eq_true h2.2]
      rfl
theorem partsB_ent {ns : List Nd} (ok : DagOk ns) {x : Nat} (hx : x < ns.length) : partsB ns (belowOf ns (x : Int)) (belowOf ns (x : Int)) = (ent lfB ns (x : Int)).ok := by
  have h := ent_whole ok (x + 1) x (by omega) hx
  have hlen : 0 < (belowOf ns (x : Int)).length := List.length_pos_of_mem (below_self ok.ok hx)
  unfold partsB
  rw [decide_eq_true hlen, Bool.true_and, Bool.eq_iff_iff, List.all_eq_true]
  exact h.symm
end Go.Proofs.YtigpnopeacicpaaDoor

/-
  The reference's Sep and Bounds.
-/
namespace Go.Proofs.YtigpnopeacicpaaDoor
set_option linter.unusedSimpArgs false
open Go.RowKit
attribute [local go_sem] run_store_float

theorem rroots_K (A : Option Addr) (c : Nat) (ns : List Nd) (a K : Nat) (w : World) (hA : Hid (NRead w A ns)) (ok : Hid (DagOk ns)) (hK : Hid (rootsL ns (belowOf ns (a : Int)) = K)) :
    Calls Tryd.prog 68 #[.slice A ns.length c, .int .i64 (a : Int)] w fun e w' => e = .returned (.int .i64 (K : Int)) ∧ Only [] w w' := by
  rw [← hK.out]
  have := ok.out.len
  exact rroots_any A c ns (a : Int) w hA (Lib.hid ok.out.ok) (by omega)
set_option maxHeartbeats 1600000 in
set_option maxRecDepth 100000 in
theorem rsep_any (A : Option Addr) (c : Nat) (ns : List Nd) (a : Nat) (w : World) (hA : Hid (NRead w A ns)) (ok : Hid (DagOk ns)) (hl : (ns.length : Int) ≤ 200) (ha : a < ns.length) (s : Int) (is : Bool)
    (hs : Hid ((if sepB lfB ns (a : Int) = true then sepV lfB ns (a : Int) else 0) = s ∧ sepB lfB ns (a : Int) = is)) :
    Calls Tryd.prog 39 #[.slice A ns.length c, .int .i64 (a : Int)] w fun e w' => e = .returned (.tuple #[.int .i64 s, .bool is]) ∧ Only [] w w' := by
  go_enter Tryd.func39, Tryd.ntmps39
  go_wp2_with fail
  refine (rparts_any A c ns (a : Int) w hA ok hl).mono ?_
  rintro e w1 ⟨g, rfl, hb, hg, ho⟩
  have HB := Lib.hid hb
  have HO := Lib.hid ho
  have HPe := Lib.hid (partsB_ent ok.out ha)
  rw [HPe.out]
  clear hb ho hg
  obtain ⟨K, hK⟩ : ∃ K, rootsL ns (belowOf ns (a : Int)) = K := ⟨_, rfl⟩
  have HK := Lib.hid hK
  have hKl : (K : Int) ≤ 200 := by
    have h1 := rootsL_le ns (belowOf ns (a : Int))
    have h2 : (belowOf ns (a : Int)).length ≤ ns.length := (belowL_ids ok.out.ok (· ∈ [(a : Int)])).len
    omega
  have he := ent_ok lfB_ok ns (a : Int)
  unfold EnOk at he
  simp only [topB_val] at he
  have hself := below_self ok.out.ok ha
  have c0 := HB.out.cell (a * 3)
  have c1 := HB.out.cell (a * 3 + 1)
  rw [intV_get _ _ _ (by omega)] at c0 c1
  rw [outF_0 ns hself] at c0
  rw [outF_1 ns hself] at c1
  have hB : sepB lfB ns (a : Int) = true ↔ ((ent lfB ns (a : Int)).ok = true ∧ K ≤ 20 ∧ max (ent lfB ns (a : Int)).u (ent lfB ns (a : Int)).l * 2 ^ K + 1 ≤ 1099511627776) := by
    unfold sepB
    rw [hK]
    simp only [Bool.and_eq_true, decide_eq_true_eq]
    simp only [topB_val]
    constructor
    · exact fun h => ⟨h.1, by omega, h.2.2⟩
    · exact fun h => ⟨h.1, by omega, h.2.2⟩
  have HSt : Hid ((ent lfB ns (a : Int)).ok = true ∧ K ≤ 20 ∧ max (ent lfB ns (a : Int)).u (ent lfB ns (a : Int)).l * 2 ^ K + 1 ≤ 1099511627776 → s = max (ent lfB ns (a : Int)).u (ent lfB ns (a : Int)).l * 2 ^ K + 1 ∧ is = true) := fun h => by
    have h2 := hs.out
    rw [if_pos (hB.2 h)] at h2
    refine ⟨?_, by rw [← h2.2]; exact hB.2 h⟩
    rw [← h2.1]
    unfold sepV
    rw [hK]
  have HSf : Hid (¬ ((ent lfB ns (a : Int)).ok = true ∧ K ≤ 20 ∧ max (ent lfB ns (a : Int)).u (ent lfB ns (a : Int)).l * 2 ^ K + 1 ≤ 1099511627776) → s = 0 ∧ is = false) := fun h => by
    have h2 := hs.out
    have h3 : sepB lfB ns (a : Int) = false := by
      cases h4 : sepB lfB ns (a : Int)
      · rfl
      · exact absurd (hB.1 h4) h
    rw [h3, if_neg (by decide)] at h2
    exact ⟨h2.1.symm, h2.2.symm⟩
  obtain ⟨e0, he0⟩ : ∃ e0, ent lfB ns (a : Int) = e0 := ⟨_, rfl⟩
  rw [he0] at he c0 c1 HSt HSf ⊢
  obtain ⟨u, l, eo⟩ := e0
  simp only at he c0 c1 HSt HSf ⊢
  have HE0 := Lib.hid he0
  clear hs hK he0 HPe hB
  obtain ⟨hu0, hu1, hl0, hl1⟩ := he
  cases eo
  · obtain ⟨rfl, rfl⟩ := HSf.out (by simp)
    go_wp2_with fail
    go_returns
    exact ⟨rfl, HO.out⟩
  · go_wp2_with fail
    refine (rroots_K A c ns a K w1 (Lib.hid (hA.out.only HO.out)) ok HK).mono ?_
    rintro e w2 ⟨rfl, ho2⟩
    have HB2 := Lib.hid (HB.out.only ho2 (by simp))
    have HO2 := Lib.hid (HO.out.nil_trans ho2)
    clear ho2 c0 c1 HB HO
    by_cases hk : (20 : Int) < (K : Int)
    · obtain ⟨rfl, rfl⟩ := HSf.out (by omega)
      clear hu0 hu1 hl0 hl1
      go_wp2_with fail
      go_returns
      exact ⟨rfl, HO2.out⟩
    · have c0 := HB2.out.cell (a * 3)
      have c1 := HB2.out.cell (a * 3 + 1)
      rw [intV_get _ _ _ (by omega)] at c0 c1
      rw [outF_0 ns hself, HE0.out] at c0
      rw [outF_1 ns hself, HE0.out] at c1
      simp only at c0 c1
      obtain ⟨n, hn⟩ : ∃ n : Int, (2 : Int) ^ K = n := ⟨_, rfl⟩
      have hn1 : 1 ≤ n ∧ n ≤ 1048576 := by
        have h1 : (2 : Int) ^ K ≤ 2 ^ 20 := by exact_mod_cast Nat.pow_le_pow_right (by omega) (show K ≤ 20 by omega)
        have h2 : (1 : Int) ≤ 2 ^ K := by exact_mod_cast Nat.one_le_two_pow
        rw [hn] at h1 h2
        exact ⟨h2, by omega⟩
      have hKn : ¬ (K : Int) < 0 := by omega
      have hwn : IntKind.i64.wrap n = n := wrap_i64 (by omega)
      have han : (a : Int) < (ns.length : Int) := by omega
      rw [hn] at HSt HSf
      clear c0 c1
      go_upto_region 7 with fail
      apply wp_region_typed_tail2 14 (by kernel_rfl) [isV _, isV _, isV _, isV _, isV _, isV _, isV _, isV _, isV _, isV _, isV _, isV _, isV _, isV _] [[], [0], [], [], [2, 3], [4], [5], [], [], [7, 8], [9], [10], [6, 11], [1]] (by kernel_rfl) (by kernel_rfl) (by kernel_rfl)
      case ho =>
        simp only [List.take_succ_cons, List.take_zero]
        refine owes2_cons (fun wx hox => ?_) ?_
        · skip
          skip
          refine withs_plain rfl ?_
          simp only [withs, List.getElem?_cons_zero, List.getElem?_cons_succ, Option.bind, Option.getD]
          repeat (with_reducible refine all_isV ?_)
          go_simp
          exact ⟨Only.refl _ _, isV.self _ _⟩
        refine owes2_cons (fun wx hox => ?_) ?_
        · skip
          skip
          refine withs_plain rfl ?_
          simp only [withs, List.getElem?_cons_zero, List.getElem?_cons_succ, Option.bind, Option.getD]
          repeat (with_reducible refine all_isV ?_)
          go_simp
          exact ⟨Only.refl _ _, isV.self _ _⟩
        refine owes2_cons (fun wx hox => ?_) ?_
        · skip
          skip
          refine withs_plain rfl ?_
          simp only [withs, List.getElem?_cons_zero, List.getElem?_cons_succ, Option.bind, Option.getD]
          repeat (with_reducible refine all_isV ?_)
          go_simp
          exact ⟨Only.refl _ _, isV.self _ _⟩
        refine owes2_cons (fun wx hox => ?_) ?_
        · skip
          skip
          refine withs_plain rfl ?_
          simp only [withs, List.getElem?_cons_zero, List.getElem?_cons_succ, Option.bind, Option.getD]
          repeat (with_reducible refine all_isV ?_)
          go_simp
          exact ⟨Only.refl _ _, isV.self _ _⟩
        refine owes2_cons (fun wx hox => ?_) ?_
        · skip
          skip
          refine withs_plain rfl ?_
          simp only [withs, List.getElem?_cons_zero, List.getElem?_cons_succ, Option.bind, Option.getD]
          repeat (with_reducible refine all_isV ?_)
          go_simp
          exact ⟨Only.refl _ _, isV.self _ _⟩
        refine owes2_cons (fun wx hox => ?_) ?_
        · skip
          skip
          refine withs_plain rfl ?_
          simp only [withs, List.getElem?_cons_zero, List.getElem?_cons_succ, Option.bind, Option.getD]
          repeat (with_reducible refine all_isV ?_)
          go_simp
          exact ⟨Only.refl _ _, isV.self _ _⟩
        refine owes2_cons (fun wx hox => ?_) ?_
        · skip
          have hdx := HB2.out.only hox (by simp)
          have c0 := hdx.cell (a * 3)
          have c1 := hdx.cell (a * 3 + 1)
          rw [intV_get _ _ _ (by omega)] at c0 c1
          rw [outF_0 ns hself, HE0.out] at c0
          rw [outF_1 ns hself, HE0.out] at c1
          simp only at c0 c1
          clear hdx
          refine withs_plain rfl ?_
          simp only [withs, List.getElem?_cons_zero, List.getElem?_cons_succ, Option.bind, Option.getD]
          repeat (with_reducible refine all_isV ?_)
          go_simp
          exact ⟨Only.refl _ _, isV.self _ _⟩
        refine owes2_cons (fun wx hox => ?_) ?_
        · skip
          skip
          refine withs_plain rfl ?_
          simp only [withs, List.getElem?_cons_zero, List.getElem?_cons_succ, Option.bind, Option.getD]
          repeat (with_reducible refine all_isV ?_)
          go_simp
          exact ⟨Only.refl _ _, isV.self _ _⟩
        refine owes2_cons (fun wx hox => ?_) ?_
        · skip
          skip
          refine withs_plain rfl ?_
          simp only [withs, List.getElem?_cons_zero, List.getElem?_cons_succ, Option.bind, Option.getD]
          repeat (with_reducible refine all_isV ?_)
          go_simp
          exact ⟨Only.refl _ _, isV.self _ _⟩
        refine owes2_cons (fun wx hox => ?_) ?_
        · skip
          skip
          refine withs_plain rfl ?_
          simp only [withs, List.getElem?_cons_zero, List.getElem?_cons_succ, Option.bind, Option.getD]
          repeat (with_reducible refine all_isV ?_)
          go_simp
          exact ⟨Only.refl _ _, isV.self _ _⟩
        refine owes2_cons (fun wx hox => ?_) ?_
        · skip
          skip
          refine withs_plain rfl ?_
          simp only [withs, List.getElem?_cons_zero, List.getElem?_cons_succ, Option.bind, Option.getD]
          repeat (with_reducible refine all_isV ?_)
          go_simp
          exact ⟨Only.refl _ _, isV.self _ _⟩
        refine owes2_cons (fun wx hox => ?_) ?_
        · skip
          have hdx := HB2.out.only hox (by simp)
          have c0 := hdx.cell (a * 3)
          have c1 := hdx.cell (a * 3 + 1)
          rw [intV_get _ _ _ (by omega)] at c0 c1
          rw [outF_0 ns hself, HE0.out] at c0
          rw [outF_1 ns hself, HE0.out] at c1
          simp only at c0 c1
          clear hdx
          refine withs_plain rfl ?_
          simp only [withs, List.getElem?_cons_zero, List.getElem?_cons_succ, Option.bind, Option.getD]
          repeat (with_reducible refine all_isV ?_)
          go_simp
          exact ⟨Only.refl _ _, isV.self _ _⟩
        refine owes2_cons (fun wx hox => ?_) ?_
        · skip
          skip
          refine withs_plain rfl ?_
          simp only [withs, List.getElem?_cons_zero, List.getElem?_cons_succ, Option.bind, Option.getD]
          repeat (with_reducible refine all_isV ?_)
          go_simp
          exact ⟨Only.refl _ _, isV.self _ _⟩
        refine owes2_cons (fun wx hox => ?_) ?_
        · skip
          skip
          refine withs_plain rfl ?_
          simp only [withs, List.getElem?_cons_zero, List.getElem?_cons_succ, Option.bind, Option.getD]
          repeat (with_reducible refine all_isV ?_)
          go_simp
          exact ⟨Only.refl _ _, isV.self _ _⟩
        exact owes2_nil
      case he =>
        simp only [List.drop_succ_cons, List.drop_zero]
        intro wx hox
        refine withs_of (by simp only [List.length, List.range, List.range.loop]; exact rfl) ?_
        simp only [withs, List.getElem?_cons_zero, List.getElem?_cons_succ, Option.bind, Option.getD]
        repeat (with_reducible refine all_isV ?_)
        go_simp
        have HO3 := Lib.hid (HO2.out.nil_trans hox)
        clear hox HB2 HO2 HE0
        have hle : 0 ≤ max u l ∧ max u l ≤ 1099511627776 := by omega
        generalize max u l = m at *
        obtain ⟨q, hq⟩ : ∃ q : Int, n * m = q := ⟨_, rfl⟩
        rw [Int.mul_comm m n, hq] at HSt HSf
        have HS1 : Hid (q + 1 ≤ 1099511627776 → s = q + 1 ∧ is = true) := fun h1 => HSt.out (by simp only [true_and]; exact ⟨by omega, h1⟩)
        have HS2 : Hid (1099511627776 < q + 1 → s = 0 ∧ is = false) := fun h1 => HSf.out (fun h2 => by have h3 := h2.2.2; omega)
        clear HSt HSf hu0 hu1 hl0 hl1
        by_cases hm0 : 0 < m
        · have hd1 : 1099511627776 / m < n ↔ 1099511627776 < q := by rw [← hq]; exact Int.ediv_lt_iff_lt_mul hm0
          by_cases hd : 1099511627776 / m < n
          · obtain ⟨rfl, rfl⟩ := HS2.out (by have := hd1.1 hd; omega)
            clear hd1 hle hq
            go_wp2_with fail
            go_returns
            exact ⟨rfl, HO3.out⟩
          · have hq1 : q ≤ 1099511627776 := by
              rcases Int.lt_or_le 1099511627776 q with h | h
              · exact absurd (hd1.2 h) hd
              · exact h
            have hq0 : 0 ≤ q := by rw [← hq]; exact Int.mul_nonneg (by omega) (by omega)
            have hw1 : IntKind.i64.wrap q = q := wrap_i64 (by omega)
            have hw2 : IntKind.i64.wrap (q + 1) = q + 1 := wrap_i64 (by omega)
            by_cases ht : 1099511627776 < q + 1
            · obtain ⟨rfl, rfl⟩ := HS2.out ht
              clear hd1 hle hq1 hq0
              go_wp2_with fail
              go_returns
              exact ⟨rfl, HO3.out⟩
            · obtain ⟨rfl, rfl⟩ := HS1.out (by omega)
              clear hd1 hle hq1 hq0
              go_wp2_with fail
              go_returns
              exact ⟨rfl, HO3.out⟩
        · obtain rfl : m = 0 := by omega
          obtain rfl : q = 0 := by rw [← hq, Int.mul_zero]
          obtain ⟨rfl, rfl⟩ := HS1.out (by omega)
          clear hle hq
          go_wp2_with fail
          go_returns
          exact ⟨rfl, HO3.out⟩
      case hl =>
        repeat (refine List.forall_mem_cons.2 ⟨?_, ?_⟩; exact isV.lasts _)
        exact fun _ h => (by cases h)
noncomputable def outK (ns : List Nd) (L P : List Int) (j : Nat) : Int := if j % 3 = 2 ∧ ((j / 3 : Nat) : Int) ∈ P then (rootsL ns (belowOf ns ((j / 3 : Nat) : Int)) : Int) else outF ns L j
theorem outK_nil (ns : List Nd) (L : List Int) : outK ns L [] = outF ns L := by
  funext j
  unfold outK
  rw [if_neg (by simp)]
theorem outK_next (ns : List Nd) (L : List Int) {P P' : List Int} {a : Nat} (h : P' = P ++ [(a : Int)]) :
    (fun j => if j = a * 3 + 2 then (rootsL ns (belowOf ns (a : Int)) : Int) else outK ns L P j) = outK ns L P' := by
  funext j
  subst h
  unfold outK
  by_cases e : j = a * 3 + 2
  · have e2 : j / 3 = a := by omega
    rw [if_pos e, e2, if_pos ⟨by omega, by simp⟩]
  · rw [if_neg e]
    by_cases h1 : j % 3 = 2
    · have h2 : ((j / 3 : Nat) : Int) ∈ P ++ [(a : Int)] ↔ ((j / 3 : Nat) : Int) ∈ P := by
        simp only [List.mem_append, List.mem_singleton]
        constructor
        · rintro (h | h)
          · exact h
          · exact absurd (by omega) e
        · exact .inl
      by_cases h3 : ((j / 3 : Nat) : Int) ∈ P
      · rw [if_pos ⟨h1, h3⟩, if_pos ⟨h1, h2.2 h3⟩]
      · rw [if_neg (fun h => h3 h.2), if_neg (fun h => h3 (h2.1 h.2))]
    · rw [if_neg (fun h => h1 h.1), if_neg (fun h => h1 h.1)]
set_option maxHeartbeats 1600000 in
set_option maxRecDepth 100000 in
theorem rbounds_any (A : Option Addr) (c : Nat) (ns : List Nd) (a : Nat) (w : World) (hA : Hid (NRead w A ns)) (ok : Hid (DagOk ns)) (hl : (ns.length : Int) ≤ 200) (ha : a < ns.length) :
    Calls Tryd.prog 38 #[.slice A ns.length c, .int .i64 (a : Int)] w fun e w' => ∃ g, e = .returned (.tuple #[.slice (some ⟨g, 0, none⟩) ns.length ns.length, .bool (ent lfB ns (a : Int)).ok]) ∧ Blk w' g 74 (intV (ns.length * 3) (outK ns (belowOf ns (a : Int)) (belowOf ns (a : Int)))) ∧ w.heap.size ≤ g ∧ Only [] w w' := by
  go_enter Tryd.func38, Tryd.ntmps38
  go_wp2_with fail
  refine (rparts_any A c ns (a : Int) w hA ok hl).mono ?_
  rintro e w1 ⟨g, rfl, hb, hg, ho⟩
  have HB1 := Lib.hid hb
  have HO1 := Lib.hid ho
  have HG := Lib.hid hg
  have HPe := Lib.hid (partsB_ent ok.out ha)
  rw [HPe.out]
  clear hb ho hg
  go_wp2_with fail
  refine (rbelow_any A c ns (a : Int) w1 (Lib.hid (hA.out.only HO1.out)) (Lib.hid ok.out.ok) (by omega)).mono ?_
  rintro e w2 ⟨u, rfl, hL, hown, ho2⟩
  obtain ⟨L, hLe⟩ : ∃ L, belowOf ns (a : Int) = L := ⟨_, rfl⟩
  have HLe := Lib.hid hLe
  have HIds : Hid (Ids ns L) := hLe ▸ belowL_ids ok.out.ok (· ∈ [(a : Int)])
  rw [hLe] at hL HB1
  clear hLe
  obtain ⟨Au, cu, rfl, hread⟩ := hL.shape
  have HO2 : Hid (Only [] w w2) := HO1.out.nil_trans ho2
  have HB2 := Lib.hid (HB1.out.only ho2 (by simp))
  have HR := Lib.hid hread
  have hll : (L.length : Int) ≤ 200 := by have := HIds.out.len; omega
  have HAu : Hid (∀ b o, Au = some ⟨b, o, none⟩ → b ≠ g) := by
    rintro b o rfl
    have h1 := hown b rfl
    have h2 := HB1.out.lt
    omega
  clear hL hread ho2 HB1 HO1 hown
  obtain ⟨eo, heo⟩ : ∃ eo, (ent lfB ns (a : Int)).ok = eo := ⟨_, rfl⟩
  have HEo := Lib.hid heo
  rw [heo]
  clear heo HPe
  go_wp2_with fail
  go_loopw [9] (fun i wr => ∃ k : Nat, k ≤ L.length ∧ i = .int .i64 (k : Int) ∧ Only [g] w2 wr ∧ Only [] w wr ∧ Blk wr g 74 (intV (ns.length * 3) (outK ns L (L.take k)))) (fun i _ => L.length - (intOf i).toNat)
  case atStart => exact ⟨0, Nat.zero_le _, rfl, Only.refl _ _, HO2.out, by rw [List.take_zero, outK_nil]; exact HB2.out⟩
  case round =>
    obtain ⟨k, hk, rfl, ho, ho', hB⟩ := hrel
    have HO := Lib.hid ho
    have HW := Lib.hid ho'
    have HB := Lib.hid hB
    clear ho ho' hB HB2
    by_cases hlt : k < L.length
    · obtain ⟨x, hx, hxn⟩ := HIds.out.mem k hlt
      obtain ⟨b, o, rfl, hcell0⟩ := HR.out k hlt
      have hcell := HO.out.cell hcell0 (by have := HAu.out b o rfl; simp; omega)
      rw [hx] at hcell
      have HTake : Hid (L.take (k + 1) = L.take k ++ [(x : Int)]) := by
        show _ = _
        rw [List.take_succ_eq_append_getElem hlt, ← hx, List.getElem?_eq_getElem hlt]
        rfl
      obtain ⟨K, hK⟩ : ∃ K, rootsL ns (belowOf ns (x : Int)) = K := ⟨_, rfl⟩
      have HK := Lib.hid hK
      have hk' : (k : Int) < (L.length : Int) := by omega
      have hxI : (x : Int) < (ns.length : Int) := by omega
      have HRo : Hid (∀ W, Only [] wr W → Calls Tryd.prog 68 #[.slice A ns.length c, .int .i64 (x : Int)] W fun e w' => e = .returned (.int .i64 (K : Int)) ∧ Only [] W w') := fun W ho => rroots_K A c ns x K W (Lib.hid (hA.out.only (HW.out.nil_trans ho))) ok HK
      clear hx hK
      go_upto_region 6 with fail
      apply wp_region_typed_tail2 11 (by kernel_rfl) [isV _, isV _, isV _, isV _, isV _, isV _, isV _, isV _, isV _, isV _, isV _] [[], [], [], [1, 2], [3], [], [], [], [6, 7], [8], [5, 9]] (by kernel_rfl) (by kernel_rfl) (by kernel_rfl)
      case ho =>
        simp only [List.take_succ_cons, List.take_zero]
        refine owes2_cons (fun wx hox => ?_) ?_
        · skip
          skip
          refine withs_plain rfl ?_
          simp only [withs, List.getElem?_cons_zero, List.getElem?_cons_succ, Option.bind, Option.getD]
          repeat (with_reducible refine all_isV ?_)
          go_simp
          exact ⟨Only.refl _ _, isV.self _ _⟩
        refine owes2_cons (fun wx hox => ?_) ?_
        · skip
          skip
          refine withs_plain rfl ?_
          simp only [withs, List.getElem?_cons_zero, List.getElem?_cons_succ, Option.bind, Option.getD]
          repeat (with_reducible refine all_isV ?_)
          go_simp
          exact ⟨Only.refl _ _, isV.self _ _⟩
        refine owes2_cons (fun wx hox => ?_) ?_
        · skip
          skip
          refine withs_plain rfl ?_
          simp only [withs, List.getElem?_cons_zero, List.getElem?_cons_succ, Option.bind, Option.getD]
          repeat (with_reducible refine all_isV ?_)
          go_simp
          exact ⟨Only.refl _ _, isV.self _ _⟩
        refine owes2_cons (fun wx hox => ?_) ?_
        · skip
          skip
          refine withs_plain rfl ?_
          simp only [withs, List.getElem?_cons_zero, List.getElem?_cons_succ, Option.bind, Option.getD]
          repeat (with_reducible refine all_isV ?_)
          go_simp
          exact ⟨Only.refl _ _, isV.self _ _⟩
        refine owes2_cons (fun wx hox => ?_) ?_
        · skip
          (have hcx := hox.cell hcell (by simp))
          refine withs_plain rfl ?_
          simp only [withs, List.getElem?_cons_zero, List.getElem?_cons_succ, Option.bind, Option.getD]
          repeat (with_reducible refine all_isV ?_)
          go_simp
          exact ⟨Only.refl _ _, isV.self _ _⟩
        refine owes2_cons (fun wx hox => ?_) ?_
        · skip
          skip
          refine withs_plain rfl ?_
          simp only [withs, List.getElem?_cons_zero, List.getElem?_cons_succ, Option.bind, Option.getD]
          repeat (with_reducible refine all_isV ?_)
          go_simp
          exact ⟨Only.refl _ _, isV.self _ _⟩
        refine owes2_cons (fun wx hox => ?_) ?_
        · skip
          skip
          refine withs_plain rfl ?_
          simp only [withs, List.getElem?_cons_zero, List.getElem?_cons_succ, Option.bind, Option.getD]
          repeat (with_reducible refine all_isV ?_)
          go_simp
          exact ⟨Only.refl _ _, isV.self _ _⟩
        refine owes2_cons (fun wx hox => ?_) ?_
        · skip
          skip
          refine withs_plain rfl ?_
          simp only [withs, List.getElem?_cons_zero, List.getElem?_cons_succ, Option.bind, Option.getD]
          repeat (with_reducible refine all_isV ?_)
          go_simp
          exact ⟨Only.refl _ _, isV.self _ _⟩
        refine owes2_cons (fun wx hox => ?_) ?_
        · skip
          skip
          refine withs_plain rfl ?_
          simp only [withs, List.getElem?_cons_zero, List.getElem?_cons_succ, Option.bind, Option.getD]
          repeat (with_reducible refine all_isV ?_)
          go_simp
          exact ⟨Only.refl _ _, isV.self _ _⟩
        refine owes2_cons (fun wx hox => ?_) ?_
        · skip
          (have hcx := hox.cell hcell (by simp))
          refine withs_plain rfl ?_
          simp only [withs, List.getElem?_cons_zero, List.getElem?_cons_succ, Option.bind, Option.getD]
          repeat (with_reducible refine all_isV ?_)
          go_simp
          exact ⟨Only.refl _ _, isV.self _ _⟩
        refine owes2_cons (fun wx hox => ?_) ?_
        · skip
          skip
          refine withs_plain rfl ?_
          simp only [withs, List.getElem?_cons_zero, List.getElem?_cons_succ, Option.bind, Option.getD]
          repeat (with_reducible refine all_isV ?_)
          go_simp
          ((with_reducible refine (HRo.out _ hox).mono ?_); rintro e w' ⟨rfl, ho⟩; exact ⟨_, rfl, ho, rfl⟩)
        exact owes2_nil
      case he =>
        simp only [List.drop_succ_cons, List.drop_zero]
        intro wx hox
        refine withs_of (by simp only [List.length, List.range, List.range.loop]; exact rfl) ?_
        simp only [withs, List.getElem?_cons_zero, List.getElem?_cons_succ, Option.bind, Option.getD]
        repeat (with_reducible refine all_isV ?_)
        go_simp
        have HBx := Lib.hid (HB.out.only hox (by simp))
        have HOx : Hid (Only [g] w2 wx) := HO.out.trans hox (fun y hy => by simp at hy)
        have HWx := Lib.hid (HW.out.nil_trans hox)
        clear hox hcell HB HO HW HRo
        have HBs : Hid (Blk (wx.setCell ⟨g, x * 3 + 2, none⟩ (.int .i64 (K : Int))) g 74 (intV (ns.length * 3) (outK ns L (L.take (k + 1))))) := by
          have h := HBx.out.set_ (x * 3 + 2) (.int .i64 (K : Int))
          rw [intV_set, ← HK.out, outK_next ns L HTake.out] at h
          rw [← HK.out]
          exact h
        have HOs : Hid (Only [g] w2 (wx.setCell ⟨g, x * 3 + 2, none⟩ (.int .i64 (K : Int)))) := HOx.out.setCell (.inl (by simp)) _
        have HWs : Hid (Only [] w (wx.setCell ⟨g, x * 3 + 2, none⟩ (.int .i64 (K : Int)))) := HWx.out.setCell (.inr (by have := HG.out; show _ ≤ g; omega)) _
        have c2 := HBx.out.cell (x * 3 + 2)
        rw [intV_get _ _ _ (by omega)] at c2
        have f2 := HBx.out.frozen (x * 3 + 2)
        go_wp2_with fail
        go_roundw
        case rel => exact ⟨k + 1, by omega, by go_num, HOs.out, HWs.out, HBs.out⟩
        case measure => simp [intOf] <;> omega
      case hl =>
        repeat (refine List.forall_mem_cons.2 ⟨?_, ?_⟩; exact isV.lasts _)
        exact fun _ h => (by cases h)
    · have hnl : ¬ (k : Int) < (L.length : Int) := by omega
      obtain rfl : k = L.length := by omega
      have HBe : Hid (Blk wr g 74 (intV (ns.length * 3) (outK ns L L))) := by
        have h := HB.out
        rw [List.take_length] at h
        exact h
      go_wp2_with fail
      go_returns
      rw [HLe.out, HEo.out]
      exact ⟨g, rfl, HBe.out, HG.out, HW.out⟩
end Go.Proofs.YtigpnopeacicpaaDoor

/-
  BoundGrows: the walk.
-/
namespace Go.Proofs.YtigpnopeacicpaaDoor
set_option linter.unusedSimpArgs false
open Go.RowKit
attribute [local go_sem] run_store_float

theorem IntsIn.read {w : World} {A : Option Addr} {L : List Int} (h : IntsIn w A L) : IRead w A L := fun k hk => by
  obtain ⟨b, o, h1, h2⟩ := h.1 k hk
  exact ⟨b, o, h1, h2 k hk⟩
theorem FRead.only {w w' : World} {A : Option Addr} {L : List Nat} (h : FRead w A L) (ho : Only [] w w') : FRead w' A L := fun k hk => by
  obtain ⟨b, o, h1, h2⟩ := h k hk
  exact ⟨b, o, h1, ho.cell h2 (by simp)⟩
theorem FloatsIn.read {w : World} {A : Option Addr} {L : List Nat} (h : FloatsIn w A L) : FRead w A L ∧ Words L := ⟨fun k hk => by
  obtain ⟨b, o, h1, h2⟩ := h k hk
  exact ⟨b, o, h1, (h2 k hk).1⟩, fun k hk => by
  obtain ⟨b, o, h1, h2⟩ := h k hk
  exact (h2 k hk).2⟩
end Go.Proofs.YtigpnopeacicpaaDoor
