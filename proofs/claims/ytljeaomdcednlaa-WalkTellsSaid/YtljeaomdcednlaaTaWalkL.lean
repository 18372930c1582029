/-
  The laws on what numbers are made of: Load, alive.
-/
import Derived.Test.YtljeaomdcednlaaTaUses
import Derived.Test.YtljeaomdcednlaaTaDepth
import Derived.Test.YtljeaomdcednlaaTaInts
namespace Go.Proofs.Ytljeaomdcednlaa
open Go.RowKit
attribute [local go_sem] run_store_float

def idsN (n : Nat) : List Int := (List.range n).map fun (i : Nat) => (i : Int)
theorem idsN_succ (n : Nat) : idsN (n + 1) = idsN n ++ [(n : Int)] := by simp [idsN, List.range_succ]
theorem idsN_get (n i : Nat) (h : i < n) : (idsN n)[i]?.getD 0 = (i : Int) := by simp [idsN, h]
theorem reNd_ids {k : Nat} {n : Nd} (hn : takesB k n.k n.f n.a n.b = true) : reNd (idsN k) n = n := by
  obtain ⟨nk, nf, na, nb⟩ := n
  simp only at hn
  have hfine := fine_of _ _ _ _ _ hn
  unfold Fine at hfine
  have e : ∀ x : Int, 0 ≤ x → x < (k : Int) → (idsN k)[x.toNat]?.getD 0 = x := fun x h0 h1 => by
    rw [idsN_get _ _ (by omega)]
    omega
  rcases hfine with ⟨hv, h0, hf⟩ | ⟨hv, h5, ha⟩ | ⟨hv, h0, h5, ha, hb⟩
  · simp [reNd, h0]
  · simp only [validB, decide_eq_true_eq] at hv
    simp only [reNd, h5]
    rw [e na (by omega) (by omega)]
    simp
  · simp only [validB, decide_eq_true_eq] at hv
    simp only [reNd]
    rw [if_neg h0, if_neg (by omega), e na (by omega) (by omega), e nb (by omega) (by omega)]
theorem ld_none {L : List Nd} (hok : AllOk L) : ∀ k, k ≤ L.length → ld none (L.take k) = (L.take k, idsN k)
  | 0, _ => by simp [ld, idsN]
  | k + 1, h => by
    have ho : takesB k (L[k]?.getD nd0).k (L[k]?.getD nd0).f (L[k]?.getD nd0).a (L[k]?.getD nd0).b = true := hok k (by omega)
    rw [ld_take none L (by omega), ld_none hok k (by omega), ldStep, reNd_ids ho]
    have hl : (L.take k).length = k := by rw [List.length_take]; omega
    have e : L.take (k + 1) = L.take k ++ [L[k]?.getD nd0] := by
      rw [List.take_succ_eq_append_getElem (by omega), List.getElem?_eq_getElem (by omega)]
      rfl
    simp only [putNs, putId, hl, ho, if_true, ne_eq, not_true_eq_false, false_and, if_false]
    rw [e, idsN_succ]
theorem ok_dag {L : List Nd} (hok : AllOk L) : OkDag L := by
  intro x h0 h1 c hc
  have h := hok x.toNat (by omega)
  unfold okB at h
  have hfine := fine_of _ _ _ _ _ h
  have hn : nodeAt L x = L[x.toNat]?.getD nd0 := rfl
  rw [hn] at hc
  generalize L[x.toNat]?.getD nd0 = n at hfine hc
  unfold Fine at hfine
  unfold kids at hc
  rcases hfine with ⟨hv, h0', hf⟩ | ⟨hv, h5, ha⟩ | ⟨hv, h0', h5, ha, hb⟩
  · rw [if_pos h0'] at hc
    simp at hc
  · simp only [validB, decide_eq_true_eq] at hv
    rw [if_neg (by omega), if_pos h5] at hc
    have : c = n.a := by simpa using hc
    omega
  · simp only [validB, decide_eq_true_eq] at hv
    rw [if_neg h0', if_neg h5] at hc
    have : c = n.a ∨ c = n.b := by simpa using hc
    omega

def L10 (L : List Nd) (w : World) (e : Ending) (w' : World) : Prop := ∃ d v, e = .returned (.pointer (some ⟨d, 0, none⟩)) ∧ Own w w' d v none L

set_option maxHeartbeats 1600000 in
theorem load10_any (A : Option Addr) (c : Nat) (L : List Nd) (w : World) (hA : Hid (NRead w A L)) (hf : Hid (∀ k, k < L.length → (L[k]?.getD nd0).f < 2 ^ 64)) (hl : (L.length : Int) ≤ 120) (hok : Hid (AllOk L)) :
    Calls Try.prog 6 #[.slice A L.length c] w (L10 L w) := by
  go_enter Try.func6, Try.ntmps6
  go_wp2_with fail
  refine (load_good false A c L w hA hf hl hok).mono ?_
  rintro e w1 ⟨d, r, v, u, rfl, hr, hrel⟩
  obtain rfl : r = none := hr.2 rfl
  have e1 : ld none L = (L, idsN L.length) := by
    have := ld_none hok.out L.length (Nat.le_refl _)
    rwa [List.take_length] at this
  rw [e1] at hrel
  have HOwn := Lib.hid hrel.own
  have hids := hrel.ids
  simp only at hids
  obtain ⟨Au, cu, rfl, hread⟩ := hids.shape
  have hlen : (idsN L.length).length = L.length := by simp [idsN]
  have HR := Lib.hid hread
  clear hrel hread hids hr
  rw [hlen]
  have HLen := Lib.hid hlen
  clear hlen e1
  go_wp2_with fail
  go_loopw [6] (fun i wr => ∃ k : Nat, k ≤ L.length ∧ i = .int .i64 (k : Int) ∧ Only [] w1 wr) (fun i _ => L.length - (intOf i).toNat)
  case atStart => exact ⟨0, Nat.zero_le _, rfl, Only.refl _ _⟩
  case round =>
    obtain ⟨k, hk, rfl, ho⟩ := hrel
    have Ho := Lib.hid ho
    clear ho
    by_cases hlt : k < L.length
    · obtain ⟨b, o, rfl, h1⟩ := HR.out k (by rw [HLen.out]; exact hlt)
      rw [idsN_get _ _ hlt] at h1
      have p0 := Ho.out.cell h1 (by simp)
      clear h1
      have hk' : (k : Int) < (L.length : Int) := by omega
      go_wp2_with fail
      go_roundw
      case rel => exact ⟨k + 1, by omega, by go_num, Ho.out⟩
      case measure => simp [intOf]; omega
    · have hnl : ¬ (k : Int) < (L.length : Int) := by omega
      go_wp2_with fail
      go_ret
      exact ⟨d, v, rfl, HOwn.out.other Ho.out (by simp) (by simp)⟩

/-- Each node is made of the one before it. -/
structure Chain (ns : List Nd) : Prop where
  zero : kids (nodeAt ns 0) = []
  succ : ∀ i : Nat, i + 1 < ns.length → kids (nodeAt ns ((i + 1 : Nat) : Int)) = [(i : Int)] ∨ kids (nodeAt ns ((i + 1 : Nat) : Int)) = [(i : Int), (i : Int)]
theorem Chain.reach {ns : List Nd} (h : Chain ns) {root : Nat} (hr : root + 1 = ns.length) : ∀ i : Nat, i ≤ root → Reach ns (· ∈ [(root : Int)]) ((root - i : Nat) : Int)
  | 0, _ => .root _ (by simp) (by omega) (by omega)
  | i + 1, hi => by
    have ih := h.reach hr i (by omega)
    refine .kid _ _ ih ?_
    have h2 := h.succ (root - i - 1) (by omega)
    rw [show root - i - 1 + 1 = root - i by omega] at h2
    rw [show root - (i + 1) = root - i - 1 by omega]
    rcases h2 with h2 | h2 <;> rw [h2] <;> simp
theorem Chain.below {ns : List Nd} (h : Chain ns) {root : Nat} (hr : root + 1 = ns.length) : belowOf ns root = idsN ns.length := by
  unfold belowOf belowL idsN
  congr 1
  rw [List.filter_eq_self]
  intro i hi
  rw [List.mem_range] at hi
  have := h.reach hr (root - i) (by omega)
  rw [show root - (root - i) = i by omega] at this
  simpa using this
theorem Chain.dep {ns : List Nd} (ok : OkDag ns) (h : Chain ns) : ∀ i : Nat, i < ns.length → dep ns (i : Int) = i
  | 0, hi => by
    rw [dep_eq ok (by omega) (by omega), show ((0 : Nat) : Int) = 0 from rfl, h.zero]
    rfl
  | i + 1, hi => by
    have ih := h.dep ok i (by omega)
    rw [dep_eq ok (by omega) (by omega)]
    rcases h.succ i hi with h2 | h2 <;> rw [h2] <;> simp [ih] <;> omega
theorem Chain.depOf {ns : List Nd} (ok : OkDag ns) (h : Chain ns) {root : Nat} (hr : root + 1 = ns.length) : depOf ns (root : Int) = root := by
  unfold Proofs.Ytljeaomdcednlaa.depOf
  rw [h.below hr, if_pos, h.dep ok root (by omega)]
  simp only [idsN, List.mem_map, List.mem_range]
  exact ⟨root, by omega, rfl⟩

/-- The dag of the first call. -/
def ns3 : List Nd := [⟨0, 4611686018427387904, 0, 0⟩, ⟨5, 0, 0, 0⟩, ⟨3, 0, 1, 1⟩]
theorem ok3 : AllOk ns3 := by
  intro j hj
  have : j = 0 ∨ j = 1 ∨ j = 2 := by simp [ns3] at hj; omega
  rcases this with rfl | rfl | rfl <;> decide +kernel
theorem chain3 : Chain ns3 := ⟨by decide, fun i hi => by
  have : i = 0 ∨ i = 1 := by simp [ns3] at hi; omega
  rcases this with rfl | rfl
  · exact .inl (by decide)
  · exact .inr (by decide)⟩
theorem below3 : belowOf ns3 2 = [0, 1, 2] := (chain3.below (root := 2) rfl).trans (by decide)
theorem roots3 : rootsL ns3 (belowOf ns3 2) = 1 := by rw [below3]; decide
theorem use3 : useF ns3 (belowOf ns3 2) 1 = some 2 := by rw [below3]; decide
theorem dep3 : depOf ns3 2 = 2 := chain3.depOf (ok_dag ok3) (root := 2) rfl

set_option maxHeartbeats 1600000 in
theorem alive10_any (w : World) : Calls Try.prog 4 #[] w fun e w' => e = .returned (.bool true) ∧ Only [] w w' := by
  go_enter Try.func4, Try.ntmps4
  go_wp2_with fail
  have HB := Lib.hid (Blk.new w 45 [.int .i64 0, .float .f64 4611686018427387904, .int .i64 0, .int .i64 0, .int .i64 5, .float .f64 0, .int .i64 0, .int .i64 0, .int .i64 3, .float .f64 0, .int .i64 1, .int .i64 1])
  have HA : Hid (NRead (w.alloc (.cells #[.int .i64 0, .float .f64 4611686018427387904, .int .i64 0, .int .i64 0, .int .i64 5, .float .f64 0, .int .i64 0, .int .i64 0, .int .i64 3, .float .f64 0, .int .i64 1, .int .i64 1] 45)) (some ⟨w.heap.size, 0, none⟩) ns3) := fun k hk => by
    refine ⟨w.heap.size, 0, rfl, ?_⟩
    have : k = 0 ∨ k = 1 ∨ k = 2 := by simp [ns3] at hk; omega
    rcases this with rfl | rfl | rfl
    · exact ⟨HB.out.cell 0, HB.out.cell 1, HB.out.cell 2, HB.out.cell 3⟩
    · exact ⟨HB.out.cell 4, HB.out.cell 5, HB.out.cell 6, HB.out.cell 7⟩
    · exact ⟨HB.out.cell 8, HB.out.cell 9, HB.out.cell 10, HB.out.cell 11⟩
  have HF : Hid (∀ k, k < ns3.length → (ns3[k]?.getD nd0).f < 2 ^ 64) := fun k hk => by
    have : k = 0 ∨ k = 1 ∨ k = 2 := by simp [ns3] at hk; omega
    rcases this with rfl | rfl | rfl <;> decide
  have HOk : Hid (AllOk ns3) := ok3
  refine (load10_any (some ⟨w.heap.size, 0, none⟩) 3 ns3 _ HA HF (by decide) HOk).mono ?_
  rintro e w1 ⟨d, v, rfl, hown⟩
  have HD := Lib.hid hown.is
  have HO1 : Hid (Only [] w w1) := ((Only.refl [] w).alloc _).nil_trans hown.only
  clear hown HA HF HB
  go_wp2_with fail
  have HA : Hid (IRead (w1.alloc (.cells #[.int .i64 2] 3)) (some ⟨w1.heap.size, 0, none⟩) [2]) := fun k hk => ⟨w1.heap.size, 0, rfl, by
    have e : k = 0 := by simpa using hk
    subst e
    exact (Blk.new w1 3 [.int .i64 2]).cell 0⟩
  refine (below_any d v none ns3 [2] (some ⟨w1.heap.size, 0, none⟩) 1 _ (HD.out.only ((Only.refl [] w1).alloc _) (by simp)) (ok_dag HOk.out) (by decide) HA (by simp)).mono ?_
  rintro e w2 ⟨u, rfl, hL, -, ho2⟩
  have hL : IntsAt w2 u [0, 1, 2] := below3 ▸ hL
  obtain ⟨Au, cu, rfl, hread⟩ := hL.shape
  have HO2 : Hid (Only [] w1 w2) := ((Only.refl [] w1).alloc _).nil_trans ho2
  have HR : Hid (IRead (w2.alloc (.cells #[.int .i64 0, .int .i64 1, .int .i64 2] 3)) Au [0, 1, 2]) := hread.only ((Only.refl [] w2).alloc _)
  have HR2 : Hid (IRead (w2.alloc (.cells #[.int .i64 0, .int .i64 1, .int .i64 2] 3)) (some ⟨w2.heap.size, 0, none⟩) [0, 1, 2]) := fun k hk => ⟨w2.heap.size, 0, rfl, by
    have hb := Blk.new w2 3 [.int .i64 0, .int .i64 1, .int .i64 2]
    have : k = 0 ∨ k = 1 ∨ k = 2 := by simp at hk; omega
    rcases this with rfl | rfl | rfl
    · exact hb.cell 0
    · exact hb.cell 1
    · exact hb.cell 2⟩
  clear hL hread ho2 HA
  go_wp2_with fail
  refine (sameints_any Au (some ⟨w2.heap.size, 0, none⟩) cu 3 [0, 1, 2] _ HR HR2 (by simp)).mono ?_
  rintro e w3 ⟨rfl, ho3⟩
  have HO3 : Hid (Only [] w1 w3) := (HO2.out.alloc _).nil_trans ho3
  clear ho3 HR HR2 HO2
  go_wp2_with fail
  refine (roots_any d v none ns3 2 w3 (HD.out.only HO3.out (by simp)) (ok_dag HOk.out) (by decide)).mono ?_
  rintro e w4 ⟨rfl, ho4⟩
  rw [roots3]
  have HO4 : Hid (Only [] w1 w4) := HO3.out.nil_trans ho4
  clear ho4 HO3
  go_wp2_with fail
  refine (uses_any d v none ns3 2 w4 (HD.out.only HO4.out (by simp)) (ok_dag HOk.out) (by decide)).mono ?_
  rintro e w5 ⟨m, rfl, -, hM, ho5⟩
  have hl := hM.look (k := 1) (by unfold Small; omega)
  rw [use3] at hl
  simp only [Option.getD_some] at hl
  have HO5 : Hid (Only [] w1 w5) := HO4.out.nil_trans ho5
  clear ho5 HO4 hM
  go_wp2_with fail
  refine (depth_any d v none ns3 2 w5 (HD.out.only HO5.out (by simp)) (ok_dag HOk.out) (by decide) (by unfold Small; omega)).mono ?_
  rintro e w6 ⟨rfl, ho6⟩
  rw [dep3]
  have HO6 : Hid (Only [] w1 w6) := HO5.out.nil_trans ho6
  clear ho6 HO5 hl
  go_wp2_with fail
  go_ret
  exact ⟨rfl, HO1.out.nil_trans HO6.out⟩
end Go.Proofs.Ytljeaomdcednlaa
