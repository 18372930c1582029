/-
  walk.Depth: how deep a number is.
-/
import Derived.Test.YtljeaomdcednlaaTaDepT
import Derived.Test.YtljeaomdcednlaaTaBelowD
namespace Go.Proofs.Ytljeaomdcednlaa
open Go.RowKit
attribute [local go_sem] run_store_float

/-- The map of depths: those of the ids of P, and c that of x. -/
def DepC (w : World) (m nn : Nat) (ns : List Nd) (P : List Int) (x c : Int) : Prop :=
  ∃ n' f, n' ≤ nn ∧ MapI w m n' f ∧ (f x).getD 0 = c ∧ ∀ y, y ≠ x → (f y).getD 0 = if y ∈ P then dep ns y else 0
def DepAt (w : World) (m nn : Nat) (ns : List Nd) (P : List Int) : Prop :=
  ∃ n' f, n' ≤ nn ∧ MapI w m n' f ∧ ∀ y, (f y).getD 0 = if y ∈ P then dep ns y else 0
section
variable {w w' : World} {m nn : Nat} {ns : List Nd} {P P' : List Int} {x c y : Int}
theorem DepAt.start (h : DepAt w m nn ns P) (hx : x ∉ P) : DepC w m nn ns P x 0 := by
  obtain ⟨n', f, h1, h2, h3⟩ := h
  exact ⟨n', f, h1, h2, by rw [h3, if_neg hx], fun y _ => h3 y⟩
theorem DepC.done (h : DepC w m nn ns P x (dep ns x)) (hP : ∀ y, y ∈ P' ↔ y ∈ P ∨ y = x) {n2 : Nat} (hn : nn ≤ n2) : DepAt w m n2 ns P' := by
  obtain ⟨n', f, h1, h2, h3, h4⟩ := h
  refine ⟨n', f, by omega, h2, fun y => ?_⟩
  by_cases e : y = x
  · subst e
    rw [h3, if_pos ((hP y).2 (.inr rfl))]
  · rw [h4 y e]
    by_cases hy : y ∈ P
    · rw [if_pos hy, if_pos ((hP y).2 (.inl hy))]
    · rw [if_neg hy, if_neg (fun h => ((hP y).1 h).elim hy e)]
theorem DepC.lt (h : DepC w m nn ns P x c) : m < w.heap.size := by
  obtain ⟨n', f, h1, h2, h3⟩ := h
  exact h2.lt
theorem DepC.only (h : DepC w m nn ns P x c) (ho : Only [] w w') : DepC w' m nn ns P x c := by
  obtain ⟨n', f, h1, h2, h3⟩ := h
  exact ⟨n', f, h1, h2.only ho (by simp), h3⟩
theorem DepC.step (h : DepC w m nn ns P x c) (hx : Small x) (hy : Small y) (hP : y ∈ P) (hne : y ≠ x) (hn : nn < 500000) (hc : Small (max c (1 + dep ns y))) :
    (Instr.lookup 42 (.map (some m)) (.int .i64 x) false).run Try.prog w = .ok (.int .i64 c) w ∧
    (Instr.lookup 42 (.map (some m)) (.int .i64 y) false).run Try.prog w = .ok (.int .i64 (dep ns y)) w ∧
    ∃ w', (Instr.mapUpdate 42 (.map (some m)) (.int .i64 x) (.int .i64 (max c (1 + dep ns y)))).run Try.prog w = .ok () w' ∧ DepC w' m (nn + 1) ns P x (max c (1 + dep ns y)) ∧ Only [m] w w' := by
  obtain ⟨n', f, h1, h2, h3, h4⟩ := h
  have hlx := h2.look hx
  have hly := h2.look hy
  rw [h3] at hlx
  rw [h4 y hne, if_pos hP] at hly
  obtain ⟨w', hr, hm, ho⟩ := h2.store (by omega) hx hc
  refine ⟨hlx, hly, w', hr, ⟨_, _, Nat.succ_le_succ h1, hm, by simp, fun z hz => ?_⟩, ho⟩
  rw [if_neg hz]
  exact h4 z hz
end

/-- How deep one is; 0, if there is none. -/
noncomputable def depOf (ns : List Nd) (root : Int) : Int := if root ∈ belowOf ns root then dep ns root else 0

set_option maxHeartbeats 3200000 in
set_option maxRecDepth 100000 in
theorem depth_any (d : Nat) (v : Value) (r : Option Nat) (ns : List Nd) (root : Int) (w : World) (hd : DagIs w d v r ns) (ok : OkDag ns) (hns : ns.length ≤ 20000) (hroot : Small root) :
    Calls Try.prog 13 #[.pointer (some ⟨d, 0, none⟩), .int .i64 root] w fun e w' => e = .returned (.int .i64 (depOf ns root)) ∧ Only [] w w' := by
  have hmm := @run_makeMap Try.prog
  have HD := Lib.hid hd
  have HNs := Lib.hid hns
  have HOk := Lib.hid ok
  clear hd hns ok
  go_enter Try.func13, Try.ntmps13
  go_wp2_with fail
  have HA : Hid (IRead ((w.alloc (.map #[] 0)).alloc (.cells #[.int .i64 root] 3)) (some ⟨w.heap.size + 1, 0, none⟩) [root]) := fun k hk => ⟨w.heap.size + 1, 0, rfl, by
    have e : k = 0 := by simpa using hk
    subst e
    have := (Blk.new (w.alloc (.map #[] 0)) 3 [.int .i64 root]).cell 0
    rw [World.size_alloc] at this
    exact this⟩
  have HM : Hid (MapI (w.alloc (.map #[] 0)) w.heap.size 0 (fun _ => none)) := MapI.made w
  refine (below_any d v r ns [root] (some ⟨w.heap.size + 1, 0, none⟩) 1 _ (HD.out.only (((Only.refl [] w).alloc _).alloc _) (by simp)) HOk.out HNs.out HA (by simp)).mono ?_
  rintro e w1 ⟨u, rfl, hL, hfr, ho1⟩
  obtain ⟨L, hLe⟩ : ∃ L, L = belowOf ns root := ⟨_, rfl⟩
  have HLe := Lib.hid hLe
  have HIds : Hid (Ids ns L) := hLe ▸ belowL_ids HOk.out (· ∈ [root])
  have HKid : Hid (∀ k, k < L.length → (∀ c ∈ kids (nodeAt ns (L[k]?.getD 0)), c ∈ L.take k) ∧ L[k]?.getD 0 ∉ L.take k) := by
    rw [hLe]
    exact fun k hk => ids_kids HOk.out hk
  replace hL : IntsAt w1 u L := hLe ▸ hL
  clear hLe
  obtain ⟨Au, cu, rfl, hread⟩ := hL.shape
  have HM1 : Hid (MapI w1 w.heap.size 0 (fun _ => none)) := (HM.out.only ((Only.refl [] _).alloc _) (by simp)).only ho1 (by simp)
  have HO1 : Hid (Only [] w w1) := (((Only.refl [] w).alloc _).alloc _).nil_trans ho1
  have HR := Lib.hid hread
  have HFr : Hid (∀ b o, Au = some ⟨b, o, none⟩ → b ≠ w.heap.size) := by
    rintro b o rfl
    have := hfr b rfl
    rw [World.size_alloc, World.size_alloc] at this
    omega
  have hlen : (L.length : Int) ≤ 20000 := by have := HIds.out.len; have := HNs.out; omega
  clear hL ho1 hread HA HM hfr hmm
  generalize hm : w.heap.size = m at HM1 HFr ⊢
  have HSz : Hid (w.heap.size ≤ m) := by show _ ≤ _; omega
  clear hm
  go_wp2_with fail
  go_loopw [20] (fun i wr => ∃ k : Nat, k ≤ L.length ∧ i = .int .i64 k ∧ Only [m] w1 wr ∧ DepAt wr m (3 * k) ns (L.take k)) (fun i _ => L.length - (intOf i).toNat)
  case atStart => exact ⟨0, Nat.zero_le _, rfl, Only.refl _ _, 0, _, Nat.le_refl _, HM1.out, fun y => by simp⟩
  case round =>
    obtain ⟨k, hk, rfl, ho, hD⟩ := hrel
    have HO := Lib.hid ho
    have HDep := Lib.hid hD
    clear ho hD HM1
    by_cases hlt : k < L.length
    · obtain ⟨a, ha, han⟩ := HIds.out.mem k hlt
      obtain ⟨b, o, rfl, hcell0⟩ := HR.out k hlt
      have hcell := HO.out.cell hcell0 (by simpa using HFr.out b o rfl)
      rw [ha] at hcell
      have HHa := Lib.hid ha
      have hlt' : (k : Int) < (L.length : Int) := by omega
      have HKk := Lib.hid (HKid.out k hlt)
      have HW : Hid (Only [m] w wr) := (HO1.out.mono (by simp)).trans HO.out (by simp)
      have HDm : Hid (∀ q ∈ foot d v r, q ∉ [m]) := fun q hq => by
        have h1 := HD.out.lt q hq
        have h2 := HSz.out
        simp
        omega
      have HC := Lib.hid (HDep.out.start HKk.out.2)
      rw [ha] at HC
      have hsa : Small (a : Int) := by have := HNs.out; unfold Small; omega
      have hkn : k ≤ 20000 := by omega
      have HStep : Hid (∀ y, y ∈ L.take (k + 1) ↔ y ∈ L.take k ∨ y = (a : Int)) := fun y => by rw [take_snoc_mem hlt y, ha]
      have HDE : Hid (dep ns (a : Int) = (kids (nodeAt ns (a : Int))).foldl (fun acc c => max acc (1 + dep ns c)) 0) := dep_eq HOk.out (by omega) (by omega)
      have HKs : Hid (∀ c ∈ kids (nodeAt ns (a : Int)), c ∈ L.take k ∧ c ≠ (a : Int) ∧ Small c ∧ 0 ≤ dep ns c ∧ dep ns c ≤ 20000) := fun c hc => by
        have h1 := HKk.out.1 c (by rw [ha]; exact hc)
        have h2 := HOk.out (a : Int) (by omega) (by omega) c hc
        have h3 := dep_bd (ns := ns) c h2.1 (by omega)
        have h4 := HNs.out
        refine ⟨h1, by omega, ?_, h3.1, by omega⟩
        unfold Small
        omega
      have hL0 : (L.length : Int) - k ≥ 1 := by omega
      clear ha hcell0 hlt
      go_wp2_with fail
      refine (dnode_in d v r ns a wr (HD.out.only HW.out HDm.out) han).mono ?_
      rintro e w4 ⟨rfl, ho4⟩
      have HO4 := Lib.hid ho4
      have HK : Hid (kids (nodeAt ns (a : Int)) = kids (ns[a]?.getD nd0)) := rfl
      clear ho4
      generalize ns[a]?.getD nd0 = n at HK ⊢
      obtain ⟨nk, nf, na, nb⟩ := n
      simp only [Nd.val]
      by_cases h0 : nk = 0
      · subst h0
        go_wp2_with fail
        refine (parts_leaf nf na nb _).mono ?_
        rintro e w6 ⟨rfl, ho6⟩
        have HO6 : Hid (Only [] wr (w6.alloc (.cells #[.int .i64 0, .int .i64 0] 59))) := (HO4.out.nil_trans (((Only.refl [] _).alloc _).nil_trans ho6)).alloc _
        have HE : Hid (dep ns (a : Int) = 0) := by
          show _ = _
          rw [HDE.out, HK.out]
          simp [kids]
        clear ho6
        go_wp2_with fail
        refine wp_loop_rounds 1 ?_
        rw [rounds_succ]
        go_wp2_with fail
        go_roundw
        case rel => exact ⟨k + 1, by omega, by go_num, HO.out.nil_trans HO6.out, DepC.done (nn := 3 * k) (by rw [HE.out]; exact HC.out.only HO6.out) HStep.out (by omega)⟩
        case measure => simp [intOf]; omega
      · by_cases h5 : nk = 5
        · subst h5
          have HKids : Hid (kids (nodeAt ns (a : Int)) = [na]) := by
            show _ = _
            rw [HK.out]
            simp [kids]
          obtain ⟨p1, p2, p3, p4, p5⟩ := HKs.out na (by rw [HKids.out]; simp)
          have HP1 := Lib.hid p1
          have HP2 := Lib.hid p2
          clear p1 p2
          go_wp2_with fail
          refine (parts_root nf na nb _).mono ?_
          rintro e w6 ⟨rfl, ho6⟩
          have HO6 : Hid (Only [] wr (w6.alloc (.cells #[.int .i64 na, .int .i64 0] 59))) := (HO4.out.nil_trans (((Only.refl [] _).alloc _).nil_trans ho6)).alloc _
          have HE : Hid (dep ns (a : Int) = max 0 (1 + dep ns na)) := by
            show _ = _
            rw [HDE.out, HKids.out]
            simp
          have c0 := (Blk.new w6 59 [.int .i64 na, .int .i64 0]).cell 0
          simp only [List.getElem?_cons_zero] at c0
          obtain ⟨q1, q2, w8, q3, q4, q5⟩ := (HC.out.only HO6.out).step hsa p3 HP1.out HP2.out (by omega) (by unfold Small; omega)
          have HC8 := Lib.hid q4
          have HO8 := Lib.hid q5
          clear ho6 q4 q5
          go_wp2_with fail
          refine wp_loop_rounds 2 ?_
          rw [rounds_succ]
          go_wp2_with fail
          rw [rounds_succ]
          go_wp2_with fail
          go_roundw
          case rel => exact ⟨k + 1, by omega, by go_num, (HO.out.nil_trans HO6.out).trans HO8.out (by simp), DepC.done (nn := 3 * k + 1) (by rw [HE.out]; exact HC8.out) HStep.out (by omega)⟩
          case measure => simp [intOf]; omega
        · have HKids : Hid (kids (nodeAt ns (a : Int)) = [na, nb]) := by
            show _ = _
            rw [HK.out]
            simp [kids, h0, h5]
          obtain ⟨p1, p2, p3, p4, p5⟩ := HKs.out na (by rw [HKids.out]; simp)
          have HP1 := Lib.hid p1
          have HP2 := Lib.hid p2
          obtain ⟨p1', p2', p3', p4', p5'⟩ := HKs.out nb (by rw [HKids.out]; simp)
          have HP1' := Lib.hid p1'
          have HP2' := Lib.hid p2'
          have g0 : (nk == 0) = false := by simpa using h0
          have g5 : (nk == 5) = false := by simpa using h5
          clear p1 p2 p1' p2' h0 h5
          go_wp2_with fail
          refine (parts_two nk nf na nb _ g0 g5).mono ?_
          rintro e w6 ⟨rfl, ho6⟩
          have HO6 : Hid (Only [] wr (w6.alloc (.cells #[.int .i64 na, .int .i64 nb] 59))) := (HO4.out.nil_trans (((Only.refl [] _).alloc _).nil_trans ho6)).alloc _
          have HE : Hid (dep ns (a : Int) = max (max 0 (1 + dep ns na)) (1 + dep ns nb)) := by
            show _ = _
            rw [HDE.out, HKids.out]
            simp
          have HB6 := Lib.hid (Blk.new w6 59 [.int .i64 na, .int .i64 nb])
          have c0 := HB6.out.cell 0
          simp only [List.getElem?_cons_zero] at c0
          have HLt : Hid (m < w6.heap.size) := Nat.lt_of_lt_of_le HC.out.lt (Nat.le_trans HO4.out.size (by have := ho6.size; simp at this; omega))
          obtain ⟨q1, q2, w8, q3, q4, q5⟩ := (HC.out.only HO6.out).step hsa p3 HP1.out HP2.out (by omega) (by unfold Small; omega)
          have c1 := (HB6.out.only q5 (by have := HLt.out; simp; omega)).cell 1
          simp only [List.getElem?_cons_succ, List.getElem?_cons_zero] at c1
          obtain ⟨z, hz⟩ : ∃ z, z = max 0 (1 + dep ns na) := ⟨_, rfl⟩
          rw [← hz] at q4
          have HE2 : Hid (dep ns (a : Int) = max z (1 + dep ns nb)) := by
            show _ = _
            rw [HE.out, hz]
          have hz0 : 0 ≤ z := by omega
          have hz1 : z ≤ 20001 := by omega
          clear hz
          obtain ⟨q1', q2', w9, q3', q4', q5'⟩ := q4.step hsa p3' HP1'.out HP2'.out (by omega) (by unfold Small; omega)
          have HC9 := Lib.hid q4'
          have HO9 : Hid (Only [m] (w6.alloc (.cells #[.int .i64 na, .int .i64 nb] 59)) w9) := q5.trans q5' (by simp)
          clear ho6 q4 q5 q4' q5'
          go_wp2_with fail
          refine wp_loop_rounds 3 ?_
          rw [rounds_succ]
          go_wp2_with fail
          rw [rounds_succ]
          go_wp2_with fail
          rw [rounds_succ]
          go_wp2_with fail
          go_roundw
          case rel => exact ⟨k + 1, by omega, by go_num, (HO.out.nil_trans HO6.out).trans HO9.out (by simp), DepC.done (nn := 3 * k + 1 + 1) (by rw [HE2.out]; exact HC9.out) HStep.out (by omega)⟩
          case measure => simp [intOf]; omega
    · have hnl : ¬ (k : Int) < (L.length : Int) := by omega
      have e : k = L.length := by omega
      have HE : Hid (L.take k = L) := by
        show _ = _
        rw [e, List.take_length]
      clear e
      obtain ⟨_, f, _, hm, hf⟩ := HDep.out
      have hl := hm.look hroot
      have HV : Hid ((f root).getD 0 = if root ∈ L then dep ns root else 0) := by
        show _ = _
        rw [hf root, HE.out]
      generalize (f root).getD 0 = z at HV hl ⊢
      clear hf hm
      go_wp2_with fail
      go_returns
      exact ⟨by unfold depOf; rw [← HLe.out, ← HV.out]; try rfl, HO1.out.trans HO.out (fun q hq => .inr (by simp at hq; rw [hq]; exact HSz.out))⟩
end Go.Proofs.Ytljeaomdcednlaa
