/-
  walk.Uses: how often each is used.
-/
import Derived.Test.YtljeaomdcednlaaTaDepT
import Derived.Test.YtljeaomdcednlaaTaMapX
namespace Go.Proofs.Ytljeaomdcednlaa
open Go.RowKit
attribute [local go_sem] run_store_float

/-- How often y is an operand of those in P. -/
def cnt (ns : List Nd) (P : List Int) (y : Int) : Nat := (P.flatMap fun x => kids (nodeAt ns x)).count y
def useF (ns : List Nd) (P : List Int) : Int → Option Int := fun y => if y ∈ P then some (cnt ns P y : Int) else none
def setF (f : Int → Option Int) (k v : Int) : Int → Option Int := fun x => if x = k then some v else f x
def incF (f : Int → Option Int) (c : Int) : Int → Option Int := setF f c ((f c).getD 0 + 1)
theorem incF_fold (y : Int) : ∀ (K : List Int) (g : Int → Option Int), (∀ c ∈ K, (g c).isSome = true) → (K.foldl incF g) y = (g y).map (· + (K.count y : Int))
  | [], g, _ => by
    rw [List.foldl]
    cases g y <;> simp
  | c :: K, g, h => by
    have hc := h c (by simp)
    rw [List.foldl, incF_fold y K (incF g c) (fun d hd => by
      unfold incF setF
      split
      · rfl
      · exact h d (by simp [hd]))]
    unfold incF setF
    by_cases e : y = c
    · subst e
      rw [if_pos rfl]
      obtain ⟨v, hv⟩ := Option.isSome_iff_exists.1 hc
      rw [hv]
      simp
      omega
    · rw [if_neg e, List.count_cons_of_ne (fun h => e h.symm)]
theorem use_step {ns : List Nd} {P : List Int} {x : Int} (hx : x ∉ P) (hk : ∀ c ∈ kids (nodeAt ns x), c ∈ P) (hn : ∀ z ∈ P, x ∉ kids (nodeAt ns z)) :
    (kids (nodeAt ns x)).foldl incF (setF (useF ns P) x 0) = useF ns (P ++ [x]) := by
  funext y
  rw [incF_fold y _ _ (fun c hc => by
    unfold setF useF
    split
    · rfl
    · rw [if_pos (hk c hc)]; rfl)]
  unfold setF useF cnt
  by_cases e : y = x
  · subst e
    have h0 : (P.flatMap fun z => kids (nodeAt ns z)).count y = 0 := List.count_eq_zero.2 (fun h => by
      obtain ⟨z, hz, h1⟩ := List.mem_flatMap.1 h
      exact hn z hz h1)
    simp [h0]
  · by_cases hy : y ∈ P
    · simp [e, hy]
    · have h0 : (kids (nodeAt ns x)).count y = 0 := List.count_eq_zero.2 (fun h => hy (hk y h))
      simp [e, hy]
theorem cnt_le (ns : List Nd) : ∀ (P : List Int) (y : Int), cnt ns P y ≤ 2 * P.length
  | [], y => by simp [cnt]
  | x :: P, y => by
    have ih := cnt_le ns P y
    unfold cnt at ih ⊢
    rw [List.flatMap_cons, List.count_append]
    have : (kids (nodeAt ns x)).count y ≤ 2 := Nat.le_trans List.count_le_length (by
      rcases kids_cases (nodeAt ns x) with h | ⟨a, h⟩ | ⟨a, b, h⟩ <;> simp [h])
    simp only [List.length_cons]
    omega
theorem ids_later {ns : List Nd} (ok : OkDag ns) {R : Int → Prop} {k : Nat} (hk : k < (belowL ns R).length) : ∀ z ∈ (belowL ns R).take k, (belowL ns R)[k]?.getD 0 ∉ kids (nodeAt ns z) := by
  intro z hz hm
  have hp := belowL_asc ns R
  rw [List.pairwise_iff_getElem] at hp
  rw [List.getElem?_eq_getElem hk, Option.getD_some] at hm
  rw [List.mem_take_iff_getElem] at hz
  obtain ⟨j, hj, rfl⟩ := hz
  have h1 := hp j k (by omega) hk (by omega)
  have hr := ((mem_belowL ok).1 (List.getElem_mem (l := belowL ns R) (n := j) (by omega))).range ok
  have := ok _ hr.1 hr.2 _ hm
  omega

set_option maxHeartbeats 3200000 in
set_option maxRecDepth 100000 in
theorem uses_any (d : Nat) (v : Value) (r : Option Nat) (ns : List Nd) (root : Int) (w : World) (hd : DagIs w d v r ns) (ok : OkDag ns) (hns : ns.length ≤ 20000) :
    Calls Try.prog 12 #[.pointer (some ⟨d, 0, none⟩), .int .i64 root] w fun e w' => ∃ m, e = .returned (.map (some m)) ∧ w.heap.size ≤ m ∧ MapX w' m (belowOf ns root).length (useF ns (belowOf ns root)) ∧ Only [] w w' := by
  have hmm := @run_makeMap Try.prog
  have HD := Lib.hid hd
  have HNs := Lib.hid hns
  have HOk := Lib.hid ok
  clear hd hns ok
  go_enter Try.func12, Try.ntmps12
  go_wp2_with fail
  have HA : Hid (IRead ((w.alloc (.map #[] 0)).alloc (.cells #[.int .i64 root] 3)) (some ⟨w.heap.size + 1, 0, none⟩) [root]) := fun k hk => ⟨w.heap.size + 1, 0, rfl, by
    have e : k = 0 := by simpa using hk
    subst e
    have := (Blk.new (w.alloc (.map #[] 0)) 3 [.int .i64 root]).cell 0
    rw [World.size_alloc] at this
    exact this⟩
  have HM : Hid (MapX (w.alloc (.map #[] 0)) w.heap.size 0 (fun _ => none)) := MapX.made w
  refine (below_any d v r ns [root] (some ⟨w.heap.size + 1, 0, none⟩) 1 _ (HD.out.only (((Only.refl [] w).alloc _).alloc _) (by simp)) HOk.out HNs.out HA (by simp)).mono ?_
  rintro e w1 ⟨u, rfl, hL, hfr, ho1⟩
  obtain ⟨L, hLe⟩ : ∃ L, L = belowOf ns root := ⟨_, rfl⟩
  have HLe := Lib.hid hLe
  have HIds : Hid (Ids ns L) := hLe ▸ belowL_ids HOk.out (· ∈ [root])
  have HKid : Hid (∀ k, k < L.length → ((∀ c ∈ kids (nodeAt ns (L[k]?.getD 0)), c ∈ L.take k) ∧ L[k]?.getD 0 ∉ L.take k) ∧ ∀ z ∈ L.take k, L[k]?.getD 0 ∉ kids (nodeAt ns z)) := by
    rw [hLe]
    exact fun k hk => ⟨ids_kids HOk.out hk, ids_later HOk.out hk⟩
  replace hL : IntsAt w1 u L := hLe ▸ hL
  clear hLe
  obtain ⟨Au, cu, rfl, hread⟩ := hL.shape
  have HM1 : Hid (MapX w1 w.heap.size 0 (fun _ => none)) := (HM.out.only ((Only.refl [] _).alloc _) (by simp)).only ho1 (by simp)
  have HO1 : Hid (Only [] w w1) := (((Only.refl [] w).alloc _).alloc _).nil_trans ho1
  have HR := Lib.hid hread
  have HFr : Hid (∀ b o, Au = some ⟨b, o, none⟩ → b ≠ w.heap.size) := by
    rintro b o rfl
    have := hfr b rfl
    rw [World.size_alloc, World.size_alloc] at this
    omega
  have hlen : (L.length : Int) ≤ 20000 := by have := HIds.out.len; have := HNs.out; omega
  clear hL ho1 hread HA HM hfr hmm
  generalize hm : w.heap.size = m at HM1 HFr ⊢
  have HSz : Hid (w.heap.size ≤ m) := by show _ ≤ _; omega
  clear hm
  go_wp2_with fail
  go_loopw [22] (fun i wr => ∃ k : Nat, k ≤ L.length ∧ i = .int .i64 k ∧ Only [m] w1 wr ∧ MapX wr m k (useF ns (L.take k))) (fun i _ => L.length - (intOf i).toNat)
  case atStart => exact ⟨0, Nat.zero_le _, rfl, Only.refl _ _, by
    have e : useF ns (L.take 0) = fun _ => none := by funext y; simp [useF]
    rw [e]; exact HM1.out⟩
  case round =>
    obtain ⟨k, hk, rfl, ho, hD⟩ := hrel
    have HO := Lib.hid ho
    have HUse := Lib.hid hD
    clear ho hD HM1
    by_cases hlt : k < L.length
    · obtain ⟨a, ha, han⟩ := HIds.out.mem k hlt
      obtain ⟨b, o, rfl, hcell0⟩ := HR.out k hlt
      have hbm : b ≠ m := HFr.out b o rfl
      have hcell := HO.out.cell hcell0 (by simpa using hbm)
      rw [ha] at hcell
      have HHa := Lib.hid ha
      have hlt' : (k : Int) < (L.length : Int) := by omega
      have HKk := Lib.hid (HKid.out k hlt)
      rw [ha] at HKk
      have HW : Hid (Only [m] w wr) := (HO1.out.mono (by simp)).trans HO.out (by simp)
      have HDm : Hid (∀ q ∈ foot d v r, q ∉ [m]) := fun q hq => by
        have h1 := HD.out.lt q hq
        have h2 := HSz.out
        simp
        omega
      have hsa : Small (a : Int) := by have := HNs.out; unfold Small; omega
      have hkn : k ≤ 20000 := by omega
      have HTake : Hid (L.take (k + 1) = L.take k ++ [(a : Int)]) := by
        show _ = _
        rw [List.take_succ_eq_append_getElem hlt, ← ha, List.getElem?_eq_getElem hlt]
        rfl
      have HStep : Hid ((kids (nodeAt ns (a : Int))).foldl incF (setF (useF ns (L.take k)) a 0) = useF ns (L.take (k + 1))) := by
        show _ = _
        rw [HTake.out]
        exact use_step HKk.out.1.2 HKk.out.1.1 HKk.out.2
      have HKs : Hid (∀ c ∈ kids (nodeAt ns (a : Int)), c ∈ L.take k ∧ Small c) := fun c hc => by
        have h1 := HKk.out.1.1 c hc
        have h2 := HOk.out (a : Int) (by omega) (by omega) c hc
        have h4 := HNs.out
        refine ⟨h1, ?_⟩
        unfold Small
        omega
      have HCnt : Hid (∀ y, cnt ns (L.take k) y ≤ 40000) := fun y => by
        have := cnt_le ns (L.take k) y
        have : (L.take k).length ≤ k := List.length_take_le _ _
        omega
      obtain ⟨w2, hup0, hM2, hO2⟩ := HUse.out.store (by omega) hsa (v := 0) (by unfold Small; omega)
      rw [show (useF ns (L.take k) (a : Int)) = none by unfold useF; rw [if_neg HKk.out.1.2]] at hM2
      replace hM2 : MapX w2 m (k + 1) (setF (useF ns (L.take k)) a 0) := hM2
      have HM2 := Lib.hid hM2
      have HO2 := Lib.hid hO2
      have HG : Hid (∀ y, y ∈ L.take k → (setF (useF ns (L.take k)) a 0 y).isSome = true ∧ 0 ≤ (setF (useF ns (L.take k)) a 0 y).getD 0 ∧ (setF (useF ns (L.take k)) a 0 y).getD 0 ≤ 40000) := fun y hy => by
        have := HCnt.out y
        unfold setF useF
        split
        · simp
        · first | (simp; omega) | (rw [if_pos hy]; simp; omega)
      clear ha hcell0 hlt hM2 hO2 hbm
      go_wp2_with fail
      refine (dnode_in d v r ns a w2 ((HD.out.only HW.out HDm.out).only HO2.out HDm.out) han).mono ?_
      rintro e w4 ⟨rfl, ho4⟩
      have HO4 := Lib.hid ho4
      have HK : Hid (kids (nodeAt ns (a : Int)) = kids (ns[a]?.getD nd0)) := rfl
      clear ho4 hup0
      generalize ns[a]?.getD nd0 = n at HK ⊢
      obtain ⟨nk, nf, na, nb⟩ := n
      simp only [Nd.val]
      have HO24 : Hid (Only [m] w1 w4) := (HO.out.trans HO2.out (by simp)).nil_trans HO4.out
      generalize setF (useF ns (L.take k)) a 0 = g at HM2 HStep HG
      by_cases h0 : nk = 0
      · subst h0
        go_wp2_with fail
        refine (parts_leaf nf na nb _).mono ?_
        rintro e w6 ⟨rfl, ho6⟩
        have HO6 : Hid (Only [] w4 (w6.alloc (.cells #[.int .i64 0, .int .i64 0] 59))) := ((((Only.refl [] _).alloc _).nil_trans ho6)).alloc _
        have HE : Hid (g = useF ns (L.take (k + 1))) := by
          show _ = _
          rw [← HStep.out, HK.out]
          simp [kids]
        clear ho6
        go_wp2_with fail
        refine wp_loop_rounds 1 ?_
        rw [rounds_succ]
        go_wp2_with fail
        go_roundw
        case rel => exact ⟨k + 1, by omega, by go_num, HO24.out.nil_trans HO6.out, HE.out ▸ (HM2.out.only HO4.out (by simp)).only HO6.out (by simp)⟩
        case measure => simp [intOf]; omega
      · by_cases h5 : nk = 5
        · subst h5
          have HKids : Hid (kids (nodeAt ns (a : Int)) = [na]) := by
            show _ = _
            rw [HK.out]
            simp [kids]
          obtain ⟨p1, p3⟩ := HKs.out na (by rw [HKids.out]; simp)
          obtain ⟨i1, i2, i3⟩ := HG.out na p1
          have HI1 := Lib.hid i1
          clear p1 i1
          go_wp2_with fail
          refine (parts_root nf na nb _).mono ?_
          rintro e w6 ⟨rfl, ho6⟩
          have HO6 : Hid (Only [] w4 (w6.alloc (.cells #[.int .i64 na, .int .i64 0] 59))) := ((((Only.refl [] _).alloc _).nil_trans ho6)).alloc _
          have HE : Hid (incF g na = useF ns (L.take (k + 1))) := by
            show _ = _
            rw [← HStep.out, HKids.out]
            simp
          have c0 := (Blk.new w6 59 [.int .i64 na, .int .i64 0]).cell 0
          simp only [List.getElem?_cons_zero] at c0
          have hM6 : MapX (w6.alloc (.cells #[.int .i64 na, .int .i64 0] 59)) m (k + 1) g := (HM2.out.only HO4.out (by simp)).only HO6.out (by simp)
          have q1 := hM6.look p3
          obtain ⟨w8, q3, q4, q5⟩ := hM6.store (by omega) p3 (v := (g na).getD 0 + 1) (by unfold Small; omega)
          rw [HI1.out] at q4
          replace q4 : MapX w8 m (k + 1) (incF g na) := q4
          have HM8 := Lib.hid q4
          have HO8 := Lib.hid q5
          clear ho6 q4 q5 hM6
          go_wp2_with fail
          refine wp_loop_rounds 2 ?_
          rw [rounds_succ]
          go_wp2_with fail
          rw [rounds_succ]
          go_wp2_with fail
          go_roundw
          case rel => exact ⟨k + 1, by omega, by go_num, (HO24.out.nil_trans HO6.out).trans HO8.out (by simp), HE.out ▸ HM8.out⟩
          case measure => simp [intOf]; omega
        · have HKids : Hid (kids (nodeAt ns (a : Int)) = [na, nb]) := by
            show _ = _
            rw [HK.out]
            simp [kids, h0, h5]
          obtain ⟨p1, p3⟩ := HKs.out na (by rw [HKids.out]; simp)
          obtain ⟨i1, i2, i3⟩ := HG.out na p1
          obtain ⟨p1', p3'⟩ := HKs.out nb (by rw [HKids.out]; simp)
          obtain ⟨i1', i2', i3'⟩ := HG.out nb p1'
          have HI1 := Lib.hid i1
          have HI2 := Lib.hid i1'
          have g0 : (nk == 0) = false := by simpa using h0
          have g5 : (nk == 5) = false := by simpa using h5
          clear p1 i1 p1' i1' h0 h5
          go_wp2_with fail
          refine (parts_two nk nf na nb _ g0 g5).mono ?_
          rintro e w6 ⟨rfl, ho6⟩
          have HO6 : Hid (Only [] w4 (w6.alloc (.cells #[.int .i64 na, .int .i64 nb] 59))) := ((((Only.refl [] _).alloc _).nil_trans ho6)).alloc _
          have HE : Hid (incF (incF g na) nb = useF ns (L.take (k + 1))) := by
            show _ = _
            rw [← HStep.out, HKids.out]
            simp
          have HB6 := Lib.hid (Blk.new w6 59 [.int .i64 na, .int .i64 nb])
          have c0 := HB6.out.cell 0
          simp only [List.getElem?_cons_zero] at c0
          have hM6 : MapX (w6.alloc (.cells #[.int .i64 na, .int .i64 nb] 59)) m (k + 1) g := (HM2.out.only HO4.out (by simp)).only HO6.out (by simp)
          have hmlt : m < w6.heap.size := by
            have := HM2.out.lt
            have := HO4.out.size
            have := ho6.size
            simp at this
            omega
          have q1 := hM6.look p3
          obtain ⟨w8, q3, q4, q5⟩ := hM6.store (by omega) p3 (v := (g na).getD 0 + 1) (by unfold Small; omega)
          rw [HI1.out] at q4
          replace q4 : MapX w8 m (k + 1) (incF g na) := q4
          have c1 := (HB6.out.only q5 (by simp; omega)).cell 1
          simp only [List.getElem?_cons_succ, List.getElem?_cons_zero] at c1
          have hz : (incF g na nb).isSome = true ∧ 0 ≤ (incF g na nb).getD 0 ∧ (incF g na nb).getD 0 ≤ 40001 := by
            unfold incF setF
            split
            · exact ⟨rfl, by simp; omega, by simp; omega⟩
            · exact ⟨HI2.out, i2', by omega⟩
          obtain ⟨z0, z1, z2⟩ := hz
          have q1' := q4.look p3'
          obtain ⟨w9, q3', q4', q5'⟩ := q4.store (by omega) p3' (v := (incF g na nb).getD 0 + 1) (by unfold Small; omega)
          rw [z0] at q4'
          replace q4' : MapX w9 m (k + 1) (incF (incF g na) nb) := q4'
          have HM9 := Lib.hid q4'
          have HO9 : Hid (Only [m] (w6.alloc (.cells #[.int .i64 na, .int .i64 nb] 59)) w9) := q5.trans q5' (by simp)
          clear ho6 q4 q5 hM6 q4' q5' z0 hmlt
          generalize (incF g na nb).getD 0 = z at q1' q3' z1 z2
          go_wp2_with fail
          refine wp_loop_rounds 3 ?_
          rw [rounds_succ]
          go_wp2_with fail
          rw [rounds_succ]
          go_wp2_with fail
          rw [rounds_succ]
          go_wp2_with fail
          go_roundw
          case rel => exact ⟨k + 1, by omega, by go_num, (HO24.out.nil_trans HO6.out).trans HO9.out (by simp), HE.out ▸ HM9.out⟩
          case measure => simp [intOf]; omega
    · have hnl : ¬ (k : Int) < (L.length : Int) := by omega
      have e : k = L.length := by omega
      have HE : Hid (L.take k = L) := by
        show _ = _
        rw [e, List.take_length]
      have HKL := Lib.hid e
      clear e
      go_wp2_with fail
      go_returns
      refine ⟨m, rfl, HSz.out, ?_, HO1.out.trans HO.out (fun q hq => .inr (by simp at hq; rw [hq]; exact HSz.out))⟩
      rw [← HLe.out, ← HKL.out, ← HE.out]
      have := HUse.out
      rw [HE.out] at this ⊢
      exact this
end Go.Proofs.Ytljeaomdcednlaa
