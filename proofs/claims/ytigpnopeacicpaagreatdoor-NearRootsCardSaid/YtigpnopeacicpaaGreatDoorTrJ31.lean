/-
  Joined texts.
-/
import Derived.Test.YtigpnopeacicpaaGreatDoorTrJ30
import Derived.Test.YtigpnopeacicpaaGreatDoorTrJ28
import Derived.Test.YtigpnopeacicpaaGreatDoorTrJ17
import Derived.Test.YtigpnopeacicpaaGreatDoorTrJ19
import Derived.Test.YtigpnopeacicpaaGreatDoorTrBlM
import Derived.Test.YtigpnopeacicpaaGreatDoorTrJ27
/-
  walk.Uses: how often each is used.
-/
namespace Go.Proofs.YtigpnopeacicpaaGreatDoor
open Go.RowKit
attribute [local go_sem] run_store_float

def cnt (ns : List Nd) (P : List Int) (y : Int) : Nat := (P.flatMap fun x => kids (nodeAt ns x)).count y
def useF (ns : List Nd) (P : List Int) : Int → Option Int := fun y => if y ∈ P then some (cnt ns P y : Int) else none
def setF (f : Int → Option Int) (k v : Int) : Int → Option Int := fun x => if x = k then some v else f x
def incF (f : Int → Option Int) (c : Int) : Int → Option Int := setF f c ((f c).getD 0 + 1)
theorem incF_fold (y : Int) : ∀ (K : List Int) (g : Int → Option Int), (∀ c ∈ K, (g c).isSome = true) → (K.foldl incF g) y = (g y).map (· + (K.count y : Int))
  | [], g, _ => by
    rw [List.foldl]
    cases g y <;> simp
  | c :: K, g, h => by
    have hc := h c (by simp)
    rw [List.foldl, incF_fold y K (incF g c) (fun d hd => by
      unfold incF setF
      split
      · rfl
      · exact h d (by simp [hd]))]
    unfold incF setF
    by_cases e : y = c
    · subst e
      rw [if_pos rfl]
      obtain ⟨v, hv⟩ := Option.isSome_iff_exists.1 hc
      rw [hv]
      simp
      omega
    · rw [if_neg e, List.count_cons_of_ne (fun h => e h.symm)]
theorem use_step {ns : List Nd} {P : List Int} {x : Int} (hx : x ∉ P) (hk : ∀ c ∈ kids (nodeAt ns x), c ∈ P) (hn : ∀ z ∈ P, x ∉ kids (nodeAt ns z)) :
    (kids (nodeAt ns x)).foldl incF (setF (useF ns P) x 0) = useF ns (P ++ [x]) := by
  funext y
  rw [incF_fold y _ _ (fun c hc => by
    unfold setF useF
    split
    · rfl
    · rw [if_pos (hk c hc)]; rfl)]
  unfold setF useF cnt
  by_cases e : y = x
  · subst e
    have h0 : (P.flatMap fun z => kids (nodeAt ns z)).count y = 0 := List.count_eq_zero.2 (fun h => by
      obtain ⟨z, hz, h1⟩ := List.mem_flatMap.1 h
      exact hn z hz h1)
    simp [h0]
  · by_cases hy : y ∈ P
    · simp [e, hy]
    · have h0 : (kids (nodeAt ns x)).count y = 0 := List.count_eq_zero.2 (fun h => hy (hk y h))
      simp [e, hy]
theorem cnt_le (ns : List Nd) : ∀ (P : List Int) (y : Int), cnt ns P y ≤ 2 * P.length
  | [], y => by simp [cnt]
  | x :: P, y => by
    have ih := cnt_le ns P y
    unfold cnt at ih ⊢
    rw [List.flatMap_cons, List.count_append]
    have : (kids (nodeAt ns x)).count y ≤ 2 := Nat.le_trans List.count_le_length (by
      rcases kids_cases (nodeAt ns x) with h | ⟨a, h⟩ | ⟨a, b, h⟩ <;> simp [h])
    simp only [List.length_cons]
    omega
theorem ids_later {ns : List Nd} (ok : OkDag ns) {R : Int → Prop} {k : Nat} (hk : k < (belowL ns R).length) : ∀ z ∈ (belowL ns R).take k, (belowL ns R)[k]?.getD 0 ∉ kids (nodeAt ns z) := by
  intro z hz hm
  have hp := belowL_asc ns R
  rw [List.pairwise_iff_getElem] at hp
  rw [List.getElem?_eq_getElem hk, Option.getD_some] at hm
  rw [List.mem_take_iff_getElem] at hz
  obtain ⟨j, hj, rfl⟩ := hz
  have h1 := hp j k (by omega) hk (by omega)
  have hr := ((mem_belowL ok).1 (List.getElem_mem (l := belowL ns R) (n := j) (by omega))).range ok
  have := ok _ hr.1 hr.2 _ hm
  omega

set_option maxHeartbeats 3200000 in
set_option maxRecDepth 100000 in
theorem uses_any (d : Nat) (v : Value) (r : Option Nat) (ns : List Nd) (root : Int) (w : World) (hd : DagIs w d v r ns) (ok : OkDag ns) (hns : ns.length ≤ 20000) :
    Calls Tryz.prog 115 #[.pointer (some ⟨d, 0, none⟩), .int .i64 root] w fun e w' => ∃ m, e = .returned (.map (some m)) ∧ w.heap.size ≤ m ∧ MapX w' m (belowOf ns root).length (useF ns (belowOf ns root)) ∧ Only [] w w' := by
  have hmm := @run_makeMap Tryz.prog
  have HD := Lib.hid hd
  have HNs := Lib.hid hns
  have HOk := Lib.hid ok
  clear hd hns ok
  go_enter Tryz.func115, Tryz.ntmps115
  go_wp2_with fail
  have HA : Hid (IRead ((w.alloc (.map #[] 0)).alloc (.cells #[.int .i64 root] 3)) (some ⟨w.heap.size + 1, 0, none⟩) [root]) := fun k hk => ⟨w.heap.size + 1, 0, rfl, by
    have e : k = 0 := by simpa using hk
    subst e
    have := (Blk.new (w.alloc (.map #[] 0)) 3 [.int .i64 root]).cell 0
    rw [World.size_alloc] at this
    exact this⟩
  have HM : Hid (MapX (w.alloc (.map #[] 0)) w.heap.size 0 (fun _ => none)) := MapX.made w
  refine (below_any d v r ns [root] (some ⟨w.heap.size + 1, 0, none⟩) 1 _ (HD.out.only (((Only.refl [] w).alloc _).alloc _) (by simp)) HOk.out HNs.out HA (by simp)).mono ?_
  rintro e w1 ⟨u, rfl, hL, hfr, ho1⟩
  obtain ⟨L, hLe⟩ : ∃ L, L = belowOf ns root := ⟨_, rfl⟩
  have HLe := Lib.hid hLe
  have HIds : Hid (Ids ns L) := hLe ▸ belowL_ids HOk.out (· ∈ [root])
  have HKid : Hid (∀ k, k < L.length → ((∀ c ∈ kids (nodeAt ns (L[k]?.getD 0)), c ∈ L.take k) ∧ L[k]?.getD 0 ∉ L.take k) ∧ ∀ z ∈ L.take k, L[k]?.getD 0 ∉ kids (nodeAt ns z)) := by
    rw [hLe]
    exact fun k hk => ⟨ids_kids HOk.out hk, ids_later HOk.out hk⟩
  replace hL : IntsAt w1 u L := hLe ▸ hL
  clear hLe
  obtain ⟨Au, cu, rfl, hread⟩ := hL.shape
  have HM1 : Hid (MapX w1 w.heap.size 0 (fun _ => none)) := (HM.out.only ((Only.refl [] _).alloc _) (by simp)).only ho1 (by simp)
  have HO1 : Hid (Only [] w w1) := (((Only.refl [] w).alloc _).alloc _).nil_trans ho1
  have HR := Lib.hid hread
  have HFr : Hid (∀ b o, Au = some ⟨b, o, none⟩ → b ≠ w.heap.size) := by
    rintro b o rfl
    have := hfr b rfl
    rw [World.size_alloc, World.size_alloc] at this
    omega
  have hlen : (L.length : Int) ≤ 20000 := by have := HIds.out.len; have := HNs.out; omega
  clear hL ho1 hread HA HM hfr hmm
  generalize hm : w.heap.size = m at HM1 HFr ⊢
  have HSz : Hid (w.heap.size ≤ m) := by show _ ≤ _; omega
  clear hm
  go_wp2_with fail
  go_loopw [22] (fun i wr => ∃ k : Nat, k ≤ L.length ∧ i = .int .i64 k ∧ Only [m] w1 wr ∧ MapX wr m k (useF ns (L.take k))) (fun i _ => L.length - (intOf i).toNat)
  case atStart => exact ⟨0, Nat.zero_le _, rfl, Only.refl _ _, by
    have e : useF ns (L.take 0) = fun _ => none := by funext y; simp [useF]
    rw [e]; exact HM1.out⟩
  case round =>
    obtain ⟨k, hk, rfl, ho, hD⟩ := hrel
    have HO := Lib.hid ho
    have HUse := Lib.hid hD
    clear ho hD HM1
    by_cases hlt : k < L.length
    · obtain ⟨a, ha, han⟩ := HIds.out.mem k hlt
      obtain ⟨b, o, rfl, hcell0⟩ := HR.out k hlt
      have hbm : b ≠ m := HFr.out b o rfl
      have hcell := HO.out.cell hcell0 (by simpa using hbm)
      rw [ha] at hcell
      have HHa := Lib.hid ha
      have hlt' : (k : Int) < (L.length : Int) := by omega
      have HKk := Lib.hid (HKid.out k hlt)
      rw [ha] at HKk
      have HW : Hid (Only [m] w wr) := (HO1.out.mono (by simp)).trans HO.out (by simp)
      have HDm : Hid (∀ q ∈ foot d v r, q ∉ [m]) := fun q hq => by
        have h1 := HD.out.lt q hq
        have h2 := HSz.out
        simp
        omega
      have hsa : Small (a : Int) := by have := HNs.out; unfold Small; omega
      have hkn : k ≤ 20000 := by omega
      have HTake : Hid (L.take (k + 1) = L.take k ++ [(a : Int)]) := by
        show _ = _
        rw [List.take_succ_eq_append_getElem hlt, ← ha, List.getElem?_eq_getElem hlt]
        rfl
      have HStep : Hid ((kids (nodeAt ns (a : Int))).foldl incF (setF (useF ns (L.take k)) a 0) = useF ns (L.take (k + 1))) := by
        show _ = _
        rw [HTake.out]
        exact use_step HKk.out.1.2 HKk.out.1.1 HKk.out.2
      have HKs : Hid (∀ c ∈ kids (nodeAt ns (a : Int)), c ∈ L.take k ∧ Small c) := fun c hc => by
        have h1 := HKk.out.1.1 c hc
        have h2 := HOk.out (a : Int) (by omega) (by omega) c hc
        have h4 := HNs.out
        refine ⟨h1, ?_⟩
        unfold Small
        omega
      have HCnt : Hid (∀ y, cnt ns (L.take k) y ≤ 40000) := fun y => by
        have := cnt_le ns (L.take k) y
        have : (L.take k).length ≤ k := List.length_take_le _ _
        omega
      obtain ⟨w2, hup0, hM2, hO2⟩ := HUse.out.store (by omega) hsa (v := 0) (by unfold Small; omega)
      rw [show (useF ns (L.take k) (a : Int)) = none by unfold useF; rw [if_neg HKk.out.1.2]] at hM2
      replace hM2 : MapX w2 m (k + 1) (setF (useF ns (L.take k)) a 0) := hM2
      have HM2 := Lib.hid hM2
      have HO2 := Lib.hid hO2
      have HG : Hid (∀ y, y ∈ L.take k → (setF (useF ns (L.take k)) a 0 y).isSome = true ∧ 0 ≤ (setF (useF ns (L.take k)) a 0 y).getD 0 ∧ (setF (useF ns (L.take k)) a 0 y).getD 0 ≤ 40000) := fun y hy => by
        have := HCnt.out y
        unfold setF useF
        split
        · simp
        · first | (simp; omega) | (rw [if_pos hy]; simp; omega)
      clear ha hcell0 hlt hM2 hO2 hbm
      go_wp2_with fail
      refine (dnode_in d v r ns a w2 ((HD.out.only HW.out HDm.out).only HO2.out HDm.out) han).mono ?_
      rintro e w4 ⟨rfl, ho4⟩
      have HO4 := Lib.hid ho4
      have HK : Hid (kids (nodeAt ns (a : Int)) = kids (ns[a]?.getD nd0)) := rfl
      clear ho4 hup0
      generalize ns[a]?.getD nd0 = n at HK ⊢
      obtain ⟨nk, nf, na, nb⟩ := n
      simp only [Nd.val]
      have HO24 : Hid (Only [m] w1 w4) := (HO.out.trans HO2.out (by simp)).nil_trans HO4.out
      generalize setF (useF ns (L.take k)) a 0 = g at HM2 HStep HG
      by_cases h0 : nk = 0
      · subst h0
        go_wp2_with fail
        refine (parts_leaf nf na nb _).mono ?_
        rintro e w6 ⟨rfl, ho6⟩
        have HO6 : Hid (Only [] w4 (w6.alloc (.cells #[.int .i64 0, .int .i64 0] 170))) := ((((Only.refl [] _).alloc _).nil_trans ho6)).alloc _
        have HE : Hid (g = useF ns (L.take (k + 1))) := by
          show _ = _
          rw [← HStep.out, HK.out]
          simp [kids]
        clear ho6
        go_wp2_with fail
        refine wp_loop_rounds 1 ?_
        rw [rounds_succ]
        go_wp2_with fail
        go_roundw
        case rel => exact ⟨k + 1, by omega, by go_num, HO24.out.nil_trans HO6.out, HE.out ▸ (HM2.out.only HO4.out (by simp)).only HO6.out (by simp)⟩
        case measure => simp [intOf]; omega
      · by_cases h5 : nk = 5
        · subst h5
          have HKids : Hid (kids (nodeAt ns (a : Int)) = [na]) := by
            show _ = _
            rw [HK.out]
            simp [kids]
          obtain ⟨p1, p3⟩ := HKs.out na (by rw [HKids.out]; simp)
          obtain ⟨i1, i2, i3⟩ := HG.out na p1
          have HI1 := Lib.hid i1
          clear p1 i1
          go_wp2_with fail
          refine (parts_root nf na nb _).mono ?_
          rintro e w6 ⟨rfl, ho6⟩
          have HO6 : Hid (Only [] w4 (w6.alloc (.cells #[.int .i64 na, .int .i64 0] 170))) := ((((Only.refl [] _).alloc _).nil_trans ho6)).alloc _
          have HE : Hid (incF g na = useF ns (L.take (k + 1))) := by
            show _ = _
            rw [← HStep.out, HKids.out]
            simp
          have c0 := (Blk.new w6 170 [.int .i64 na, .int .i64 0]).cell 0
          simp only [List.getElem?_cons_zero] at c0
          have hM6 : MapX (w6.alloc (.cells #[.int .i64 na, .int .i64 0] 170)) m (k + 1) g := (HM2.out.only HO4.out (by simp)).only HO6.out (by simp)
          have q1 := hM6.look p3
          obtain ⟨w8, q3, q4, q5⟩ := hM6.store (by omega) p3 (v := (g na).getD 0 + 1) (by unfold Small; omega)
          rw [HI1.out] at q4
          replace q4 : MapX w8 m (k + 1) (incF g na) := q4
          have HM8 := Lib.hid q4
          have HO8 := Lib.hid q5
          clear ho6 q4 q5 hM6
          go_wp2_with fail
          refine wp_loop_rounds 2 ?_
          rw [rounds_succ]
          go_wp2_with fail
          rw [rounds_succ]
          go_wp2_with fail
          go_roundw
          case rel => exact ⟨k + 1, by omega, by go_num, (HO24.out.nil_trans HO6.out).trans HO8.out (by simp), HE.out ▸ HM8.out⟩
          case measure => simp [intOf]; omega
        · have HKids : Hid (kids (nodeAt ns (a : Int)) = [na, nb]) := by
            show _ = _
            rw [HK.out]
            simp [kids, h0, h5]
          obtain ⟨p1, p3⟩ := HKs.out na (by rw [HKids.out]; simp)
          obtain ⟨i1, i2, i3⟩ := HG.out na p1
          obtain ⟨p1', p3'⟩ := HKs.out nb (by rw [HKids.out]; simp)
          obtain ⟨i1', i2', i3'⟩ := HG.out nb p1'
          have HI1 := Lib.hid i1
          have HI2 := Lib.hid i1'
          have g0 : (nk == 0) = false := by simpa using h0
          have g5 : (nk == 5) = false := by simpa using h5
          clear p1 i1 p1' i1' h0 h5
          go_wp2_with fail
          refine (parts_two nk nf na nb _ g0 g5).mono ?_
          rintro e w6 ⟨rfl, ho6⟩
          have HO6 : Hid (Only [] w4 (w6.alloc (.cells #[.int .i64 na, .int .i64 nb] 170))) := ((((Only.refl [] _).alloc _).nil_trans ho6)).alloc _
          have HE : Hid (incF (incF g na) nb = useF ns (L.take (k + 1))) := by
            show _ = _
            rw [← HStep.out, HKids.out]
            simp
          have HB6 := Lib.hid (Blk.new w6 170 [.int .i64 na, .int .i64 nb])
          have c0 := HB6.out.cell 0
          simp only [List.getElem?_cons_zero] at c0
          have hM6 : MapX (w6.alloc (.cells #[.int .i64 na, .int .i64 nb] 170)) m (k + 1) g := (HM2.out.only HO4.out (by simp)).only HO6.out (by simp)
          have hmlt : m < w6.heap.size := by
            have := HM2.out.lt
            have := HO4.out.size
            have := ho6.size
            simp at this
            omega
          have q1 := hM6.look p3
          obtain ⟨w8, q3, q4, q5⟩ := hM6.store (by omega) p3 (v := (g na).getD 0 + 1) (by unfold Small; omega)
          rw [HI1.out] at q4
          replace q4 : MapX w8 m (k + 1) (incF g na) := q4
          have c1 := (HB6.out.only q5 (by simp; omega)).cell 1
          simp only [List.getElem?_cons_succ, List.getElem?_cons_zero] at c1
          have hz : (incF g na nb).isSome = true ∧ 0 ≤ (incF g na nb).getD 0 ∧ (incF g na nb).getD 0 ≤ 40001 := by
            unfold incF setF
            split
            · exact ⟨rfl, by simp; omega, by simp; omega⟩
            · exact ⟨HI2.out, i2', by omega⟩
          obtain ⟨z0, z1, z2⟩ := hz
          have q1' := q4.look p3'
          obtain ⟨w9, q3', q4', q5'⟩ := q4.store (by omega) p3' (v := (incF g na nb).getD 0 + 1) (by unfold Small; omega)
          rw [z0] at q4'
          replace q4' : MapX w9 m (k + 1) (incF (incF g na) nb) := q4'
          have HM9 := Lib.hid q4'
          have HO9 : Hid (Only [m] (w6.alloc (.cells #[.int .i64 na, .int .i64 nb] 170)) w9) := q5.trans q5' (by simp)
          clear ho6 q4 q5 hM6 q4' q5' z0 hmlt
          generalize (incF g na nb).getD 0 = z at q1' q3' z1 z2
          go_wp2_with fail
          refine wp_loop_rounds 3 ?_
          rw [rounds_succ]
          go_wp2_with fail
          rw [rounds_succ]
          go_wp2_with fail
          rw [rounds_succ]
          go_wp2_with fail
          go_roundw
          case rel => exact ⟨k + 1, by omega, by go_num, (HO24.out.nil_trans HO6.out).trans HO9.out (by simp), HE.out ▸ HM9.out⟩
          case measure => simp [intOf]; omega
    · have hnl : ¬ (k : Int) < (L.length : Int) := by omega
      have e : k = L.length := by omega
      have HE : Hid (L.take k = L) := by
        show _ = _
        rw [e, List.take_length]
      have HKL := Lib.hid e
      clear e
      go_wp2_with fail
      go_returns
      refine ⟨m, rfl, HSz.out, ?_, HO1.out.trans HO.out (fun q hq => .inr (by simp at hq; rw [hq]; exact HSz.out))⟩
      rw [← HLe.out, ← HKL.out, ← HE.out]
      have := HUse.out
      rw [HE.out] at this ⊢
      exact this
end Go.Proofs.YtigpnopeacicpaaGreatDoor

/-
  near.drop and near.fits; the state of near.eval, plain.
-/
namespace Go.Proofs.YtigpnopeacicpaaGreatDoor
set_option linter.unusedSimpArgs false
open Go.RowKit
attribute [local go_sem] run_store_float

def fitsP (x : Dy) : Bool := decide (x.z = 0) || (decide (-4194304 ≤ topD x) && decide (topD x ≤ 4194304))
abbrev NSt := (Int → Option (Dy × Dy)) × (Int → Option Int)
def leftN (U : Int → Option Int) (k : Int) : Int := (U k).getD 0 - 1
def dropN (k : Int) (s : NSt) : NSt := (if leftN s.2 k = 0 then delB s.1 k else s.1, setF s.2 k (leftN s.2 k))
def stepN (ns : List Nd) (g : Int → Dy × Dy) (s : NSt) (x : Int) : NSt :=
  if (nodeAt ns x).k = 0 then (putB s.1 x (g x), s.2)
  else if (nodeAt ns x).k = 5 then dropN (nodeAt ns x).a (putB s.1 x (g x), s.2)
  else dropN (nodeAt ns x).a (dropN (nodeAt ns x).b (putB s.1 x (g x), s.2))
def runN (ns : List Nd) (g : Int → Dy × Dy) (U : Int → Option Int) (L : List Int) : NSt := L.foldl (stepN ns g) (fun _ => none, U)
theorem runN_snoc (ns : List Nd) (g : Int → Dy × Dy) (U : Int → Option Int) {L P : List Int} {x : Int} (h : L = P ++ [x]) : runN ns g U L = stepN ns g (runN ns g U P) x := by
  subst h
  simp [runN, List.foldl_append]
def LeftAt (w : World) (u n : Nat) (U : Int → Option Int) : Prop := ∃ n', n' ≤ n ∧ MapX w u n' U
section
variable {w w' : World} {u n : Nat} {U : Int → Option Int} {k v : Int}
theorem LeftAt.lt (h : LeftAt w u n U) : u < w.heap.size := by
  obtain ⟨n', h0, h1⟩ := h
  exact h1.lt
theorem LeftAt.obj (h : LeftAt w u n U) : ∃ es clock, w.heap[u]? = some (.map es clock) := by
  obtain ⟨n', h0, D, ⟨es, clock, h1, _⟩, _⟩ := h
  exact ⟨es, clock, h1⟩
theorem LeftAt.only {S : List Nat} (h : LeftAt w u n U) (ho : Only S w w') (hb : u ∉ S) : LeftAt w' u n U := by
  obtain ⟨n', h0, h1⟩ := h
  exact ⟨n', h0, h1.only ho hb⟩
theorem LeftAt.look (h : LeftAt w u n U) (hk : Small k) : (Instr.lookup 147 (.map (some u)) (.int .i64 k) false).run Tryz.prog w = .ok (.int .i64 ((U k).getD 0)) w := by
  obtain ⟨n', h0, h1⟩ := h
  exact h1.look hk
theorem LeftAt.store (h : LeftAt w u n U) (hn : n < 1000000) (hk : Small k) (hv : Small v) :
    ∃ w', (Instr.mapUpdate 147 (.map (some u)) (.int .i64 k) (.int .i64 v)).run Tryz.prog w = .ok () w' ∧ LeftAt w' u (n + 1) (setF U k v) ∧ Only [u] w w' := by
  obtain ⟨n', h0, h1⟩ := h
  obtain ⟨w', hr, h2, ho⟩ := h1.store (by omega) hk hv
  exact ⟨w', hr, ⟨_, by split <;> omega, h2⟩, ho⟩
end
def LeftOk (c : Int) (U : Int → Option Int) : Prop := ∀ y z, U y = some z → -c ≤ z ∧ z ≤ 100000
theorem LeftOk.at {c : Int} {U : Int → Option Int} (h : LeftOk c U) (hc : 0 ≤ c) (k : Int) : -(c + 1) ≤ leftN U k ∧ leftN U k ≤ 100000 := by
  unfold leftN
  cases e : U k with
  | none => simp; omega
  | some z =>
    have := h k z e
    simp
    omega
theorem LeftOk.drop {c : Int} {U : Int → Option Int} (h : LeftOk c U) (hc : 0 ≤ c) (k : Int) : LeftOk (c + 1) (setF U k (leftN U k)) := by
  intro y z hy
  unfold setF at hy
  split at hy
  · injection hy with hy
    subst hy
    exact h.at hc k
  · have := h y z hy
    omega

set_option maxHeartbeats 1600000 in
set_option maxRecDepth 100000 in
theorem drop_any {w : World} {m u n nu : Nat} {B : Int → Option (Dy × Dy)} {U : Int → Option Int} (k : Int) (c : Int) (hB : Hid (BallsAt w m n B)) (hU : Hid (LeftAt w u nu U)) (hmu : Hid (m ≠ u)) (hk : Hid (Small k)) (hc : Hid (LeftOk c U)) (hc0 : 0 ≤ c) (hc1 : c ≤ 100000) (hnu : nu < 999999) :
    Calls Tryz.prog 119 #[.map (some m), .map (some u), .int .i64 k] w fun e w' => e = .returned (.tuple #[]) ∧ BallsAt w' m n (dropN k (B, U)).1 ∧ LeftAt w' u (nu + 1) (dropN k (B, U)).2 ∧ Only [m, u] w w' := by
  have hr := hc.out.at hc0 k
  obtain ⟨z, hz⟩ : ∃ z, leftN U k = z := ⟨_, rfl⟩
  have hzz : (U k).getD 0 - 1 = z := hz
  rw [hz] at hr
  have hzs : Hid (Small z) := by show Small _; unfold Small; omega
  have hl := hU.out.look hk.out
  obtain ⟨x, hx⟩ : ∃ x, (U k).getD 0 = x := ⟨_, rfl⟩
  rw [hx] at hl hzz
  have hw1 : IntKind.i64.wrap (x - 1) = z := by rw [hzz]; exact wrap_i64 (by omega)
  obtain ⟨w1, hr1, hU1, ho1⟩ := hU.out.store (by omega) hk.out hzs.out
  have hl2 := hU1.look hk.out
  have e2 : (setF U k z k).getD 0 = z := by unfold setF; rw [if_pos rfl]; rfl
  rw [e2] at hl2
  have HB1 := Lib.hid (hB.out.far ho1 hU.out.obj hmu.out)
  have HU1 := Lib.hid hU1
  have HO1 := Lib.hid ho1
  have HE : Hid (dropN k (B, U) = (if z = 0 then delB B k else B, setF U k z)) := by
    show _ = _
    unfold dropN
    simp only
    rw [hz]
  rw [HE.out]
  clear hB hU hU1 ho1 hzz hz e2 hx hr HE hc hc0 hc1 hnu hzs
  by_cases h0 : z = 0
  · subst h0
    rw [if_pos rfl]
    obtain ⟨w2, hr2, hB2, ho2⟩ := HB1.out.drop hk.out 0
    have HB2 := Lib.hid hB2
    have HU2 := Lib.hid (HU1.out.only ho2 (by simp; exact fun h => hmu.out h.symm))
    have HO2 : Hid (Only [m, u] w w2) := (HO1.out.mono (by simp)).trans ho2 (by simp)
    clear HB1 HU1 HO1 hB2 ho2
    go_enter Tryz.func119, Tryz.ntmps119
    go_wp2_with fail
    go_returns
    exact ⟨rfl, HB2.out, HU2.out, HO2.out⟩
  · have hne : (z == 0) = false := by simpa using h0
    rw [if_neg h0]
    clear h0
    go_enter Tryz.func119, Tryz.ntmps119
    go_wp2_with fail
    go_returns
    exact ⟨rfl, HB1.out, HU1.out, HO1.out.mono (by simp)⟩
end Go.Proofs.YtigpnopeacicpaaGreatDoor

/-
  near.combine, of each kind of node.
-/
namespace Go.Proofs.YtigpnopeacicpaaGreatDoor
set_option linter.unusedSimpArgs false
open Go.RowKit
attribute [local go_sem] run_store_float

theorem noLimbNd (k : Int) (f : Nat) (a b : Int) : NoLimb [.int .i64 k, .float .f64 f, .int .i64 a, .int .i64 b] := fun o n h => by
  rcases o with _ | _ | _ | _ | o <;> simp at h
set_option maxHeartbeats 8000000 in
set_option maxRecDepth 100000 in
theorem ncomb_leaf {w : World} {a b : Value} {x y u v z : Dy} {N : Nat} (nf : Nat) (na nb p : Int) (r : Dy) (hr : nrm z.z z.e = r) (hf : Hid (∀ W : World, Tab6 W → Calls Tryz.prog 144 #[.float .f64 nf] W (QDPost z true W))) (bz : Hid (Bnd N z)) (hN : N ≤ 8000000)
    (ha : Hid (BV w a x y)) (hb : Hid (BV w b u v)) (hT : Hid (Tab6 w)) :
    Calls Tryz.prog 117 #[.agg #[.int .i64 0, .float .f64 nf, .int .i64 na, .int .i64 nb], a, b, .int .i64 p] w (QBPost r r true w) := by
  obtain ⟨s1, A1, k1, c1, t1, B1, m1, d1, rfl, hx1, hy1⟩ := ha.out
  obtain ⟨s2, A2, k2, c2, t2, B2, m2, d2, rfl, hx2, hy2⟩ := hb.out
  have hk := ((((GB.start w).new 95 [.int .i64 0, .float .f64 nf, .int .i64 na, .int .i64 nb] (noLimbNd _ _ _ _)).new 34 [.bool s1, .slice A1 k1 c1, .int .i64 x.e, .bool t1, .slice B1 m1 d1, .int .i64 y.e] (noLimb6 _ _ _ _ _ _ _ _ _ _)).new 34 [.bool s2, .slice A2 k2 c2, .int .i64 u.e, .bool t2, .slice B2 m2 d2, .int .i64 v.e] (noLimb6 _ _ _ _ _ _ _ _ _ _)).new 34 [.bool false, .slice none 0 0, .int .i64 0, .bool false, .slice none 0 0, .int .i64 0] (noLimb6 _ _ _ _ _ _ _ _ _ _)
  simp only [World.size_alloc] at hk
  have hi := ((((WL.nil w).cons (Lib.hid hy2)).cons (Lib.hid hx2)).cons (Lib.hid hy1)).cons (Lib.hid hx1)
  have HI := Lib.hid (hi.step hk.only)
  have HK := Lib.hid hk
  clear hk hi hx1 hy1 hx2 hy2 ha hb
  have hnb := GB.blk HK 3 rfl
  have n0 := hnb.cell 0
  have n1 := hnb.cell 1
  simp only [List.getElem?_cons_zero, List.getElem?_cons_succ] at n0 n1
  clear hnb
  go_enter Tryz.func117, Tryz.ntmps117
  go_wp2_with fail
  (with_reducible refine (hf.out _ (hT.out.keep HK.out.only)).mono ?_)
  rintro e w2 ⟨s4, A4, k4, c4, rfl, hs4, hk4, hv4, ho⟩
  replace HK := Lib.hid ((HK.out.step ho).new 32 [.bool s4, .slice A4 k4 c4, .int .i64 z.e] (noLimb3 _ _ _ _ _))
  have HV4 := Lib.hid (hv4.only ((Only.refl [] w2).alloc (.cells #[.bool s4, .slice A4 k4 c4, .int .i64 z.e] 32)))
  clear ho n0 n1 hs4 hk4 hv4 HI
  obtain ⟨e0, e1, e2⟩ := GB.c3 HK 0 rfl
  go_upto_region 8 with fail
  generalize w2.heap.size = g4 at *
  generalize w2.alloc _ = w3 at *
  go_wp2_with fail
  (with_reducible refine (atV_b (x := z) r hr (DV.of HV4) bz hN (Lib.hid (hT.out.keep HK.out.only))).mono ?_)
  rintro e w5 ⟨s5, A5, k5, c5, s6, A6, k6, c6, rfl, hc5, hv5, hc6, hv6, ho⟩
  have HC5 := Lib.hid hc5
  have HV5 := Lib.hid hv5
  have HC6 := Lib.hid hc6
  have HV6 := Lib.hid hv6
  replace HK := Lib.hid (HK.out.step ho)
  clear ho hc5 hv5 hc6 hv6
  clear e0 e1 e2 HV4
  replace HK := Lib.hid HK.out.tail
  obtain ⟨q0, q1, q2, q3, q4, q5⟩ := GB.c6 HK 0 rfl
  obtain ⟨f0, f1, f2, f3, f4, f5⟩ := GB.f6 HK 0 rfl
  go_wp2_with fail
  refine bodyPost_ret (v := .tuple #[.agg #[.bool s5, .slice A5 k5 c5, .int .i64 (r.e), .bool s6, .slice A6 k6 c6, .int .i64 (r.e)], .bool true]) (by simp [results, Tryz.results117, go_sem, q0, q1, q2, q3, q4, q5]) rfl ?_
  exact qbfin HC5 HV5 HC6 HV6 (by omega) (GB.blk HK 0 rfl) (noLimb6 _ _ _ _ _ _ _ _ _ _) HK.out.only (only_set6 _ _ _ _ _ _ _ _)
set_option maxHeartbeats 8000000 in
set_option maxRecDepth 100000 in
theorem ncomb_mul {w : World} {a b : Value} {x y u v : Dy} {N : Nat} (nf : Nat) (na nb p : Int) (lo hi : Dy) (hlo : rndD (widthP p) false (mulLo x y u v) = lo) (hhi : rndD (widthP p) true (mulHi x y u v) = hi) (ha : Hid (BV w a x y)) (hb : Hid (BV w b u v)) (bx : Hid (Bnd N x)) (by_ : Hid (Bnd N y)) (bu : Hid (Bnd N u)) (bv : Hid (Bnd N v)) (hN : N ≤ 200000) (hT : Hid (Tab6 w)) :
    Calls Tryz.prog 117 #[.agg #[.int .i64 3, .float .f64 nf, .int .i64 na, .int .i64 nb], a, b, .int .i64 p] w (QBPost lo hi true w) := by
  obtain ⟨s1, A1, k1, c1, t1, B1, m1, d1, rfl, hx1, hy1⟩ := ha.out
  obtain ⟨s2, A2, k2, c2, t2, B2, m2, d2, rfl, hx2, hy2⟩ := hb.out
  have hk := ((((GB.start w).new 95 [.int .i64 3, .float .f64 nf, .int .i64 na, .int .i64 nb] (noLimbNd _ _ _ _)).new 34 [.bool s1, .slice A1 k1 c1, .int .i64 x.e, .bool t1, .slice B1 m1 d1, .int .i64 y.e] (noLimb6 _ _ _ _ _ _ _ _ _ _)).new 34 [.bool s2, .slice A2 k2 c2, .int .i64 u.e, .bool t2, .slice B2 m2 d2, .int .i64 v.e] (noLimb6 _ _ _ _ _ _ _ _ _ _)).new 34 [.bool false, .slice none 0 0, .int .i64 0, .bool false, .slice none 0 0, .int .i64 0] (noLimb6 _ _ _ _ _ _ _ _ _ _)
  simp only [World.size_alloc] at hk
  have hi := ((((WL.nil w).cons (Lib.hid hy2)).cons (Lib.hid hx2)).cons (Lib.hid hy1)).cons (Lib.hid hx1)
  have HI := Lib.hid (hi.step hk.only)
  have HK := Lib.hid hk
  clear hk hi hx1 hy1 hx2 hy2 ha hb
  have hnb := GB.blk HK 3 rfl
  have n0 := hnb.cell 0
  have n1 := hnb.cell 1
  simp only [List.getElem?_cons_zero, List.getElem?_cons_succ] at n0 n1
  clear hnb
  obtain ⟨j0, j1, j2, j3, j4, j5⟩ := GB.c6 HK 2 rfl
  obtain ⟨l0, l1, l2, l3, l4, l5⟩ := GB.c6 HK 1 rfl
  go_enter Tryz.func117, Tryz.ntmps117
  go_wp2_with fail
  (with_reducible refine (bmul_b p lo hi hlo hhi (BV.of (x := x) (y := y) (WL.at (z := x.z) HI 0 rfl) (WL.at (z := y.z) HI 1 rfl)) (BV.of (x := u) (y := v) (WL.at (z := u.z) HI 2 rfl) (WL.at (z := v.z) HI 3 rfl)) bx by_ bu bv hN (Lib.hid (hT.out.keep HK.out.only))).mono ?_)
  rintro e w5 ⟨s5, A5, k5, c5, s6, A6, k6, c6, rfl, hc5, hv5, hc6, hv6, ho⟩
  have HC5 := Lib.hid hc5
  have HV5 := Lib.hid hv5
  have HC6 := Lib.hid hc6
  have HV6 := Lib.hid hv6
  replace HK := Lib.hid (HK.out.step ho)
  clear ho hc5 hv5 hc6 hv6
  clear n0 n1 j0 j1 j2 j3 j4 j5 l0 l1 l2 l3 l4 l5 HI
  obtain ⟨q0, q1, q2, q3, q4, q5⟩ := GB.c6 HK 0 rfl
  obtain ⟨f0, f1, f2, f3, f4, f5⟩ := GB.f6 HK 0 rfl
  go_wp2_with fail
  refine bodyPost_ret (v := .tuple #[.agg #[.bool s5, .slice A5 k5 c5, .int .i64 (lo.e), .bool s6, .slice A6 k6 c6, .int .i64 (hi.e)], .bool true]) (by simp [results, Tryz.results117, go_sem, q0, q1, q2, q3, q4, q5]) rfl ?_
  exact qbfin HC5 HV5 HC6 HV6 (by omega) (GB.blk HK 0 rfl) (noLimb6 _ _ _ _ _ _ _ _ _ _) HK.out.only (only_set6 _ _ _ _ _ _ _ _)
set_option maxHeartbeats 8000000 in
set_option maxRecDepth 100000 in
theorem ncomb_root {w : World} {a b : Value} {x y u v lo hi : Dy} {N : Nat} (nf : Nat) (na nb p : Int) (hy0 : 0 ≤ y.z) (hlo : sqrtQ (widthP p) false (if x.z < 0 then ⟨0, 0⟩ else x) = lo) (hhi : sqrtQ (widthP p) true y = hi) (bx : Hid (Bnd N x)) (by_ : Hid (Bnd N y)) (hN : N ≤ 100000) (hT : Hid (Tab6 w)) (ha : Hid (BV w a x y)) (hb : Hid (BV w b u v)) :
    Calls Tryz.prog 117 #[.agg #[.int .i64 5, .float .f64 nf, .int .i64 na, .int .i64 nb], a, b, .int .i64 p] w (QBPost lo hi true w) := by
  obtain ⟨s1, A1, k1, c1, t1, B1, m1, d1, rfl, hx1, hy1⟩ := ha.out
  obtain ⟨s2, A2, k2, c2, t2, B2, m2, d2, rfl, hx2, hy2⟩ := hb.out
  have hk := ((((GB.start w).new 95 [.int .i64 5, .float .f64 nf, .int .i64 na, .int .i64 nb] (noLimbNd _ _ _ _)).new 34 [.bool s1, .slice A1 k1 c1, .int .i64 x.e, .bool t1, .slice B1 m1 d1, .int .i64 y.e] (noLimb6 _ _ _ _ _ _ _ _ _ _)).new 34 [.bool s2, .slice A2 k2 c2, .int .i64 u.e, .bool t2, .slice B2 m2 d2, .int .i64 v.e] (noLimb6 _ _ _ _ _ _ _ _ _ _)).new 34 [.bool false, .slice none 0 0, .int .i64 0, .bool false, .slice none 0 0, .int .i64 0] (noLimb6 _ _ _ _ _ _ _ _ _ _)
  simp only [World.size_alloc] at hk
  have hi := ((((WL.nil w).cons (Lib.hid hy2)).cons (Lib.hid hx2)).cons (Lib.hid hy1)).cons (Lib.hid hx1)
  have HI := Lib.hid (hi.step hk.only)
  have HK := Lib.hid hk
  clear hk hi hx1 hy1 hx2 hy2 ha hb
  have hnb := GB.blk HK 3 rfl
  have n0 := hnb.cell 0
  have n1 := hnb.cell 1
  simp only [List.getElem?_cons_zero, List.getElem?_cons_succ] at n0 n1
  clear hnb
  obtain ⟨j0, j1, j2, j3, j4, j5⟩ := GB.c6 HK 2 rfl
  go_enter Tryz.func117, Tryz.ntmps117
  go_wp2_with fail
  (with_reducible refine (bsqrt_b p hy0 hlo hhi (BV.of (x := x) (y := y) (WL.at (z := x.z) HI 0 rfl) (WL.at (z := y.z) HI 1 rfl)) bx by_ hN (Lib.hid (hT.out.keep HK.out.only))).mono ?_)
  rintro e w5 ⟨s5, A5, k5, c5, s6, A6, k6, c6, rfl, hc5, hv5, hc6, hv6, ho⟩
  have HC5 := Lib.hid hc5
  have HV5 := Lib.hid hv5
  have HC6 := Lib.hid hc6
  have HV6 := Lib.hid hv6
  replace HK := Lib.hid (HK.out.step ho)
  clear ho hc5 hv5 hc6 hv6
  clear n0 n1 j0 j1 j2 j3 j4 j5 HI hy0
  obtain ⟨q0, q1, q2, q3, q4, q5⟩ := GB.c6 HK 0 rfl
  obtain ⟨f0, f1, f2, f3, f4, f5⟩ := GB.f6 HK 0 rfl
  go_wp2_with fail
  refine bodyPost_ret (v := .tuple #[.agg #[.bool s5, .slice A5 k5 c5, .int .i64 (lo.e), .bool s6, .slice A6 k6 c6, .int .i64 (hi.e)], .bool true]) (by simp [results, Tryz.results117, go_sem, q0, q1, q2, q3, q4, q5]) rfl ?_
  exact qbfin HC5 HV5 HC6 HV6 (by omega) (GB.blk HK 0 rfl) (noLimb6 _ _ _ _ _ _ _ _ _ _) HK.out.only (only_set6 _ _ _ _ _ _ _ _)
end Go.Proofs.YtigpnopeacicpaaGreatDoor
