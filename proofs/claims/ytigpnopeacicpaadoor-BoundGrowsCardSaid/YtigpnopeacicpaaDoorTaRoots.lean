/-
  walk.Roots: how many roots.
-/
import Derived.Test.YtigpnopeacicpaaDoorTaBelowD
namespace Go.Proofs.YtigpnopeacicpaaDoor
open Go.RowKit
attribute [local go_sem] run_store_float

/-- How many roots are among the nodes of a list. -/
def rootsL (ns : List Nd) (L : List Int) : Nat := (L.filter fun x => (nodeAt ns x).k == 5).length
theorem rootsL_snoc (ns : List Nd) (L : List Int) (k : Nat) (hk : k < L.length) : rootsL ns (L.take (k + 1)) = rootsL ns (L.take k) + if (nodeAt ns (L[k]?.getD 0)).k = 5 then 1 else 0 := by
  unfold rootsL
  rw [List.take_succ_eq_append_getElem hk, List.filter_append, List.length_append, List.getElem?_eq_getElem hk]
  by_cases h : (nodeAt ns L[k]).k = 5 <;> simp [h]
theorem rootsL_le (ns : List Nd) (L : List Int) : rootsL ns L ≤ L.length := List.length_filter_le _ _

/-- What is known of a list that Below tells. -/
structure Ids (ns : List Nd) (L : List Int) : Prop where
  mem : ∀ k, k < L.length → ∃ a : Nat, L[k]?.getD 0 = (a : Int) ∧ a < ns.length
  len : L.length ≤ ns.length
theorem belowL_ids {ns : List Nd} (ok : OkDag ns) (R : Int → Prop) : Ids ns (belowL ns R) := by
  constructor
  · intro k hk
    have hm : (belowL ns R)[k] ∈ belowL ns R := List.getElem_mem hk
    have hr := ((mem_belowL ok).1 hm).range ok
    refine ⟨((belowL ns R)[k]).toNat, ?_, by omega⟩
    rw [List.getElem?_eq_getElem hk]
    simp only [Option.getD_some]
    omega
  · unfold belowL
    rw [List.length_map]
    exact Nat.le_trans (List.length_filter_le _ _) (by simp)

/-- All that one is made of. -/
noncomputable def belowOf (ns : List Nd) (root : Int) : List Int := belowL ns (· ∈ [root])

set_option maxHeartbeats 1600000 in
theorem roots_any (d : Nat) (v : Value) (r : Option Nat) (ns : List Nd) (root : Int) (w : World) (hd : DagIs w d v r ns) (ok : OkDag ns) (hns : ns.length ≤ 20000) :
    Calls Tryd.prog 44 #[.pointer (some ⟨d, 0, none⟩), .int .i64 root] w fun e w' => e = .returned (.int .i64 (rootsL ns (belowOf ns root) : Int)) ∧ Only [] w w' := by
  have HD := Lib.hid hd
  have HNs := Lib.hid hns
  have HOk := Lib.hid ok
  clear hd hns ok
  go_enter Tryd.func44, Tryd.ntmps44
  go_wp2_with fail
  have HA : Hid (IRead (w.alloc (.cells #[.int .i64 root] 3)) (some ⟨w.heap.size, 0, none⟩) [root]) := fun k hk => ⟨w.heap.size, 0, rfl, by
    have e : k = 0 := by simpa using hk
    subst e
    exact (Blk.new w 3 [.int .i64 root]).cell 0⟩
  refine (below_any d v r ns [root] (some ⟨w.heap.size, 0, none⟩) 1 _ (HD.out.only ((Only.refl [] w).alloc _) (by simp)) HOk.out HNs.out HA (by simp)).mono ?_
  rintro e w1 ⟨u, rfl, hL, -, ho1⟩
  obtain ⟨L, hLe⟩ : ∃ L, L = belowOf ns root := ⟨_, rfl⟩
  have HLe := Lib.hid hLe
  have HIds : Hid (Ids ns L) := hLe ▸ belowL_ids HOk.out (· ∈ [root])
  replace hL : IntsAt w1 u L := hLe ▸ hL
  clear hLe
  obtain ⟨Au, cu, rfl, hread⟩ := hL.shape
  have HO1 : Hid (Only [] w w1) := ((Only.refl [] w).alloc _).nil_trans ho1
  have HR := Lib.hid hread
  have hlen : (L.length : Int) ≤ 20000 := by have := HIds.out.len; have := HNs.out; omega
  clear hL ho1 hread HA
  go_wp2_with fail
  go_loopw [5, 15] (fun c i wr => ∃ k : Nat, k ≤ L.length ∧ i = .int .i64 k ∧ c = .int .i64 (rootsL ns (L.take k) : Int) ∧ Only [] w1 wr) (fun _ i _ => L.length - (intOf i).toNat)
  case atStart => exact ⟨0, Nat.zero_le _, rfl, rfl, Only.refl _ _⟩
  case round =>
    obtain ⟨k, hk, rfl, rfl, ho⟩ := hrel
    have HO := Lib.hid ho
    clear ho
    by_cases hlt : k < L.length
    · obtain ⟨a, ha, han⟩ := HIds.out.mem k hlt
      obtain ⟨b, o, rfl, hcell⟩ := HR.out.only HO.out k hlt
      rw [ha] at hcell
      have HS := Lib.hid (rootsL_snoc ns L k hlt)
      have HHa := Lib.hid ha
      have hle : (rootsL ns (L.take k) : Int) ≤ 20000 := by have := rootsL_le ns (L.take k); have : (L.take k).length ≤ k := List.length_take_le _ _; omega
      have hlt' : (k : Int) < (L.length : Int) := by omega
      clear ha
      go_wp2_with fail
      refine (dnode_in d v r ns a wr (HD.out.only (HO1.out.nil_trans HO.out) (by simp)) han).mono ?_
      rintro e w2 ⟨rfl, ho2⟩
      have HO2 : Hid (Only [] w1 w2) := HO.out.nil_trans ho2
      have HN : Hid (nodeAt ns (a : Int) = ns[a]?.getD nd0) := rfl
      clear ho2
      generalize ns[a]?.getD nd0 = n at HN ⊢
      obtain ⟨nk, nf, na, nb⟩ := n
      simp only [Nd.val]
      by_cases h5 : nk = 5
      · have HE : Hid (rootsL ns (L.take (k + 1)) = rootsL ns (L.take k) + 1) := by
          show _ = _
          rw [HS.out, HHa.out, HN.out, if_pos h5]
        subst h5
        go_wp2_with fail
        go_roundw
        case rel => exact ⟨k + 1, by omega, by go_num, by rw [HE.out]; go_num, HO2.out.alloc _⟩
        case measure => simp [intOf]; omega
      · have HE : Hid (rootsL ns (L.take (k + 1)) = rootsL ns (L.take k)) := by
          show _ = _
          rw [HS.out, HHa.out, HN.out, if_neg h5]
          rfl
        have g5 : (nk == 5) = false := by simpa using h5
        clear h5
        go_wp2_with fail
        go_roundw
        case rel => exact ⟨k + 1, by omega, by go_num, by rw [HE.out], HO2.out.alloc _⟩
        case measure => simp [intOf]; omega
    · have hnl : ¬ (k : Int) < (L.length : Int) := by omega
      have e : k = L.length := by omega
      have HE : Hid (L.take k = L) := by
        show _ = _
        rw [e, List.take_length]
      clear e
      go_wp2_with fail
      go_returns
      exact ⟨by rw [← HLe.out, HE.out]; try rfl, HO1.out.nil_trans HO.out⟩
end Go.Proofs.YtigpnopeacicpaaDoor
