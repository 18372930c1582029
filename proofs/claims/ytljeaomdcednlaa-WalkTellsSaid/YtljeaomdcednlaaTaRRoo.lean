/-
  The reference's Roots.
-/
import Derived.Test.YtljeaomdcednlaaTaRBel
namespace Go.Proofs.Ytljeaomdcednlaa
open Go.RowKit
attribute [local go_sem] run_store_float

set_option maxHeartbeats 1600000 in
set_option maxRecDepth 100000 in
theorem rroots_any (A : Option Addr) (c : Nat) (ns : List Nd) (root : Int) (w : World) (hA : Hid (NRead w A ns)) (ok : Hid (OkDag ns)) (hl : (ns.length : Int) ≤ 20000) :
    Calls Try.prog 15 #[.slice A ns.length c, .int .i64 root] w fun e w' => e = .returned (.int .i64 (rootsL ns (belowOf ns root) : Int)) ∧ Only [] w w' := by
  go_enter Try.func15, Try.ntmps15
  go_wp2_with fail
  refine (rbelow_any A c ns root w hA ok hl).mono ?_
  rintro e w1 ⟨u, rfl, hL, -, ho1⟩
  obtain ⟨L, hLe⟩ : ∃ L, L = belowOf ns root := ⟨_, rfl⟩
  have HLe := Lib.hid hLe
  have HIds : Hid (Ids ns L) := hLe ▸ belowL_ids ok.out (· ∈ [root])
  replace hL : IntsAt w1 u L := hLe ▸ hL
  clear hLe
  obtain ⟨Au, cu, rfl, hread⟩ := hL.shape
  have HO1 : Hid (Only [] w w1) := ho1
  have HR := Lib.hid hread
  have hlen : (L.length : Int) ≤ 20000 := by have := HIds.out.len; omega
  clear hL ho1 hread
  go_wp2_with fail
  go_loopw [5, 7] (fun c i wr => ∃ k : Nat, k ≤ L.length ∧ i = .int .i64 k ∧ c = .int .i64 (rootsL ns (L.take k) : Int) ∧ Only [] w1 wr) (fun _ i _ => L.length - (intOf i).toNat)
  case atStart => exact ⟨0, Nat.zero_le _, rfl, rfl, Only.refl _ _⟩
  case round =>
    obtain ⟨k, hk, rfl, rfl, ho⟩ := hrel
    have HO := Lib.hid ho
    clear ho
    by_cases hlt : k < L.length
    · obtain ⟨a, ha, han⟩ := HIds.out.mem k hlt
      obtain ⟨b, o, rfl, hcell⟩ := HR.out.only HO.out k hlt
      rw [ha] at hcell
      have HS := Lib.hid (rootsL_snoc ns L k hlt)
      have HHa := Lib.hid ha
      have hle : (rootsL ns (L.take k) : Int) ≤ 20000 := by have := rootsL_le ns (L.take k); have : (L.take k).length ≤ k := List.length_take_le _ _; omega
      obtain ⟨b', o', rfl, hc⟩ := hA.out.only (HO1.out.nil_trans HO.out) a han
      obtain ⟨n0, n1, n2, n3⟩ := hc
      have hnode : nodeAt ns (a : Int) = ns[a]?.getD nd0 := by unfold nodeAt; rw [Int.toNat_natCast]; rfl
      have HN := Lib.hid hnode
      generalize ns[a]?.getD nd0 = nd at n0 n1 n2 n3 HN
      obtain ⟨nk, nf, na, nb⟩ := nd
      simp only at n0
      clear ha n1 n2 n3 hnode
      have hk' : (k : Int) < (L.length : Int) := by omega
      by_cases h5 : nk = 5
      · have HE : Hid (rootsL ns (L.take (k + 1)) = rootsL ns (L.take k) + 1) := by
          show _ = _
          rw [HS.out, HHa.out, HN.out, if_pos h5]
        subst h5
        go_wp2_with fail
        go_roundw
        case rel => exact ⟨k + 1, by omega, by go_num, by rw [HE.out]; go_num, HO.out⟩
        case measure => simp [intOf] <;> omega
      · have HE : Hid (rootsL ns (L.take (k + 1)) = rootsL ns (L.take k)) := by
          show _ = _
          rw [HS.out, HHa.out, HN.out, if_neg h5]
          rfl
        have g5 : (nk == 5) = false := by simpa using h5
        clear h5
        go_wp2_with fail
        go_roundw
        case rel => exact ⟨k + 1, by omega, by go_num, by rw [HE.out], HO.out⟩
        case measure => simp [intOf] <;> omega
    · have hnl : ¬ (k : Int) < (L.length : Int) := by omega
      have e : k = L.length := by omega
      have HE : Hid (L.take k = L) := by
        show _ = _
        rw [e, List.take_length]
      clear e
      go_wp2_with fail
      go_returns
      exact ⟨by rw [← HLe.out, HE.out]; try rfl, HO1.out.nil_trans HO.out⟩
end Go.Proofs.Ytljeaomdcednlaa
