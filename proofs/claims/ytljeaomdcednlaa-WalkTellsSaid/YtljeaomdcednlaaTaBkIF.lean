/-
  The Book: put: the walk.
-/
import Derived.Test.YtljeaomdcednlaaTaBkIE
namespace Go.Proofs.Ytljeaomdcednlaa
open Go.RowKit

/-- The lists in the midst of put: those before the k-th are marked, the k-th is up to j. -/
def putF (Ls : List (List Int)) (k j i : Nat) : List Int :=
  if i < k then marks i 0 (Ls[i]?.getD []).length else if i = k then marks k 0 j ++ (Ls[k]?.getD []).drop j else Ls[i]?.getD []
theorem putF_len (Ls : List (List Int)) {k j : Nat} (h : j ≤ (Ls[k]?.getD []).length) : (putF Ls k j k).length = (Ls[k]?.getD []).length := by
  unfold putF
  rw [if_neg (by omega), if_pos rfl, List.length_append, marks_length, List.length_drop]
  omega
theorem putF_next (Ls : List (List Int)) (k i : Nat) : putF Ls (k + 1) 0 i = putF Ls k (Ls[k]?.getD []).length i := by
  unfold putF
  by_cases h : i < k
  · rw [if_pos (by omega), if_pos h]
  · rw [if_neg h]
    by_cases e : i = k
    · subst e
      rw [if_pos (by omega), if_pos rfl, List.drop_length, List.append_nil]
    · rw [if_neg (by omega), if_neg e]
      by_cases e' : i = k + 1
      · subst e'
        simp [marks]
      · rw [if_neg e']
theorem putF_set (Ls : List (List Int)) {k j : Nat} (h : j < (Ls[k]?.getD []).length) (i : Nat) : putF Ls k (j + 1) i = if i = k then (putF Ls k j k).set j (markE k j) else putF Ls k j i := by
  by_cases e : i = k
  · subst e
    rw [if_pos rfl]
    unfold putF
    rw [if_neg (by omega), if_pos rfl, if_neg (by omega), if_pos rfl, marks_snoc, List.append_assoc, List.set_append_right _ _ (by rw [marks_length]; omega), marks_length]
    congr 1
    rw [show j - j = 0 by omega, List.drop_eq_getElem_cons h, List.set_cons_zero, Nat.zero_add]
    rfl
  · rw [if_neg e]
    unfold putF
    by_cases h1 : i < k
    · rw [if_pos h1, if_pos h1]
    · rw [if_neg h1, if_neg h1, if_neg e, if_neg e]

theorem frozen_row {w : World} {base n size g : Nat} {e : TypeId} {v : Value} {xs : List Value} (h : w.ownsRow base e size v n xs) (hg : v.ownBlock = some g) (i : Nat) : w.frozen? ⟨g, i, none⟩ = false := by
  rcases h.2 with ⟨rfl, _⟩ | ⟨g', cap, cur, rfl, _, h1, _⟩
  · simp [Value.ownBlock] at hg
  · have e : g' = g := by simpa [Value.ownBlock] using hg
    subst e
    simp [World.frozen?, h1]

set_option maxHeartbeats 3200000 in
set_option maxRecDepth 100000 in
theorem bput_any (b : Nat) (A : Option Addr) (c : Nat) (us : List Value) (Ls : List (List Int)) (w : World) (hc4 : w.cell? ⟨b, 0, none⟩ = some (.slice A us.length c)) (hb : Hid (b ∉ obs us))
    (hA : Hid (∀ k, k < us.length → ∃ g, A = some ⟨g, 0, none⟩ ∧ g ∉ obs us ∧ w.cell? ⟨g, k, none⟩ = some (us[k]?.getD nilS))) (hl : Hid (Lists w us Ls)) (hnd : Hid (obs us).Nodup) (hn : (us.length : Int) ≤ 250) (hm : Hid (∀ k, k < us.length → (Ls[k]?.getD []).length ≤ 1000)) :
    Calls Try.prog 30 #[.pointer (some ⟨b, 0, none⟩)] w fun e w' => e = .returned (.tuple #[]) ∧ PutAt w w' us (fun i => marks i 0 (Ls[i]?.getD []).length) := by
  go_enter Try.func30, Try.ntmps30
  go_wp2_with fail
  go_loopw [2] (fun i wr => ∃ k : Nat, k ≤ us.length ∧ i = .int .i64 (k : Int) ∧ PutAt w wr us (putF Ls k 0)) (fun i _ => us.length - (intOf i).toNat)
  case atStart => exact ⟨0, Nat.zero_le _, rfl, Only.refl _ _, fun i hi => by
    have h := hl.out.at_ i hi
    unfold putF
    by_cases e : i = 0
    · subst e
      simpa [marks] using h
    · rw [if_neg (by omega), if_neg e]
      exact h⟩
  case round =>
    obtain ⟨k, hk, rfl, hP⟩ := hrel
    have HP := Lib.hid hP
    clear hP
    have c4 := HP.out.only.cell hc4 hb.out
    by_cases hlt : k < us.length
    · obtain ⟨g, rfl, hg, hcell⟩ := hA.out k hlt
      have ck := HP.out.only.cell hcell hg
      have hkk := HP.out.at_ k hlt
      obtain ⟨B, cB, hu, -⟩ := e_shape hkk
      have hmk := Lib.hid (hm.out k hlt)
      have hlen : Hid ((putF Ls k 0 k).length = (Ls[k]?.getD []).length) := putF_len Ls (Nat.zero_le _)
      rw [hlen.out] at hu
      have HU := Lib.hid hu
      rw [hu] at ck
      clear hu hkk hcell hlen
      generalize hlk : (Ls[k]?.getD []).length = m at *
      have HLk := Lib.hid hlk
      clear hlk
      have hk' : (k : Int) < (us.length : Int) := by omega
      go_wp2_with fail
      refine (mark_any k 0 m _ (by omega) (by omega) (by have := hmk.out; omega)).mono ?_
      rintro e w2 ⟨x, rfl, hx, hxg, ho2⟩
      obtain ⟨X, cX, rfl, -⟩ := e_shape hx
      have HXG : Hid (∀ g, (Value.slice X (marks k 0 m).length cX).ownBlock = some g → g ∉ obs us) := fun g hg hm => by
        have h1 := hxg g hg
        have h2 := hl.out.lt g hm
        have h3 := HP.out.only.size
        omega
      rw [marks_length] at hx HXG ⊢
      have hxr := Lib.hid hx
      clear hxg
      have HP2 := Lib.hid (HP.out.nil ho2)
      clear ho2 hx HP c4 ck
      go_wp2_with fail
      go_loopw [4] (fun i wq => ∃ j : Nat, j ≤ m ∧ i = .int .i64 (j : Int) ∧ PutAt w wq us (putF Ls k j) ∧ IntsAt wq (.slice X m cX) (marks k 0 m)) (fun i _ => m - (intOf i).toNat)
      case atStart => exact ⟨0, Nat.zero_le _, rfl, HP2.out, hxr.out⟩
      case round =>
        obtain ⟨j, hj, rfl, hQ, hX⟩ := hrel
        have HQ := Lib.hid hQ
        have HX := Lib.hid hX
        clear hQ hX
        by_cases hjl : j < m
        · have c4 := HQ.out.only.cell hc4 hb.out
          obtain ⟨g', e', _, hcell⟩ := hA.out k hlt
          injection e' with e'
          injection e' with e'
          subst e'
          have ck := HQ.out.only.cell hcell hg
          rw [HU.out] at ck
          have hkk := HQ.out.at_ k hlt
          rw [HU.out] at hkk
          have hlen := putF_len Ls (k := k) (j := j) (by rw [HLk.out]; exact hj)
          rw [HLk.out] at hlen
          obtain ⟨B', c', e', -, -, hcs⟩ := e_shape hkk
          injection e' with e1 e0 e2
          clear e0
          subst e1 e2
          obtain ⟨gB, rfl, x0⟩ := hcs j (by rw [hlen]; exact hjl)
          have f0 := frozen_row hkk rfl j
          obtain ⟨X', c', e', -, -, hcx⟩ := e_shape HX.out
          injection e' with e1 e0 e2
          clear e0
          subst e1 e2
          obtain ⟨gX, rfl, m0⟩ := hcx j (by rw [marks_length]; exact hjl)
          have hmj : (marks k 0 m)[j]?.getD 0 = markE k j := by simp [marks, hjl]
          rw [hmj] at m0
          have hset := Lib.hid (fun (x : Int) (hx : markE k j = x) => (HQ.out.nil (Only.refl [] wr).drew).set (x := x) (j := j) hnd.out hlt HU.out hlen.symm (F' := putF Ls k (j + 1)) (fun i => by rw [← hx]; exact putF_set Ls (by rw [HLk.out]; exact hjl) i))
          generalize hxx : markE k j = x at m0 hset
          have HS := Lib.hid (hset.out x rfl)
          clear hcs hcx hkk hset hxx hcell hmj hlen
          generalize (putF Ls k j k)[j]?.getD 0 = y at x0
          have hjk' : (j : Int) < (m : Int) := by omega
          have hj1 : (j : Int) ≤ 1000 := by have := hmk.out; omega
          go_wp2_with fail
          go_region
          go_wp2_with fail
          go_roundw
          case rel =>
            refine ⟨j + 1, by omega, by go_num, HS.out, e_only HX.out (S := [gB]) ((Only.refl [gB] wr).drew.setCell (.inl (by simp)) _) ?_⟩
            intro g' hg' hmem
            have e : g' = gB := by simpa using hmem
            subst e
            exact HXG.out _ hg' (mem_obs.2 ⟨k, hlt, by rw [HU.out]; rfl⟩)
          case measure => simp [intOf]; omega
        · have hnl : ¬ (j : Int) < (m : Int) := by omega
          obtain rfl : j = m := by omega
          go_wp2_with fail
          go_roundw
          case rel => exact ⟨k + 1, by omega, by go_num, HQ.out.only, fun i hi => by rw [putF_next, HLk.out]; exact HQ.out.at_ i hi⟩
          case measure => simp [intOf]; omega
    · have hnl : ¬ (k : Int) < (us.length : Int) := by omega
      go_wp2_with fail
      go_returns
      exact ⟨rfl, HP.out.only, fun i hi => by
        have h := HP.out.at_ i hi
        unfold putF at h
        rwa [if_pos (by omega)] at h⟩
end Go.Proofs.Ytljeaomdcednlaa
