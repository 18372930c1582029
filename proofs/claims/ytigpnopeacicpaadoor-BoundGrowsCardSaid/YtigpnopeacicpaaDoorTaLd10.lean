/-
  compasslaw10.Load: a dag of nodes that are right, each its own.
-/
import Derived.Test.YtigpnopeacicpaaDoorTaGLd
import Derived.Test.YtigpnopeacicpaaDoorTaWalkT
namespace Go.Proofs.YtigpnopeacicpaaDoor
open Go.RowKit
attribute [local go_sem] run_store_float

def idsN (n : Nat) : List Int := (List.range n).map fun (i : Nat) => (i : Int)
theorem idsN_succ (n : Nat) : idsN (n + 1) = idsN n ++ [(n : Int)] := by simp [idsN, List.range_succ]
theorem idsN_get (n i : Nat) (h : i < n) : (idsN n)[i]?.getD 0 = (i : Int) := by simp [idsN, h]
theorem reNd_ids {k : Nat} {n : Nd} (hn : takesB k n.k n.f n.a n.b = true) : reNd (idsN k) n = n := by
  obtain ⟨nk, nf, na, nb⟩ := n
  simp only at hn
  have hfine := fine_of _ _ _ _ _ hn
  unfold Fine at hfine
  have e : ∀ x : Int, 0 ≤ x → x < (k : Int) → (idsN k)[x.toNat]?.getD 0 = x := fun x h0 h1 => by
    rw [idsN_get _ _ (by omega)]
    omega
  rcases hfine with ⟨hv, h0, hf⟩ | ⟨hv, h5, ha⟩ | ⟨hv, h0, h5, ha, hb⟩
  · simp [reNd, h0]
  · simp only [validB, decide_eq_true_eq] at hv
    simp only [reNd, h5]
    rw [e na (by omega) (by omega)]
    simp
  · simp only [validB, decide_eq_true_eq] at hv
    simp only [reNd]
    rw [if_neg h0, if_neg (by omega), e na (by omega) (by omega), e nb (by omega) (by omega)]
theorem ld_none {L : List Nd} (hok : AllOk L) : ∀ k, k ≤ L.length → ld none (L.take k) = (L.take k, idsN k)
  | 0, _ => by simp [ld, idsN]
  | k + 1, h => by
    have ho : takesB k (L[k]?.getD nd0).k (L[k]?.getD nd0).f (L[k]?.getD nd0).a (L[k]?.getD nd0).b = true := hok k (by omega)
    rw [ld_take none L (by omega), ld_none hok k (by omega), ldStep, reNd_ids ho]
    have hl : (L.take k).length = k := by rw [List.length_take]; omega
    have e : L.take (k + 1) = L.take k ++ [L[k]?.getD nd0] := by
      rw [List.take_succ_eq_append_getElem (by omega), List.getElem?_eq_getElem (by omega)]
      rfl
    simp only [putNs, putId, hl, ho, if_true, ne_eq, not_true_eq_false, false_and, if_false]
    rw [e, idsN_succ]
theorem ok_dag {L : List Nd} (hok : AllOk L) : OkDag L := by
  intro x h0 h1 c hc
  have h := hok x.toNat (by omega)
  unfold okB at h
  have hfine := fine_of _ _ _ _ _ h
  have hn : nodeAt L x = L[x.toNat]?.getD nd0 := rfl
  rw [hn] at hc
  generalize L[x.toNat]?.getD nd0 = n at hfine hc
  unfold Fine at hfine
  unfold kids at hc
  rcases hfine with ⟨hv, h0', hf⟩ | ⟨hv, h5, ha⟩ | ⟨hv, h0', h5, ha, hb⟩
  · rw [if_pos h0'] at hc
    simp at hc
  · simp only [validB, decide_eq_true_eq] at hv
    rw [if_neg (by omega), if_pos h5] at hc
    have : c = n.a := by simpa using hc
    omega
  · simp only [validB, decide_eq_true_eq] at hv
    rw [if_neg h0', if_neg h5] at hc
    have : c = n.a ∨ c = n.b := by simpa using hc
    omega

def L10 (L : List Nd) (w : World) (e : Ending) (w' : World) : Prop := ∃ d v, e = .returned (.pointer (some ⟨d, 0, none⟩)) ∧ Own w w' d v none L

set_option maxHeartbeats 1600000 in
theorem load10_any (A : Option Addr) (c : Nat) (L : List Nd) (w : World) (hA : Hid (NRead w A L)) (hf : Hid (∀ k, k < L.length → (L[k]?.getD nd0).f < 2 ^ 64)) (hl : (L.length : Int) ≤ 1000) (hok : Hid (AllOk L)) :
    Calls Tryd.prog 8 #[.slice A L.length c] w (L10 L w) := by
  go_enter Tryd.func8, Tryd.ntmps8
  go_wp2_with fail
  refine (load_good false A c L w hA hf hl hok).mono ?_
  rintro e w1 ⟨d, r, v, u, rfl, hr, hrel⟩
  obtain rfl : r = none := hr.2 rfl
  have e1 : ld none L = (L, idsN L.length) := by
    have := ld_none hok.out L.length (Nat.le_refl _)
    rwa [List.take_length] at this
  rw [e1] at hrel
  have HOwn := Lib.hid hrel.own
  have hids := hrel.ids
  simp only at hids
  obtain ⟨Au, cu, rfl, hread⟩ := hids.shape
  have hlen : (idsN L.length).length = L.length := by simp [idsN]
  have HR := Lib.hid hread
  clear hrel hread hids hr
  rw [hlen]
  have HLen := Lib.hid hlen
  clear hlen e1
  go_wp2_with fail
  go_loopw [6] (fun i wr => ∃ k : Nat, k ≤ L.length ∧ i = .int .i64 (k : Int) ∧ Only [] w1 wr) (fun i _ => L.length - (intOf i).toNat)
  case atStart => exact ⟨0, Nat.zero_le _, rfl, Only.refl _ _⟩
  case round =>
    obtain ⟨k, hk, rfl, ho⟩ := hrel
    have Ho := Lib.hid ho
    clear ho
    by_cases hlt : k < L.length
    · obtain ⟨b, o, rfl, h1⟩ := HR.out k (by rw [HLen.out]; exact hlt)
      rw [idsN_get _ _ hlt] at h1
      have p0 := Ho.out.cell h1 (by simp)
      clear h1
      have hk' : (k : Int) < (L.length : Int) := by omega
      go_wp2_with fail
      go_roundw
      case rel => exact ⟨k + 1, by omega, by go_num, Ho.out⟩
      case measure => simp [intOf]; omega
    · have hnl : ¬ (k : Int) < (L.length : Int) := by omega
      go_wp2_with fail
      go_ret
      exact ⟨d, v, rfl, HOwn.out.other Ho.out (by simp) (by simp)⟩

end Go.Proofs.YtigpnopeacicpaaDoor
