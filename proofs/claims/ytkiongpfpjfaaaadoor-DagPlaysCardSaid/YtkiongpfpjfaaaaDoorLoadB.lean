/-
  compassref14.Check: the kind and the place of what is not right.
-/
import Derived.Test.YtkiongpfpjfaaaaDoorLoadA
namespace Go.Proofs.YtkiongpfpjfaaaaDoor
open Go.RowKit
attribute [local go_sem] run_store_float

theorem ok_split (L : List Nd) (k : Nat) (nk : Int) (nf : Nat) (na nb : Int) (hn : L[k]?.getD nd0 = ⟨nk, nf, na, nb⟩) :
    (okB L k = false ∧ ∀ j, k = j → Bad j nk nf na nb) ∨ (okB L k = true ∧ ∀ j, k = j → Fine j nk nf na nb) := by
  have h : okB L k = takesB k nk nf na nb := by unfold okB; rw [hn]
  rw [h]
  cases ht : takesB k nk nf na nb
  · exact .inl ⟨rfl, fun j e => bad_of _ _ _ _ _ (e ▸ ht)⟩
  · exact .inr ⟨rfl, fun j e => fine_of _ _ _ _ _ (e ▸ ht)⟩

def RkPost (L : List Nd) (w : World) (e : Ending) (w' : World) : Prop :=
  ((AllOk L ∧ e = .returned (.tuple #[.int .i64 0, .int .i64 0])) ∨ ∃ i : Nat, FirstBad L i ∧ e = .returned (.tuple #[.int .i64 1, .int .i64 (i : Int)])) ∧ Only [] w w'

set_option maxHeartbeats 1600000 in
set_option maxRecDepth 100000 in
theorem rcheck_any (A : Option Addr) (c : Nat) (L : List Nd) (w : World) (hA : Hid (NRead w A L)) (hl : (L.length : Int) ≤ 120) :
    Calls Tryd.prog 23 #[.slice A L.length c] w (RkPost L w) := by
  go_enter Tryd.func23, Tryd.ntmps23
  go_wp2_with fail
  go_loopw [4] (fun i wr => ∃ k : Nat, k ≤ L.length ∧ i = .int .i64 (k : Int) ∧ Only [] w wr ∧ (∀ j, j < k → okB L j = true)) (fun i _ => L.length - (intOf i).toNat)
  case atStart => exact ⟨0, Nat.zero_le _, rfl, Only.refl _ _, fun j hj => by omega⟩
  case round =>
    obtain ⟨k, hk, rfl, ho, hall⟩ := hrel
    have Ho := Lib.hid ho
    have Hall := Lib.hid hall
    clear ho hall
    by_cases hlt : k < L.length
    · obtain ⟨b, o, rfl, h1⟩ := hA.out k hlt
      obtain ⟨p0, p1, p2, p3⟩ := h1.only Ho.out (by simp)
      have hsp := ok_split L k (L[k]?.getD nd0).k (L[k]?.getD nd0).f (L[k]?.getD nd0).a (L[k]?.getD nd0).b rfl
      clear h1
      generalize L[k]?.getD nd0 = n at p0 p1 p2 p3 hsp
      obtain ⟨nk, nf, na, nb⟩ := n
      have hk' : (k : Int) < (L.length : Int) := by omega
      go_wp2_with fail
      refine (rvalid_any nk nf na nb _).mono ?_
      rintro e w1 ⟨rfl, ho1⟩
      have hB := (Blk.new wr 43 [.int .i64 nk, .float .f64 nf, .int .i64 na, .int .i64 nb])
      obtain ⟨q0, q1, q2, q3⟩ := box_cells hB ho1 (by simp)
      have Ho1 := Lib.hid ((Ho.out.alloc (.cells #[.int .i64 nk, .float .f64 nf, .int .i64 na, .int .i64 nb] 43)).nil_trans ho1)
      clear ho1 hB p0 p1 p2 p3
      have split : (okB L k = false ∧ ((validB nk nf na nb = false ∧ (nk == 0) = true ∧ True) ∨ (validB nk nf na nb = false ∧ (nk == 0) = false ∧ True) ∨ (validB nk nf na nb = true ∧ (nk == 0) = true ∧ finB nf = false) ∨ (validB nk nf na nb = true ∧ (nk == 0) = false ∧ decide ((k : Int) ≤ na) = true) ∨
          (validB nk nf na nb = true ∧ (nk == 0) = false ∧ decide ((k : Int) ≤ na) = false ∧ (nk != 5) = true ∧ decide ((k : Int) ≤ nb) = true))) ∨
        (okB L k = true ∧ ((validB nk nf na nb = true ∧ (nk == 0) = true ∧ finB nf = true) ∨ (validB nk nf na nb = true ∧ (nk == 0) = false ∧ decide ((k : Int) ≤ na) = false ∧ (nk != 5) = false) ∨
          (validB nk nf na nb = true ∧ (nk == 0) = false ∧ decide ((k : Int) ≤ na) = false ∧ (nk != 5) = true ∧ decide ((k : Int) ≤ nb) = false))) := by
        rcases hsp with ⟨h, hb⟩ | ⟨h, hb⟩
        · left
          refine ⟨h, ?_⟩
          rcases hb k rfl with hv | ⟨hv, hk, hf⟩ | ⟨hv, hk, ha⟩ | ⟨hv, hk, hk5, ha, hb⟩
          · cases hz : (nk == 0) <;> simp [hv]
          · exact .inr (.inr (.inl ⟨hv, by simpa using hk, hf⟩))
          · exact .inr (.inr (.inr (.inl ⟨hv, by simpa using hk, by simpa using ha⟩)))
          · exact .inr (.inr (.inr (.inr ⟨hv, by simpa using hk, by simpa using ha, by simpa using hk5, by simpa using hb⟩)))
        · right
          refine ⟨h, ?_⟩
          rcases hb k rfl with ⟨hv, hk, hf⟩ | ⟨hv, hk, ha⟩ | ⟨hv, hk, hk5, ha, hb⟩
          · exact .inl ⟨hv, by simpa using hk, hf⟩
          · exact .inr (.inl ⟨hv, by simp; omega, by simpa using ha, by simpa using hk⟩)
          · exact .inr (.inr ⟨hv, by simpa using hk, by simpa using ha, by simpa using hk5, by simpa using hb⟩)
      clear hsp
      rcases split with ⟨hok, h⟩ | ⟨hok, h⟩
      all_goals have Hok := Lib.hid hok
      all_goals clear hok
      · rcases h with ⟨hv, g0, _⟩ | ⟨hv, g0, _⟩ | ⟨hv, g0, g1⟩ | ⟨hv, g0, g1⟩ | ⟨hv, g0, g1, g2, g3⟩
        all_goals go_wp2_with (go_at_call 31; (with_reducible refine (rfinite_any _ _).mono ?_); rintro e w' ⟨rfl, rfl⟩)
        all_goals go_returns
        all_goals exact ⟨.inr ⟨k, ⟨hlt, Hall.out, Hok.out⟩, rfl⟩, Ho1.out⟩
      · rcases h with ⟨hv, g0, g1⟩ | ⟨hv, g0, g1, g2⟩ | ⟨hv, g0, g1, g2, g3⟩
        all_goals go_wp2_with (go_at_call 31; (with_reducible refine (rfinite_any _ _).mono ?_); rintro e w' ⟨rfl, rfl⟩)
        all_goals go_roundw
        case rel =>
          refine ⟨k + 1, by omega, by go_num, Ho1.out, fun j hj => ?_⟩
          by_cases e : j = k
          · rw [e]; exact Hok.out
          · exact Hall.out j (by omega)
        case measure => simp [intOf]; omega
        case rel =>
          refine ⟨k + 1, by omega, by go_num, Ho1.out, fun j hj => ?_⟩
          by_cases e : j = k
          · rw [e]; exact Hok.out
          · exact Hall.out j (by omega)
        case measure => simp [intOf]; omega
        case rel =>
          refine ⟨k + 1, by omega, by go_num, Ho1.out, fun j hj => ?_⟩
          by_cases e : j = k
          · rw [e]; exact Hok.out
          · exact Hall.out j (by omega)
        case measure => simp [intOf]; omega
    · have hnl : ¬ (k : Int) < (L.length : Int) := by omega
      go_wp2_with fail
      go_returns
      exact ⟨.inl ⟨fun j hj => Hall.out j (by omega), rfl⟩, Ho.out⟩
end Go.Proofs.YtkiongpfpjfaaaaDoor
