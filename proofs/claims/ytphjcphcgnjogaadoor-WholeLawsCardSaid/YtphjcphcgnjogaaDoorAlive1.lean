/-
  compasslaw1: alive, Light.
-/
import Derived.Test.YtphjcphcgnjogaaDoorNV
namespace Go.Proofs.YtphjcphcgnjogaaDoor
open Go.RowKit

theorem bb_two : limbsOf BB = [0, 1] := by
  have h1 : BB / BB = 1 := Nat.div_self BB_pos
  have h2 : 1 / BB = 0 := by rw [BB_val]
  have h3 : 1 % BB = 1 := by rw [BB_val]
  rw [limbsOf_pos (by have := BB_pos; omega), Nat.mod_self, h1, limbsOf_pos (by omega), h2, h3, limbsOf_zero]
theorem bits_bb : bitsN BB = 65 := by
  unfold bitsN
  rw [if_neg (by have := BB_pos; omega), BB_pow, Nat.log2_two_pow]
theorem root_is {a r : Nat} (h1 : r * r ≤ a) (h2 : a < (r + 1) * (r + 1)) : rootN a = r := by
  have h := rootN_is a
  apply Nat.le_antisymm
  · apply Nat.le_of_not_lt
    intro hc
    have := Nat.mul_le_mul hc hc
    simp only [Nat.succ_eq_add_one] at this
    have := h.1
    omega
  · apply Nat.le_of_not_lt
    intro hc
    have := Nat.mul_le_mul hc hc
    simp only [Nat.succ_eq_add_one] at this
    have := h.2
    omega
theorem dec_120 : Lib.decDigits 120 = [49, 50, 48] := by
  rw [dec_step (by omega), dec_step (by omega), dec_small (by omega)]
  rfl
theorem few_small {n : Nat} (h : n < BB) : Few n := Few.of_pow (k := 1) (by rw [Nat.pow_one]; exact h) (by omega)

/-- A slice of slices, of which the lengths are known. -/
structure Sl where
  a : Option Addr
  n : Nat
  c : Nat
def SlRead (w : World) (A : Option Addr) (L : List Sl) : Prop :=
  ∀ (k : Nat) (hk : k < L.length), ∃ b o, A = some ⟨b, o, none⟩ ∧ w.cell? ⟨b, o + k, none⟩ = some (.slice L[k].a L[k].n L[k].c)
def lightB (L : List Sl) : Bool := L.all fun x => decide (x.n ≤ 40)
set_option maxHeartbeats 800000 in
theorem light_any (A : Option Addr) (c : Nat) (L : List Sl) (w : World) (h : Hid (SlRead w A L)) (hl : (L.length : Int) ≤ 9223372036854775800) :
    Calls Tryd.prog 18 #[.slice A L.length c] w fun e w' => e = .returned (.bool (lightB L)) ∧ Only [] w w' := by
  go_enter Tryd.func18, Tryd.ntmps18
  go_wp2_with fail
  go_loopw [3] (fun i wr => ∃ k : Nat, k ≤ L.length ∧ i = .int .i64 (k : Int) ∧ lightB (L.take k) = true ∧ Only [] w wr) (fun i _ => L.length - (intOf i).toNat)
  case atStart => exact ⟨0, Nat.zero_le _, rfl, rfl, Only.refl _ _⟩
  case round =>
    obtain ⟨k, hk, rfl, hl, ho⟩ := hrel
    have HL := Lib.hid hl
    have HO := Lib.hid ho
    clear hl ho
    by_cases hlt : k < L.length
    · obtain ⟨b, o, rfl, h1⟩ := h.out k hlt
      have h2 := HO.out.cell h1 (by simp)
      have HK : Hid (lightB (L.take (k + 1)) = (lightB (L.take k) && decide (L[k].n ≤ 40))) := by
        show _ = _
        unfold lightB
        rw [List.take_succ_eq_append_getElem hlt, List.all_append]
        simp only [List.all_cons, List.all_nil, Bool.and_true]
      have HM : Hid (40 < L[k].n → lightB L = false) := fun hn => by
        unfold lightB
        rw [List.all_eq_false]
        exact ⟨L[k], List.getElem_mem hlt, by simp; exact hn⟩
      have hk' : (k : Int) < (L.length : Int) := by omega
      generalize L[k] = x at h2 HK HM
      obtain ⟨xa, xn, xc⟩ := x
      simp only at h2 HK HM
      clear h1 hlt
      by_cases hx : 40 < xn
      · have hxi : (40 : Int) < (xn : Int) := by omega
        have HF := Lib.hid (HM.out hx)
        clear hx
        go_wp2_with fail
        go_ret
        exact ⟨by rw [HF.out]; rfl, HO.out⟩
      · have hxi : ¬ (40 : Int) < (xn : Int) := by omega
        have HT : Hid (lightB (L.take (k + 1)) = true) := by
          show _ = _
          rw [HK.out, HL.out, decide_eq_true (by omega)]
          rfl
        clear hx
        go_wp2_with fail
        go_roundw
        case rel => exact ⟨k + 1, by omega, by go_num, HT.out, HO.out⟩
        case measure => simp [intOf]; omega
    · have hnl : ¬ (k : Int) < (L.length : Int) := by omega
      have HF : Hid (lightB L = true) := by
        have h1 := HL.out
        rw [List.take_of_length_le (by omega)] at h1
        exact h1
      clear hlt
      go_wp2_with fail
      go_ret
      exact ⟨by rw [HF.out]; rfl, HO.out⟩
/-- Light of slices that have just been laid. -/
theorem light_v {w : World} (L : List Sl) (k : Nat) (hk : Hid (L.length = k)) (hl : (k : Int) ≤ 1000) :
    Calls Tryd.prog 18 #[.slice (some ⟨w.heap.size, 0, none⟩) k k] (w.alloc (Obj.cells (L.map fun x => Value.slice x.a x.n x.c).toArray 24)) fun e w' => e = .returned (.bool (lightB L)) ∧ Only [] w w' := by
  have hb : Blk (w.alloc (Obj.cells (L.map fun x => Value.slice x.a x.n x.c).toArray 24)) w.heap.size 24 (L.map fun x => Value.slice x.a x.n x.c) := Blk.new w _ _
  have h := light_any (some ⟨w.heap.size, 0, none⟩) k L _ (Lib.hid (fun j hj => ⟨_, 0, rfl, by rw [hb.cell, Nat.zero_add]; simp [hj]⟩)) (by have := hk.out; omega)
  rw [hk.out] at h
  exact h.mono fun e w' ⟨h1, h2⟩ => ⟨h1, ((Only.refl [] w).alloc _).nil_trans h2⟩
end Go.Proofs.YtphjcphcgnjogaaDoor
