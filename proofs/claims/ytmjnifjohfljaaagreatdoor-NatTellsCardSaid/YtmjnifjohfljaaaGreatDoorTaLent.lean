/-
  Lists that are lent with room behind them: compassbook's LentLimbs and StaysLimbs.
-/
import Derived.Test.YtmjnifjohfljaaaGreatDoorTaGRefS
namespace Go.Proofs.YtmjnifjohfljaaaGreatDoor
open Go.RowKit

/-- A row with a mark behind it. -/
def Lent (w : World) (g : Nat) (xs : List Nat) (c : Nat) : Prop := ∃ tl, Blk w g 102 (limbV (xs ++ [77]) ++ tl) ∧ xs.length + 1 + tl.length = c ∧ c ≤ maxLen
theorem Lent.only {w w' : World} {g c : Nat} {xs : List Nat} {S : List Nat} (h : Lent w g xs c) (ho : Only S w w') (hg : g ∉ S) : Lent w' g xs c := by
  obtain ⟨tl, h1, h2, h3⟩ := h
  exact ⟨tl, h1.only ho hg, h2, h3⟩
theorem Lent.read {w : World} {g c : Nat} {xs : List Nat} (h : Lent w g xs c) : LRead w (some ⟨g, 0, none⟩) xs := by
  obtain ⟨tl, h1, h2, h3⟩ := h
  have h4 := LRead.of_tl h1
  have h5 := h4.take xs.length
  rwa [List.take_append_of_le_length (Nat.le_refl _), List.take_length] at h5
theorem Lent.mark {w : World} {g c : Nat} {xs : List Nat} (h : Lent w g xs c) : w.cell? ⟨g, xs.length, none⟩ = some (.int .u64 77) := by
  obtain ⟨tl, h1, h2, h3⟩ := h
  rw [h1.cell, List.getElem?_append_left (by rw [limbV_len]; simp), limbV_get _ _ (by simp)]
  simp
theorem Lent.nv {w : World} {g c : Nat} {xs : List Nat} (h : Lent w g xs c) (hx : Limb xs) (hl : (xs.length : Int) ≤ 1000000) : NV w (.slice (some ⟨g, 0, none⟩) xs.length c) (val xs) := by
  have h5 := h.read
  obtain ⟨tl, h1, h2, h3⟩ := h
  exact NV.mk ⟨h5, hx, by omega⟩ (by omega) hl

set_option maxRecDepth 100000 in
theorem slice_headL (A : Option Addr) (n c m : Nat) (h : m ≤ c) (w : World) : (Instr.slice 22 (.slice A n c) none (some (.int .i64 (m : Int))) none).run Tryz.prog w = .ok (.slice A m c) w := by
  have hs : (sizeOf (Tryz.prog.elem 22)).run Tryz.prog w = .ok 1 w := by kernel_rfl
  rw [run_slice_h (P := Tryz.prog) (w := w) 22 A n c (by kernel_rfl) .i64 (m : Int) (by omega) (by omega), hs]
  simp only [Result.andThen, sliced, Int.toNat_natCast]
  cases A <;> simp [Addr.add]
theorem lent_of {w : World} {g n c : Nat} {xs : List Nat} (h : LimbsAt w (.slice (some ⟨g, 0, none⟩) (n + 1) c) (xs ++ [77])) : Lent w g xs c := by
  obtain ⟨tl, k1, k2, k3, k4⟩ := h.row
  exact ⟨tl, k1, by rw [List.length_append] at k2; simpa using k2, k3⟩
theorem Lent.cap {w : World} {g c n : Nat} {xs : List Nat} (h : Lent w g xs c) (hn : n = xs.length) : n + 1 ≤ c := by
  obtain ⟨tl, k1, k2, k3⟩ := h
  omega
set_option maxRecDepth 100000 in
theorem copyLimbs_any (A : Option Addr) (n c : Nat) (xs : List Nat) (w : World) (hA : Hid (LRead w A xs)) (hn : Hid (n = xs.length)) (hl : (n : Int) ≤ 15000000) :
    Calls Tryz.prog 72 #[.slice A n c] w fun e w' => ∃ A' c', e = .returned (.slice A' n c') ∧ LimbsAt w' (.slice A' n c') xs ∧ (∀ g, (Value.slice A' n c').ownBlock = some g → w.heap.size ≤ g) ∧ Only [] w w' := by
  go_enter Tryz.func72, Tryz.ntmps72
  go_wp2_with (at_builtin; refine wpList_append_copy 22 Tryz.underlying22 rfl _ _ rfl rfl A xs n c rfl hn.out hA.out (by omega) ?_; intro A' c' w2 h1 h2 h3; have HA2 := Lib.hid h1; have HF2 := Lib.hid h2; have HO2 := Lib.hid h3; clear h1 h2 h3)
  go_wp2_with fail
  go_ret
  exact ⟨_, _, rfl, HA2.out, HF2.out, HO2.out⟩

set_option maxRecDepth 100000 in
theorem lent_any (A : Option Addr) (n c : Nat) (xs : List Nat) (w : World) (hA : Hid (LRead w A xs)) (hn : Hid (n = xs.length)) (hl : (n : Int) ≤ 1000000) :
    Calls Tryz.prog 10 #[.slice A n c] w fun e w' => ∃ g c', e = .returned (.slice (some ⟨g, 0, none⟩) n c') ∧ Lent w' g xs c' ∧ w.heap.size ≤ g ∧ Only [] w w' := by
  go_enter Tryz.func10, Tryz.ntmps10
  go_wp2_with fail
  refine (copyLimbs_any A n c xs w hA hn (by omega)).mono ?_
  rintro e w1 ⟨A1, c1, rfl, h1, h2, h3⟩
  have HA1 := Lib.hid h1
  have HF1 := Lib.hid h2
  have HO1 := Lib.hid h3
  have HN : Hid (∀ g, (Value.slice A1 n c1).ownBlock = some g → g < w1.heap.size) := h1.lt
  clear h1 h2 h3
  go_wp2_with (at_builtin; refine append_limbs 22 Tryz.underlying22 rfl _ _ rfl (.slice A1 n c1) n xs [77] rfl (HA1.out.only ((Only.refl [] w1).alloc _) (by simp)) hn.out w1.heap.size 1 rfl rfl (by simp) (Blk.new w1 102 (limbV [77])) (by omega) ?_; intro g' c2 w4 h1 h2 h3; have HA4 := Lib.hid h1; have HF4 := Lib.hid h2; have HO4 := Lib.hid h3; have hsl := slice_headL (some ⟨g', 0, none⟩) (n + 1) c2 n (by have := (lent_of h1).cap hn.out; omega) w4; clear h1 h2 h3)
  have HL : Hid (Lent w4 g' xs c2) := lent_of HA4.out
  go_wp2_with fail
  go_ret
  refine ⟨_, _, rfl, HL.out, ?_, ?_⟩
  · rcases HF4.out with h | h
    · exact HF1.out _ h
    · have := HO1.out.size
      simp only [World.size_alloc] at h
      omega
  · have hx : Only (Value.slice A1 n c1).ownBlock.toList w1 w4 := ((Only.refl _ w1).alloc _).trans HO4.out (fun k hk => .inl hk)
    exact HO1.out.trans hx (fun k hk => .inr (by
      rw [Option.mem_toList] at hk
      exact HF1.out k hk))

set_option maxRecDepth 100000 in
theorem stays_any (g n c c' : Nat) (B : Option Addr) (xs : List Nat) (w : World) (hL : Hid (Lent w g xs c)) (hB : Hid (LRead w B xs)) (hn : Hid (n = xs.length)) (hl : (n : Int) ≤ 1000000) :
    Calls Tryz.prog 24 #[.slice (some ⟨g, 0, none⟩) n c, .slice B n c'] w fun e w' => e = .returned (.bool true) ∧ Only [] w w' := by
  have hm := hL.out.mark
  rw [← hn.out] at hm
  have hsl := fun wx => slice_headL (some ⟨g, 0, none⟩) n c (n + 1) (hL.out.cap hn.out) wx
  rw [show ((n + 1 : Nat) : Int) = (n : Int) + 1 by omega] at hsl
  go_enter Tryz.func24, Tryz.ntmps24
  go_wp2_with fail
  refine (samelimbs_any (some ⟨g, 0, none⟩) B c c' n n xs xs w (Lib.hid hL.out.read) hB hn hn (by omega)).mono ?_
  rintro e w1 ⟨rfl, ho⟩
  rw [decide_eq_true (rfl : xs = xs)]
  have hm1 := ho.cell hm (by simp)
  have HO := Lib.hid ho
  clear ho hm
  go_wp2_with fail
  go_ret
  exact ⟨rfl, HO.out⟩
end Go.Proofs.YtmjnifjohfljaaaGreatDoor
