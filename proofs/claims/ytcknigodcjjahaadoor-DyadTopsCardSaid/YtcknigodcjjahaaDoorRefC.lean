/-
  The reference's numbers: Add, Small, Cmp, Sub.
-/
import Derived.Test.YtcknigodcjjahaaDoorRefB
namespace Go.Proofs.YtcknigodcjjahaaDoor
open Go.RowKit

theorem R.val_take_next (xs : List Nat) (k : Nat) : R.val (xs.take (k + 1)) = R.val (xs.take k) + R.BB ^ k * (xs[k]?.getD 0) := by
  by_cases h : k < xs.length
  · exact R.val_take_succ xs k h
  · rw [List.take_of_length_le (by omega), List.take_of_length_le (by omega), List.getElem?_eq_none (by omega)]
    simp
/-- A sum of the reference's under way. -/
structure SumCar (w wr : World) (A' : Option Addr) (c' : Nat) (xs ys os : List Nat) (k cy : Nat) : Prop where
  at_ : LimbsAt wr (.slice A' k c') os
  len : os.length = k
  limb : R.Limb os
  cyl : cy ≤ 1
  val_ : R.val os + R.BB ^ k * cy = R.val (xs.take k) + R.val (ys.take k)
  fresh : ∀ g, (Value.slice A' k c').ownBlock = some g → w.heap.size ≤ g
  only : Only [] w wr
theorem SumCar.step {w wr : World} {A' : Option Addr} {c' : Nat} {xs ys os : List Nat} {k cy s : Nat} (h : SumCar w wr A' c' xs ys os k cy) (hx : R.Limb xs) (hy : R.Limb ys) (hs : s = cy + xs[k]?.getD 0 + ys[k]?.getD 0) (w4 : World) (g' c2 : Nat)
    (h1 : LimbsAt w4 (.slice (some ⟨g', 0, none⟩) (k + 1) c2) (os ++ [s % R.BB])) (h2 : (Value.slice A' k c').ownBlock = some g' ∨ (wr.alloc (Obj.cells (limbV [s % R.BB]).toArray 59)).heap.size ≤ g') (h3 : Only (Value.slice A' k c').ownBlock.toList (wr.alloc (Obj.cells (limbV [s % R.BB]).toArray 59)) w4) :
    SumCar w w4 (some ⟨g', 0, none⟩) c2 xs ys (os ++ [s % R.BB]) (k + 1) (s / R.BB) := by
  have hl := h.len
  have a := hx.get k
  have b := hy.get k
  refine ⟨h1, by rw [List.length_append, hl]; rfl, h.limb.append (R.limb_one (Nat.mod_lt _ R.BB_pos)), ?_, ?_, fresh_app h.only h.fresh ((Only.refl [] wr).alloc _) h2, frame_app h.only h.fresh ((Only.refl [] wr).alloc _) h3⟩
  · apply Nat.le_of_lt_succ
    rw [Nat.div_lt_iff_lt_mul R.BB_pos]
    have := h.cyl
    omega
  · rw [R.val_snoc, hl, R.val_take_next, R.val_take_next ys, Nat.pow_succ, Nat.mul_assoc, Nat.add_assoc, ← Nat.mul_add, Nat.mod_add_div, hs, Nat.mul_add, Nat.mul_add]
    have := h.val_
    omega
set_option maxHeartbeats 3200000 in
set_option maxRecDepth 100000 in
theorem radd_any (A B : Option Addr) (n m c d : Nat) (xs ys : List Nat) (w : World) (hA : Hid (LRead w A xs)) (hB : Hid (LRead w B ys)) (hx : Hid (R.Limb xs)) (hy : Hid (R.Limb ys)) (hn : Hid (n = xs.length)) (hm : Hid (m = ys.length)) (hl1 : (n : Int) ≤ 7000000) (hl2 : (m : Int) ≤ 7000000) :
    Calls Tryd.prog 29 #[.slice A n c, .slice B m d] w (RPost (R.val xs + R.val ys) w) := by
  have HStart : Hid (SumCar w w none 0 xs ys [] 0 0) := ⟨limbsAt_nil _, rfl, R.limb_nil, by omega, by simp [R.val], by simp [Value.ownBlock], Only.refl _ _⟩
  go_enter Tryd.func29, Tryd.ntmps29
  go_wp2_with fail
  go_loopw [5, 6, 7] (fun ov cv i wr => ∃ (k cy : Nat) (os : List Nat) (A' : Option Addr) (c' : Nat), (k : Int) ≤ 7000001 ∧ (cy = 0 ∨ k ≤ n ∨ k ≤ m) ∧ ov = .slice A' k c' ∧ cv = .int .u64 (cy : Int) ∧ i = .int .i64 (k : Int) ∧ SumCar w wr A' c' xs ys os k cy) (fun _ _ i _ => 7000001 - (intOf i).toNat)
  case atStart => exact ⟨0, 0, [], none, 0, by omega, .inl rfl, rfl, rfl, rfl, HStart.out⟩
  case round =>
    obtain ⟨k, cy, os, A', c', hk, hinv, rfl, rfl, rfl, hR⟩ := hrel
    have HInv : Hid (cy = 0 ∨ k ≤ n ∨ k ≤ m) := hinv
    clear hinv
    have HR := Lib.hid hR
    have HCy := Lib.hid hR.cyl
    have HX := Lib.hid (hx.out.get k)
    have HY := Lib.hid (hy.out.get k)
    clear hR HStart
    by_cases h1 : k < n
    · obtain ⟨b, o, rfl, e1⟩ := hA.out k (by have := hn.out; omega)
      have p0 := HR.out.only.cell e1 (by simp)
      have h1i : (k : Int) < (n : Int) := by omega
      by_cases h2 : k < m
      · obtain ⟨b', o', rfl, e2⟩ := hB.out k (by have := hm.out; omega)
        have q0 := HR.out.only.cell e2 (by simp)
        have h2i : (k : Int) < (m : Int) := by omega
        obtain ⟨s1, hs1⟩ : ∃ s1, cy + xs[k]?.getD 0 = s1 := ⟨_, rfl⟩
        obtain ⟨s, hs⟩ : ∃ s, s1 + ys[k]?.getD 0 = s := ⟨_, rfl⟩
        have HS : Hid (s < 2 + 2 * R.BB ∧ s = cy + xs[k]?.getD 0 + ys[k]?.getD 0) := ⟨by have := HCy.out; have := HX.out; have := HY.out; omega, by rw [hs1, hs]⟩
        have hw1 : IntKind.u64.wrap ((cy : Int) + ((xs[k]?.getD 0 : Nat) : Int)) = (s1 : Int) := u64_add hs1 (by have := HS.out.1; rw [R.BB_val] at this; rw [BB_val]; omega)
        have hw2 : IntKind.u64.wrap ((s1 : Int) + ((ys[k]?.getD 0 : Nat) : Int)) = (s : Int) := u64_add hs (by have := HS.out.1; rw [R.BB_val] at this; rw [BB_val]; omega)
        generalize hgx : xs[k]?.getD 0 = x at p0 hw1
        generalize hgy : ys[k]?.getD 0 = y at q0 hw2
        clear e1 e2 h1 h2 hs1 hs hgx hgy
        have hsl : s < 2 ^ 34 := by have := HS.out.1; rw [R.BB_val] at this; omega
        have hr1 : (s : Int) % 4294967296 = ((s % R.BB : Nat) : Int) := by rw [R.BB_val]; omega
        have hr2 : (s : Int) / 4294967296 = ((s / R.BB : Nat) : Int) := by rw [R.BB_val]; omega
        have hr3 : (s : Int).tmod 4294967296 = ((s % R.BB : Nat) : Int) := by rw [Int.tmod_eq_emod_of_nonneg (by omega)]; exact hr1
        have hr4 : (s : Int).tdiv 4294967296 = ((s / R.BB : Nat) : Int) := by rw [Int.tdiv_eq_ediv_of_nonneg (by omega)]; exact hr2
        have HStep := Lib.hid (@SumCar.step w wr A' c' xs ys os k cy s HR.out hx.out hy.out HS.out.2)
        have hw5 : IntKind.u64.wrap ((s / R.BB : Nat) : Int) = ((s / R.BB : Nat) : Int) := u64_wrap (by rw [R.BB_val, BB_val]; omega)
        have hw6 : IntKind.u64.wrap ((s % R.BB : Nat) : Int) = ((s % R.BB : Nat) : Int) := u64_wrap (by rw [R.BB_val, BB_val]; omega)
        have HCz : Hid (s / R.BB = 0 ∨ (k : Int) < n ∨ (k : Int) < m) := by first | exact .inr (.inl h1i) | exact .inr (.inr h2i) | exact .inl (Nat.div_eq_of_lt (by rw [R.BB_val]; have := HCy.out; omega))
        have HLn := Lib.hid HR.out.len
        have HAt := Lib.hid HR.out.at_
        generalize s % R.BB = d at *
        generalize s / R.BB = cz at *
        clear hsl
        go_wp2_with (at_builtin; refine append_limbs 25 Tryd.underlying25 rfl _ _ rfl (.slice A' k c') k os [d] rfl (HAt.out.only ((Only.refl [] wr).alloc _) (by simp)) HLn.out.symm wr.heap.size 1 rfl rfl (by simp) (Blk.new wr 59 (limbV [d])) (by omega) ?_; intro g' c2 w4 h1 h2 h3; have HS4 := Lib.hid (HStep.out _ _ _ h1 h2 h3); clear h1 h2 h3)
        go_wp2_with fail
        go_roundw
        case rel => exact ⟨k + 1, _, _, _, _, by have := HInv.out; omega, by have := HCz.out; omega, rfl, rfl, by go_num, HS4.out⟩
        case measure => have := HInv.out; simp [intOf]; omega
      · have h2i : ¬ (k : Int) < (m : Int) := by omega
        have hy0 : ys[k]?.getD 0 = 0 := by rw [List.getElem?_eq_none (by have := hm.out; omega)]; rfl
        obtain ⟨s, hs⟩ : ∃ s, cy + xs[k]?.getD 0 = s := ⟨_, rfl⟩
        have HS : Hid (s < 2 + 2 * R.BB ∧ s = cy + xs[k]?.getD 0 + ys[k]?.getD 0) := ⟨by have := HCy.out; have := HX.out; omega, by rw [hs, hy0, Nat.add_zero]⟩
        have hw1 : IntKind.u64.wrap ((cy : Int) + ((xs[k]?.getD 0 : Nat) : Int)) = (s : Int) := u64_add hs (by have := HS.out.1; rw [R.BB_val] at this; rw [BB_val]; omega)
        generalize hgx : xs[k]?.getD 0 = x at p0 hw1
        clear e1 h1 h2 hs hy0 hgx
        have hsl : s < 2 ^ 34 := by have := HS.out.1; rw [R.BB_val] at this; omega
        have hr1 : (s : Int) % 4294967296 = ((s % R.BB : Nat) : Int) := by rw [R.BB_val]; omega
        have hr2 : (s : Int) / 4294967296 = ((s / R.BB : Nat) : Int) := by rw [R.BB_val]; omega
        have hr3 : (s : Int).tmod 4294967296 = ((s % R.BB : Nat) : Int) := by rw [Int.tmod_eq_emod_of_nonneg (by omega)]; exact hr1
        have hr4 : (s : Int).tdiv 4294967296 = ((s / R.BB : Nat) : Int) := by rw [Int.tdiv_eq_ediv_of_nonneg (by omega)]; exact hr2
        have HStep := Lib.hid (@SumCar.step w wr A' c' xs ys os k cy s HR.out hx.out hy.out HS.out.2)
        have hw5 : IntKind.u64.wrap ((s / R.BB : Nat) : Int) = ((s / R.BB : Nat) : Int) := u64_wrap (by rw [R.BB_val, BB_val]; omega)
        have hw6 : IntKind.u64.wrap ((s % R.BB : Nat) : Int) = ((s % R.BB : Nat) : Int) := u64_wrap (by rw [R.BB_val, BB_val]; omega)
        have HCz : Hid (s / R.BB = 0 ∨ (k : Int) < n ∨ (k : Int) < m) := by first | exact .inr (.inl h1i) | exact .inr (.inr h2i) | exact .inl (Nat.div_eq_of_lt (by rw [R.BB_val]; have := HCy.out; omega))
        have HLn := Lib.hid HR.out.len
        have HAt := Lib.hid HR.out.at_
        generalize s % R.BB = d at *
        generalize s / R.BB = cz at *
        clear hsl
        go_wp2_with (at_builtin; refine append_limbs 25 Tryd.underlying25 rfl _ _ rfl (.slice A' k c') k os [d] rfl (HAt.out.only ((Only.refl [] wr).alloc _) (by simp)) HLn.out.symm wr.heap.size 1 rfl rfl (by simp) (Blk.new wr 59 (limbV [d])) (by omega) ?_; intro g' c2 w4 h1 h2 h3; have HS4 := Lib.hid (HStep.out _ _ _ h1 h2 h3); clear h1 h2 h3)
        go_wp2_with fail
        go_roundw
        case rel => exact ⟨k + 1, _, _, _, _, by have := HInv.out; omega, by have := HCz.out; omega, rfl, rfl, by go_num, HS4.out⟩
        case measure => have := HInv.out; simp [intOf]; omega
    · have h1i : ¬ (k : Int) < (n : Int) := by omega
      have hx0 : xs[k]?.getD 0 = 0 := by rw [List.getElem?_eq_none (by have := hn.out; omega)]; rfl
      by_cases h2 : k < m
      · obtain ⟨b', o', rfl, e2⟩ := hB.out k (by have := hm.out; omega)
        have q0 := HR.out.only.cell e2 (by simp)
        have h2i : (k : Int) < (m : Int) := by omega
        obtain ⟨s, hs⟩ : ∃ s, cy + ys[k]?.getD 0 = s := ⟨_, rfl⟩
        have HS : Hid (s < 2 + 2 * R.BB ∧ s = cy + xs[k]?.getD 0 + ys[k]?.getD 0) := ⟨by have := HCy.out; have := HY.out; omega, by rw [hx0, Nat.add_zero, hs]⟩
        have hw2 : IntKind.u64.wrap ((cy : Int) + ((ys[k]?.getD 0 : Nat) : Int)) = (s : Int) := u64_add hs (by have := HS.out.1; rw [R.BB_val] at this; rw [BB_val]; omega)
        generalize hgy : ys[k]?.getD 0 = y at q0 hw2
        clear e2 h1 h2 hs hx0 hgy
        have hsl : s < 2 ^ 34 := by have := HS.out.1; rw [R.BB_val] at this; omega
        have hr1 : (s : Int) % 4294967296 = ((s % R.BB : Nat) : Int) := by rw [R.BB_val]; omega
        have hr2 : (s : Int) / 4294967296 = ((s / R.BB : Nat) : Int) := by rw [R.BB_val]; omega
        have hr3 : (s : Int).tmod 4294967296 = ((s % R.BB : Nat) : Int) := by rw [Int.tmod_eq_emod_of_nonneg (by omega)]; exact hr1
        have hr4 : (s : Int).tdiv 4294967296 = ((s / R.BB : Nat) : Int) := by rw [Int.tdiv_eq_ediv_of_nonneg (by omega)]; exact hr2
        have HStep := Lib.hid (@SumCar.step w wr A' c' xs ys os k cy s HR.out hx.out hy.out HS.out.2)
        have hw5 : IntKind.u64.wrap ((s / R.BB : Nat) : Int) = ((s / R.BB : Nat) : Int) := u64_wrap (by rw [R.BB_val, BB_val]; omega)
        have hw6 : IntKind.u64.wrap ((s % R.BB : Nat) : Int) = ((s % R.BB : Nat) : Int) := u64_wrap (by rw [R.BB_val, BB_val]; omega)
        have HCz : Hid (s / R.BB = 0 ∨ (k : Int) < n ∨ (k : Int) < m) := by first | exact .inr (.inl h1i) | exact .inr (.inr h2i) | exact .inl (Nat.div_eq_of_lt (by rw [R.BB_val]; have := HCy.out; omega))
        have HLn := Lib.hid HR.out.len
        have HAt := Lib.hid HR.out.at_
        generalize s % R.BB = d at *
        generalize s / R.BB = cz at *
        clear hsl
        go_wp2_with (at_builtin; refine append_limbs 25 Tryd.underlying25 rfl _ _ rfl (.slice A' k c') k os [d] rfl (HAt.out.only ((Only.refl [] wr).alloc _) (by simp)) HLn.out.symm wr.heap.size 1 rfl rfl (by simp) (Blk.new wr 59 (limbV [d])) (by omega) ?_; intro g' c2 w4 h1 h2 h3; have HS4 := Lib.hid (HStep.out _ _ _ h1 h2 h3); clear h1 h2 h3)
        go_wp2_with fail
        go_roundw
        case rel => exact ⟨k + 1, _, _, _, _, by have := HInv.out; omega, by have := HCz.out; omega, rfl, rfl, by go_num, HS4.out⟩
        case measure => have := HInv.out; simp [intOf]; omega
      · have h2i : ¬ (k : Int) < (m : Int) := by omega
        have hy0 : ys[k]?.getD 0 = 0 := by rw [List.getElem?_eq_none (by have := hm.out; omega)]; rfl
        have HTx : Hid (xs.take k = xs) := List.take_of_length_le (by have := hn.out; omega)
        have HTy : Hid (ys.take k = ys) := List.take_of_length_le (by have := hm.out; omega)
        by_cases h3 : cy = 0
        · subst h3
          have HV : Hid (R.val os = R.val xs + R.val ys) := by
            have h := HR.out.val_
            rw [HTx.out, HTy.out, Nat.mul_zero, Nat.add_zero] at h
            exact h
          have htr := rtrim_any A' k c' os wr (Lib.hid (LimbsAt.read HR.out.at_).2) (Lib.hid HR.out.limb) (Lib.hid HR.out.len.symm) (by
            rcases HR.out.at_.2 with ⟨hv, h0⟩ | ⟨gp, cap, cur, hv, _, _, h5, _⟩
            · injection hv with _ h6 h7
              omega
            · injection hv with _ h6 h7
              have := HR.out.len
              omega) (by omega)
          rw [HV.out] at htr
          have HTr := Lib.hid htr
          have HRd : Hid (LRead wr A' (R.limbsOf (R.val xs + R.val ys))) := by
            have h2 := (R.limbsOf_take HR.out.limb).1
            rw [HV.out] at h2
            show LRead _ _ _
            rw [← h2]
            exact (LimbsAt.read HR.out.at_).2.take _
          clear htr h1 h2 hx0 hy0
          go_wp2_with fail
          refine HTr.out.mono ?_
          rintro e w' ⟨rfl, rfl⟩
          go_wp2_with fail
          go_ret
          exact ⟨A', _, _, rfl, ⟨A', _, rfl, HRd.out, Nat.le_refl _⟩, fun a ha => HR.out.fresh a.block (by rw [ha]; rfl), HR.out.only⟩
        · have h3i : (0 : Int) < (cy : Int) := by omega
          have HS : Hid (cy < 2 + 2 * R.BB ∧ cy = cy + xs[k]?.getD 0 + ys[k]?.getD 0) := ⟨by have := HCy.out; omega, by rw [hx0, hy0]; rfl⟩
          clear h1 h2 h3 hx0 hy0
          have hsl : cy < 2 ^ 34 := by have := HS.out.1; rw [R.BB_val] at this; omega
          have hr1 : (cy : Int) % 4294967296 = ((cy % R.BB : Nat) : Int) := by rw [R.BB_val]; omega
          have hr2 : (cy : Int) / 4294967296 = ((cy / R.BB : Nat) : Int) := by rw [R.BB_val]; omega
          have hr3 : (cy : Int).tmod 4294967296 = ((cy % R.BB : Nat) : Int) := by rw [Int.tmod_eq_emod_of_nonneg (by omega)]; exact hr1
          have hr4 : (cy : Int).tdiv 4294967296 = ((cy / R.BB : Nat) : Int) := by rw [Int.tdiv_eq_ediv_of_nonneg (by omega)]; exact hr2
          have HStep := Lib.hid (@SumCar.step w wr A' c' xs ys os k cy cy HR.out hx.out hy.out HS.out.2)
          have hw5 : IntKind.u64.wrap ((cy / R.BB : Nat) : Int) = ((cy / R.BB : Nat) : Int) := u64_wrap (by rw [R.BB_val, BB_val]; omega)
          have hw6 : IntKind.u64.wrap ((cy % R.BB : Nat) : Int) = ((cy % R.BB : Nat) : Int) := u64_wrap (by rw [R.BB_val, BB_val]; omega)
          have HCz : Hid (cy / R.BB = 0 ∨ (k : Int) < n ∨ (k : Int) < m) := by first | exact .inr (.inl h1i) | exact .inr (.inr h2i) | exact .inl (Nat.div_eq_of_lt (by rw [R.BB_val]; have := HCy.out; omega))
          have HLn := Lib.hid HR.out.len
          have HAt := Lib.hid HR.out.at_
          generalize cy % R.BB = d at *
          generalize cy / R.BB = cz at *
          clear hsl
          go_wp2_with (at_builtin; refine append_limbs 25 Tryd.underlying25 rfl _ _ rfl (.slice A' k c') k os [d] rfl (HAt.out.only ((Only.refl [] wr).alloc _) (by simp)) HLn.out.symm wr.heap.size 1 rfl rfl (by simp) (Blk.new wr 59 (limbV [d])) (by omega) ?_; intro g' c2 w4 h1 h2 h3; have HS4 := Lib.hid (HStep.out _ _ _ h1 h2 h3); clear h1 h2 h3)
          go_wp2_with fail
          go_roundw
          case rel => exact ⟨k + 1, _, _, _, _, by have := HInv.out; omega, by have := HCz.out; omega, rfl, rfl, by go_num, HS4.out⟩
          case measure => have := HInv.out; simp [intOf]; omega
theorem radd_v {w : World} {a b : Value} {m n : Nat} (ha : Hid (RV w a m)) (hb : Hid (RV w b n)) (hfa : Hid (Few m)) (hfb : Hid (Few n)) : Calls Tryd.prog 29 #[a, b] w (RPost (m + n) w) := by
  obtain ⟨A, c, rfl, h1, h2⟩ := ha.out
  obtain ⟨B, d, rfl, k1, k2⟩ := hb.out
  have := hfa.out.digits
  have := hfb.out.digits
  have h := radd_any A B _ _ c d (R.limbsOf m) (R.limbsOf n) w (Lib.hid h1) (Lib.hid k1) (Lib.hid (R.limb_limbsOf m)) (Lib.hid (R.limb_limbsOf n)) (Lib.hid rfl) (Lib.hid rfl) (by omega) (by omega)
  rw [R.val_limbsOf, R.val_limbsOf] at h
  exact h
end Go.Proofs.YtcknigodcjjahaaDoor
