/-
  The reference's numbers: Small, Mul.
-/
import Derived.Test.YtphjcphcgnjogaaDoorRefC
import Derived.IntWalk
namespace Go.Proofs.YtphjcphcgnjogaaDoor
open Go.RowKit

set_option maxRecDepth 100000 in
/-- make([]T, n), of limbs. -/
theorem make_limbs (T : TypeId) (hT : Tryd.prog.underlying T = some (.slice 64)) (w : World) (n : Nat) (hn : (n : Int) ≤ 16000000) : ∃ w', (Instr.makeSlice T (.int .i64 (n : Int)) (.int .i64 (n : Int))).run Tryd.prog w = .ok (.slice (some ⟨w.heap.size, 0, none⟩) n n) w' ∧
    Blk w' w.heap.size 64 (limbV (List.replicate n 0)) ∧ Only [] w w' ∧ w.heap.size < w'.heap.size := by
  obtain ⟨i0, hi, hz0, hz1, hz2⟩ := u64_parts
  obtain ⟨w', hr, ho, hg⟩ := run_make_full (P := Tryd.prog) w 0 T 64 i0 _ 1 hT hi hz0 hz1 .i64 .i64 n (by rw [hz2]; omega) (by simp only [maxLen]; omega) (Nat.zero_le _)
  refine ⟨w', hr, ?_, Only.of_grown hg (by simp), (World.ownsRow.lt ho _ rfl).2⟩
  rcases ho.2 with ⟨h0, _⟩ | ⟨g, cap, cur, e, _, hb, _, _, hs, ht⟩
  · cases h0
  · injection e with e1 e2 e3
    injection e1 with e1
    injection e1 with e1 _ _
    subst e1 e3
    unfold Blk
    rw [hb, limbV_zeros]
    congr 2
    apply Array.ext'
    rw [← List.take_of_length_le (l := cur.toList) (i := n * 1) (by simp [hs]), ht]
    have e : (Value.int IntKind.u64 0).cells = #[.int .u64 0] := rfl
    simp only [madeCells, e]
    simp [Nat.mod_one]
    apply List.ext_getElem <;> simp

/-- Two digits of a limb. -/
theorem RV.of_row {w : World} {A : Option Addr} {os : List Nat} (h : LRead w A os) (hl : R.Limb os) : LRead w A (R.limbsOf (R.val os)) := by
  have h2 := (R.limbsOf_take hl).1
  rw [← h2]
  exact h.take _
set_option maxRecDepth 100000 in
theorem rsmall_any (v : Nat) (w : World) (hv : Hid (v < BB)) : Calls Tryd.prog 45 #[.int .u64 (v : Int)] w (RPost v w) := by
  have hr1 : (v : Int) % 4294967296 = ((v % R.BB : Nat) : Int) := by rw [R.BB_val]; omega
  have hr2 : (v : Int) / 4294967296 = ((v / R.BB : Nat) : Int) := by rw [R.BB_val]; omega
  have hr3 : (v : Int).tmod 4294967296 = ((v % R.BB : Nat) : Int) := by rw [Int.tmod_eq_emod_of_nonneg (by omega)]; exact hr1
  have hr4 : (v : Int).tdiv 4294967296 = ((v / R.BB : Nat) : Int) := by rw [Int.tdiv_eq_ediv_of_nonneg (by omega)]; exact hr2
  have hw5 : IntKind.u64.wrap ((v / R.BB : Nat) : Int) = ((v / R.BB : Nat) : Int) := u64_wrap (Nat.lt_of_le_of_lt (Nat.div_le_self _ _) hv.out)
  have hw6 : IntKind.u64.wrap ((v % R.BB : Nat) : Int) = ((v % R.BB : Nat) : Int) := u64_wrap (Nat.lt_of_le_of_lt (Nat.mod_le _ _) hv.out)
  have HV : Hid (R.val [v % R.BB, v / R.BB] = v) := by
    show _ = _
    simp only [R.val, Nat.mul_zero, Nat.add_zero]
    exact Nat.mod_add_div _ _
  have HL : Hid (R.Limb [v % R.BB, v / R.BB]) := fun d hd => by
    have h := hv.out
    rw [R.bb_sq] at h
    rcases List.mem_cons.1 hd with rfl | hd
    · exact Nat.mod_lt _ R.BB_pos
    · rw [List.mem_singleton.1 hd]
      rwa [Nat.div_lt_iff_lt_mul R.BB_pos]
  generalize v % R.BB = d0 at *
  generalize v / R.BB = d1 at *
  have hb : Blk (w.alloc (Obj.cells #[.int .u64 (d0 : Int), .int .u64 (d1 : Int)] 64)) w.heap.size 64 (limbV [d0, d1]) := Blk.new w 64 (limbV [d0, d1])
  have HRd : Hid (LRead (w.alloc (Obj.cells #[.int .u64 (d0 : Int), .int .u64 (d1 : Int)] 64)) (some ⟨w.heap.size, 0, none⟩) [d0, d1]) := .of_blk hb
  have htr := rtrim_any (some ⟨w.heap.size, 0, none⟩) 2 2 [d0, d1] _ HRd HL (Lib.hid rfl) (Nat.le_refl _) (by omega)
  rw [HV.out] at htr
  have HTr := Lib.hid htr
  clear htr hb
  go_enter Tryd.func45, Tryd.ntmps45
  go_wp2_with fail
  refine HTr.out.mono ?_
  rintro e w' ⟨rfl, rfl⟩
  go_wp2_with fail
  go_ret
  have h2 := RV.of_row HRd.out HL.out
  rw [HV.out] at h2
  exact ⟨_, _, _, rfl, ⟨_, _, rfl, h2, Nat.le_refl _⟩, fun a ha => by injection ha with ha; subst ha; exact Nat.le_refl _, (Only.refl [] w).alloc _⟩

theorem R.step_law {zs : List Nat} {i lo hi p cy : Nat} (h : i < zs.length) (law : lo + R.BB * hi = zs[i]?.getD 0 + p + cy) : R.val (zs.set i lo) + R.BB ^ (i + 1) * hi = R.val zs + R.BB ^ i * cy + R.BB ^ i * p := by
  have h1 := R.val_set zs i lo h
  have h2 := congrArg (fun t => R.BB ^ i * t) law
  simp only [Nat.mul_add] at h2
  rw [Nat.pow_succ, Nat.mul_assoc]
  omega
/-- Where a row of a product stands. -/
structure QCar (w wr : World) (g : Nat) (L : Nat) (zs : List Nat) (i cy T m : Nat) : Prop where
  blk : Blk wr g 64 (limbV zs)
  limb : R.Limb zs
  len : zs.length = L
  cylt : cy < R.BB
  val_ : R.val zs + R.BB ^ i * cy = T
  high : ∀ k, m ≤ k → zs[k]?.getD 0 = 0
  only : Only [g] w wr
theorem QCar.step {w wr wd : World} {g L : Nat} {zs : List Nat} {i cy T m p s : Nat} (h : QCar w wr g L zs i cy T m) (hi : i < L) (him : i < m) (hs : s = zs[i]?.getD 0 + p + cy) (hb : s < R.BB * R.BB) (hd : Only [] wr wd) {T' : Nat} (hT : T' = T + R.BB ^ i * p) :
    QCar w (wd.setCell ⟨g, i, none⟩ (.int .u64 ((s % R.BB : Nat) : Int))) g L (zs.set i (s % R.BB)) (i + 1) (s / R.BB) T' m := by
  refine ⟨?_, h.limb.set _ _ (Nat.mod_lt _ R.BB_pos), by rw [List.length_set, h.len], by rwa [Nat.div_lt_iff_lt_mul R.BB_pos], ?_, fun k hk => ?_, (h.only.trans hd (by simp)).trans ((Only.refl [g] wd).setCell (.inl (by simp)) _) (by simp)⟩
  · rw [← limbV_set]
    exact (h.blk.only hd (by simp)).set_ i _
  · rw [R.step_law (p := p) (cy := cy) (by rw [h.len]; exact hi) (by rw [Nat.mod_add_div]; exact hs), hT, ← h.val_]
  · rw [set_get_ne (by omega)]
    exact h.high k hk
theorem QCar.close {w wr : World} {g L : Nat} {zs : List Nat} {i cy T : Nat} (h : QCar w wr g L zs i cy T i) (hi : i < L) :
    QCar w (wr.setCell ⟨g, i, none⟩ (.int .u64 (cy : Int))) g L (zs.set i cy) 0 0 T (i + 1) := by
  refine ⟨?_, h.limb.set _ _ h.cylt, by rw [List.length_set, h.len], R.BB_pos, ?_, fun k hk => ?_, h.only.trans ((Only.refl [g] wr).setCell (.inl (by simp)) _) (by simp)⟩
  · rw [← limbV_set]
    exact h.blk.set_ i _
  · have h1 := R.val_set zs i cy (by rw [h.len]; exact hi)
    rw [h.high i (Nat.le_refl _)] at h1
    have := h.val_
    omega
  · rw [set_get_ne (by omega)]
    exact h.high k (by omega)
theorem rprod_lt {x y z cy : Nat} (hx : x < R.BB) (hy : y < R.BB) (hz : z < R.BB) (hc : cy < R.BB) : z + x * y + cy < R.BB * R.BB := by
  obtain ⟨k, hk⟩ : ∃ k, R.BB = k + 1 := ⟨R.BB - 1, by have := R.BB_pos; omega⟩
  have h8 : x * y ≤ k * k := Nat.mul_le_mul (by omega) (by omega)
  have h9 : R.BB * R.BB = k * k + 2 * k + 1 := by rw [hk, Nat.add_mul, Nat.mul_add]; omega
  omega
theorem R.val_take_all (xs : List Nat) : xs.take xs.length = xs := List.take_of_length_le (Nat.le_refl _)

end Go.Proofs.YtphjcphcgnjogaaDoor
