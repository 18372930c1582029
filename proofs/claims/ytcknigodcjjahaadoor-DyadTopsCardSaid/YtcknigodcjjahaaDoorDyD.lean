/-
  Dyads: align.
-/
import Derived.Test.YtcknigodcjjahaaDoorDyC
namespace Go.Proofs.YtcknigodcjjahaaDoor
set_option linter.unusedSimpArgs false
open Go.RowKit

theorem only_set22 (w : World) (b d : Nat) (x y u v : Value) : Only [b, d] w ((((w.setCell ⟨b, 0, none⟩ x).setCell ⟨b, 1, none⟩ y).setCell ⟨d, 0, none⟩ u).setCell ⟨d, 1, none⟩ v) :=
  ((((Only.refl [b, d] w).setCell (.inl (by simp)) x).setCell (.inl (by simp)) y).setCell (.inl (by simp)) u).setCell (.inl (by simp)) v
/-- What align leaves. -/
def APost (x y : Dy) (w : World) (e : Ending) (w' : World) : Prop := ∃ s A k c t B l d, e = .returned (.tuple #[.agg #[.bool s, .slice A k c], .agg #[.bool t, .slice B l d], .int .i64 (min x.e y.e)]) ∧ IV w' (.agg #[.bool s, .slice A k c]) (alX x y) ∧ IV w' (.agg #[.bool t, .slice B l d]) (alY x y) ∧ Only [] w w'
theorem apost {x y : Dy} {w w1 w2 : World} {g h : Nat} {e : Int} {s0 s1 s t : Bool} {A0 A1 A B : Option Addr} {k0 c0 k1 c1 k c l d : Nat} (he : min x.e y.e = e) (hv : Hid (IV w1 (.agg #[.bool s, .slice A k c]) (alX x y))) (hv' : Hid (IV w1 (.agg #[.bool t, .slice B l d]) (alY x y)))
    (hg : w.heap.size ≤ g) (hG : Blk w1 g 51 [.bool s0, .slice A0 k0 c0]) (hh : w.heap.size ≤ h) (hH : Blk w1 h 51 [.bool s1, .slice A1 k1 c1]) (ho : Only [] w w1) (ho2 : Only [g, h] w1 w2) :
    APost x y w (.returned (.tuple #[.agg #[.bool s, .slice A k c], .agg #[.bool t, .slice B l d], .int .i64 e])) w2 := by
  have far : ∀ {r : Bool} {C : Option Addr} {i j : Nat} {z : Int}, IV w1 (.agg #[.bool r, .slice C i j]) z → ∀ b ∈ [g, h], Far b C i := fun hiv b hb => by
    rcases List.mem_cons.1 hb with rfl | hb
    · exact hiv.far_box hG
    · rw [List.mem_singleton] at hb; subst hb; exact hiv.far_box hH
  exact ⟨s, A, k, c, t, B, l, d, by rw [he], hv.out.farS ho2 (far hv.out), hv'.out.farS ho2 (far hv'.out), ho.trans ho2 (fun b hb => .inr (by
    rcases List.mem_cons.1 hb with rfl | hb
    · exact hg
    · rw [List.mem_singleton] at hb; subst hb; exact hh))⟩
theorem sg_shl (s : Bool) {z : Int} (n : Nat) (h : sg s z.natAbs = z) : z * 2 ^ n = sg s (z.natAbs * 2 ^ n) := by
  have e : ((z.natAbs * 2 ^ n : Nat) : Int) = (z.natAbs : Int) * 2 ^ n := by push_cast; rfl
  cases s
  · rw [sg_false] at h ⊢; rw [e, h]
  · rw [sg_true] at h ⊢; rw [e, ← Int.neg_mul, h]
theorem nat_shl_lt {a n N : Nat} (h : a < 2 ^ N) : a * 2 ^ n < 2 ^ (N + n) := by
  rw [Nat.pow_add]
  exact Nat.mul_lt_mul_of_pos_right h (Nat.pow_pos (by decide))
set_option maxHeartbeats 1600000 in
set_option maxRecDepth 100000 in
theorem align_d {w : World} {a b : Value} {x y : Dy} {N : Nat} (ha : Hid (DV w a x)) (hb : Hid (DV w b y)) (hx : Hid (Bnd N x)) (hy : Hid (Bnd N y)) (hN : N ≤ 2000000) : Calls Tryd.prog 97 #[a, b] w (APost x y w) := by
  obtain ⟨s, A, k, c, rfl, hv⟩ := ha.out.form
  obtain ⟨t, B, l, d, rfl, hv'⟩ := hb.out.form
  have hk := ((((KB.start w).new 80 [.bool s, .slice A k c, .int .i64 x.e]).new 80 [.bool t, .slice B l d, .int .i64 y.e]).new 51 [.bool false, .slice none 0 0]).new 51 [.bool false, .slice none 0 0]
  simp only [World.size_alloc] at hk
  have hs := hv.sign
  have ht := hv'.sign
  have HX := Lib.hid (hv.only hk.only)
  have HY := Lib.hid (hv'.only hk.only)
  have HK := Lib.hid hk
  have hxe := lim_i64 hx.out (by omega)
  have hye := lim_i64 hy.out (by omega)
  have hxz := hx.out.z
  have hyz := hy.out.z
  have hl1 := hx.out.lo
  have hl2 := hx.out.hi
  have hl3 := hy.out.lo
  have hl4 := hy.out.hi
  clear hk hv hv' ha hb
  by_cases hle : x.e ≤ y.e
  · have hmin : min x.e y.e = x.e := Int.min_eq_left hle
    obtain ⟨n, hn0⟩ : ∃ n, (y.e - x.e).toNat = n := ⟨_, rfl⟩
    have hn1 : y.e - x.e = (n : Int) := by omega
    have hn : (n : Int) ≤ 16777216 := by omega
    have HF : Hid (Few (y.z.natAbs * 2 ^ n)) := few_two_pow (nat_shl_lt hyz) (by omega)
    have HAX : Hid (alX x y = x.z) := by show alX x y = _; unfold alX; rw [hmin, Int.sub_self]; simp
    have HAY : Hid (alY x y = sg t (y.z.natAbs * 2 ^ n)) := by show alY x y = _; unfold alY; rw [hmin, hn0]; exact sg_shl t n ht
    have HM := Lib.hid hmin
    have hsub : IntKind.i64.wrap (y.e - x.e) = (n : Int) := by rw [hn1]; exact wrap_i64 (by omega)
    clear hs ht hxz hyz hmin hn0 hn1 hl1 hl2 hl3 hl4 hx hy
    go_enter Tryd.func97, Tryd.ntmps97
    go_wp2_with fail
    generalize (((w.alloc (.cells #[.bool s, .slice A k c, .int .i64 x.e] 80)).alloc (.cells #[.bool t, .slice B l d, .int .i64 y.e] 80)).alloc (.cells #[.bool false, .slice none 0 0] 51)).alloc (.cells #[.bool false, .slice none 0 0] 51) = w1 at *
    have q1 : w.heap.size < w.heap.size + 1 := by omega
    have q2 : w.heap.size + 1 < w.heap.size + 1 + 1 := by omega
    have q3 : w.heap.size + 1 + 1 < w.heap.size + 1 + 1 + 1 := by omega
    generalize w.heap.size + 1 + 1 + 1 = g3 at *
    generalize w.heap.size + 1 + 1 = g2 at *
    generalize w.heap.size + 1 = g1 at *
    have n1 : ¬ w.heap.size = g2 := by omega
    have n2 : ¬ w.heap.size = g3 := by omega
    have n3 : ¬ g1 = g2 := by omega
    have n4 : ¬ g1 = g3 := by omega
    have n5 : ¬ g2 = g3 := by omega
    have n6 : ¬ g3 = g2 := by omega
    have m1 : ¬ g2 = w.heap.size := by omega
    have m2 : ¬ g3 = w.heap.size := by omega
    have m3 : ¬ g2 = g1 := by omega
    have m4 : ¬ g3 = g1 := by omega
    obtain ⟨a0, a1, a2, -, -, -⟩ := HK.out.c3 3 rfl
    obtain ⟨b0, b1, b2, -, -, -⟩ := HK.out.c3 2 rfl
    have HK1 := Lib.hid (HK.out.step (Only.refl [] w1).drew)
    have HM1 := Lib.hid (HY.out.mag.only (Only.refl [] w1).drew)
    have HX1 := Lib.hid (HX.out.only (Only.refl [] w1).drew)
    go_region_held3 (fun w' => w'.cell? ⟨w.heap.size, 0, none⟩ = some (.bool s) ∧ w'.cell? ⟨w.heap.size, 1, none⟩ = some (.slice A k c) ∧ w'.cell? ⟨w.heap.size, 2, none⟩ = some (.int .i64 x.e) ∧ w'.cell? ⟨g1, 0, none⟩ = some (.bool t) ∧ w'.cell? ⟨g1, 1, none⟩ = some (.slice B l d) ∧ w'.cell? ⟨g1, 2, none⟩ = some (.int .i64 y.e)) (go_keep) (first | (go_at_call 55; (with_reducible refine (make_w _ HV3).mono ?_); rintro e4 w4 ⟨sx, Ax, kx, cx, rfl, -, -, hv4, ho4⟩; have HK4 := Lib.hid (HK3.out.step ho4); have HV4 := Lib.hid hv4; have HX4 := Lib.hid (HX3.out.only ho4); clear hv4 ho4; obtain ⟨a0, a1, a2, -, -, -⟩ := HK4.out.c3 3 rfl; obtain ⟨b0, b1, b2, -, -, -⟩ := HK4.out.c3 2 rfl; obtain ⟨c0, c1', f0, f1⟩ := HK4.out.c2 1 rfl; obtain ⟨d0, d1, i0, i1⟩ := HK4.out.c2 0 rfl) | (go_at_call 114; (with_reducible refine (left_d n hn HM1 HF).mono ?_); rintro e3 w3 ⟨A3, k3, c3, rfl, -, hv3, ho3⟩; have HK3 := Lib.hid (HK1.out.step ho3); have HV3 := Lib.hid hv3; have HX3 := Lib.hid (HX1.out.only ho3); clear hv3 ho3; obtain ⟨a0, a1, a2, -, -, -⟩ := HK3.out.c3 3 rfl; obtain ⟨b0, b1, b2, -, -, -⟩ := HK3.out.c3 2 rfl))
    go_wp2_with fail
    refine bodyPost_ret (v := .tuple #[.agg #[.bool s, .slice A k c], .agg #[.bool sx, .slice Ax kx cx], .int .i64 x.e]) (by simp [results, Tryd.results97, go_sem, c0, c1', d0, d1]) rfl ?_
    exact apost HM.out (Lib.hid (HAX.out.symm ▸ HX4.out)) (Lib.hid (HAY.out.symm ▸ HV4.out)) (by omega) (HK4.out.blk 1 rfl) (by omega) (HK4.out.blk 0 rfl) HK4.out.only (only_set22 _ _ _ _ _ _ _)
  · have hmin : min x.e y.e = y.e := Int.min_eq_right (by omega)
    obtain ⟨n, hn0⟩ : ∃ n, (x.e - y.e).toNat = n := ⟨_, rfl⟩
    have hn1 : x.e - y.e = (n : Int) := by omega
    have hn : (n : Int) ≤ 16777216 := by omega
    have HF : Hid (Few (x.z.natAbs * 2 ^ n)) := few_two_pow (nat_shl_lt hxz) (by omega)
    have HAY : Hid (alY x y = y.z) := by show alY x y = _; unfold alY; rw [hmin, Int.sub_self]; simp
    have HAX : Hid (alX x y = sg s (x.z.natAbs * 2 ^ n)) := by show alX x y = _; unfold alX; rw [hmin, hn0]; exact sg_shl s n hs
    have HM := Lib.hid hmin
    have hsub : IntKind.i64.wrap (x.e - y.e) = (n : Int) := by rw [hn1]; exact wrap_i64 (by omega)
    clear hs ht hxz hyz hmin hn0 hn1 hl1 hl2 hl3 hl4 hx hy
    go_enter Tryd.func97, Tryd.ntmps97
    go_wp2_with fail
    generalize (((w.alloc (.cells #[.bool s, .slice A k c, .int .i64 x.e] 80)).alloc (.cells #[.bool t, .slice B l d, .int .i64 y.e] 80)).alloc (.cells #[.bool false, .slice none 0 0] 51)).alloc (.cells #[.bool false, .slice none 0 0] 51) = w1 at *
    have q1 : w.heap.size < w.heap.size + 1 := by omega
    have q2 : w.heap.size + 1 < w.heap.size + 1 + 1 := by omega
    have q3 : w.heap.size + 1 + 1 < w.heap.size + 1 + 1 + 1 := by omega
    generalize w.heap.size + 1 + 1 + 1 = g3 at *
    generalize w.heap.size + 1 + 1 = g2 at *
    generalize w.heap.size + 1 = g1 at *
    have n1 : ¬ w.heap.size = g2 := by omega
    have n2 : ¬ w.heap.size = g3 := by omega
    have n3 : ¬ g1 = g2 := by omega
    have n4 : ¬ g1 = g3 := by omega
    have n5 : ¬ g2 = g3 := by omega
    have n6 : ¬ g3 = g2 := by omega
    have m1 : ¬ g2 = w.heap.size := by omega
    have m2 : ¬ g3 = w.heap.size := by omega
    have m3 : ¬ g2 = g1 := by omega
    have m4 : ¬ g3 = g1 := by omega
    obtain ⟨a0, a1, a2, -, -, -⟩ := HK.out.c3 3 rfl
    obtain ⟨b0, b1, b2, -, -, -⟩ := HK.out.c3 2 rfl
    have HK1 := Lib.hid (HK.out.step (Only.refl [] w1).drew)
    have HM1 := Lib.hid (HX.out.mag.only (Only.refl [] w1).drew)
    have HX1 := Lib.hid (HY.out.only (Only.refl [] w1).drew)
    go_region_held3 (fun w' => w'.cell? ⟨w.heap.size, 0, none⟩ = some (.bool s) ∧ w'.cell? ⟨w.heap.size, 1, none⟩ = some (.slice A k c) ∧ w'.cell? ⟨w.heap.size, 2, none⟩ = some (.int .i64 x.e) ∧ w'.cell? ⟨g1, 0, none⟩ = some (.bool t) ∧ w'.cell? ⟨g1, 1, none⟩ = some (.slice B l d) ∧ w'.cell? ⟨g1, 2, none⟩ = some (.int .i64 y.e)) (go_keep) (first | (go_at_call 55; (with_reducible refine (make_w _ HV3).mono ?_); rintro e4 w4 ⟨sx, Ax, kx, cx, rfl, -, -, hv4, ho4⟩; have HK4 := Lib.hid (HK3.out.step ho4); have HV4 := Lib.hid hv4; have HX4 := Lib.hid (HX3.out.only ho4); clear hv4 ho4; obtain ⟨a0, a1, a2, -, -, -⟩ := HK4.out.c3 3 rfl; obtain ⟨b0, b1, b2, -, -, -⟩ := HK4.out.c3 2 rfl; obtain ⟨c0, c1', f0, f1⟩ := HK4.out.c2 1 rfl; obtain ⟨d0, d1, i0, i1⟩ := HK4.out.c2 0 rfl) | (go_at_call 114; (with_reducible refine (left_d n hn HM1 HF).mono ?_); rintro e3 w3 ⟨A3, k3, c3, rfl, -, hv3, ho3⟩; have HK3 := Lib.hid (HK1.out.step ho3); have HV3 := Lib.hid hv3; have HX3 := Lib.hid (HX1.out.only ho3); clear hv3 ho3; obtain ⟨a0, a1, a2, -, -, -⟩ := HK3.out.c3 3 rfl; obtain ⟨b0, b1, b2, -, -, -⟩ := HK3.out.c3 2 rfl))
    go_wp2_with fail
    refine bodyPost_ret (v := .tuple #[.agg #[.bool sx, .slice Ax kx cx], .agg #[.bool t, .slice B l d], .int .i64 y.e]) (by simp [results, Tryd.results97, go_sem, c0, c1', d0, d1]) rfl ?_
    exact apost HM.out (Lib.hid (HAX.out.symm ▸ HV4.out)) (Lib.hid (HAY.out.symm ▸ HX4.out)) (by omega) (HK4.out.blk 1 rfl) (by omega) (HK4.out.blk 0 rfl) HK4.out.only (only_set22 _ _ _ _ _ _ _)

end Go.Proofs.YtcknigodcjjahaaDoor
