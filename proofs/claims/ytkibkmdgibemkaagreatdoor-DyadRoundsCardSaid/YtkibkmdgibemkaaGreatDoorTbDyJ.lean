/-
  Dyads: quotients.
-/
import Derived.Test.YtkibkmdgibemkaaGreatDoorTbGDyB
namespace Go.Proofs.YtkibkmdgibemkaaGreatDoor
set_option linter.unusedSimpArgs false
open Go.RowKit

/-- A quotient, a root: the number, and whether there is one. -/
def QDPost (x : Dy) (ok : Bool) (w : World) (e : Ending) (w' : World) : Prop := ∃ s A k c, e = .returned (.tuple #[.agg #[.bool s, .slice A k c, .int .i64 x.e], .bool ok]) ∧ s = decide (x.z < 0) ∧ k = (limbsOf x.z.natAbs).length ∧ IV w' (.agg #[.bool s, .slice A k c]) x.z ∧ Only [] w w'
theorem QDPost.of {x : Dy} {ok : Bool} {w w' : World} {s : Bool} {A : Option Addr} {k c : Nat} (h : DPost x w (.returned (.agg #[.bool s, .slice A k c, .int .i64 x.e])) w') : QDPost x ok w (.returned (.tuple #[.agg #[.bool s, .slice A k c, .int .i64 x.e], .bool ok])) w' := by
  obtain ⟨s', A', k', c', he, h1, h2, h3, h4⟩ := h
  injection he with he
  simp only [Value.agg.injEq, Array.mk.injEq, List.cons.injEq, Value.bool.injEq, Value.slice.injEq, and_true] at he
  obtain ⟨rfl, rfl, rfl, rfl⟩ := he
  exact ⟨s, A, k, c, rfl, h1, h2, h3, h4⟩
theorem sign_ne {z : Int} (h : z ≠ 0) : ∃ p, z.sign = p ∧ (p == 0) = false := by
  refine ⟨_, rfl, ?_⟩
  rw [beq_eq_false_iff_ne]
  exact fun hc => h (Int.sign_eq_zero_iff_zero.1 hc)
theorem sign_dec {s : Bool} {z : Int} (h : sg s z.natAbs = z) (h0 : z ≠ 0) : s = decide (z < 0) := by cases s <;> simp only [sg_false, sg_true] at h <;> simp <;> omega
theorem pos_bits (r : Nat) : decide (0 < bitsN r) = decide (0 < r) := by
  have := bits_zero_iff (n := r)
  by_cases h : 0 < r
  · rw [decide_eq_true h, decide_eq_true (by omega)]
  · rw [decide_eq_false h, decide_eq_false (by omega)]
set_option maxHeartbeats 1600000 in
set_option maxRecDepth 100000 in
theorem quo0_d {w : World} {a b : Value} {x y : Dy} (p dir : Int) (ha : Hid (DV w a x)) (hb : Hid (DV w b y)) (hy0 : y.z = 0) (hT : Hid (Tab6 w)) : Calls Tryz.prog 48 #[a, b, .int .i64 p, .int .i64 dir] w (QDPost ⟨0, 0⟩ false w) := by
    obtain ⟨s, A, k, c, rfl, hv⟩ := ha.out.form
    obtain ⟨t, B, l, d, rfl, hv'⟩ := hb.out.form
    have hk := (((KB.start w).new 59 [.bool s, .slice A k c, .int .i64 x.e]).new 59 [.bool t, .slice B l d, .int .i64 y.e]).new 59 [.bool false, .slice none 0 0, .int .i64 0]
    simp only [World.size_alloc] at hk
    have HX := Lib.hid (hv.only hk.only)
    have HY := Lib.hid (hv'.only hk.only)
    have HT := Lib.hid (hT.out.keep hk.only)
    have HK := Lib.hid hk
    clear hk hv hv' ha hb hT
    have HQ : Hid (y.z.sign = 0) := by show _ = _; rw [hy0]; rfl
    clear hy0
    go_enter Tryz.func48, Tryz.ntmps48
    go_wp2_with fail
    (with_reducible refine (signV_d 0 (DV.of HY) HQ.out).mono ?_)
    rintro e2 w2 ⟨rfl, ho⟩
    replace HK := Lib.hid (HK.out.step ho)
    obtain ⟨c0, c1', c2, f0, f1, f2⟩ := HK.out.c3 0 rfl
    clear ho
    go_wp2_with fail
    refine bodyPost_ret (v := .tuple #[.agg #[.bool false, .slice none 0 0, .int .i64 (0)], .bool false]) (by simp [results, Tryz.results48, go_sem, c0, c1', c2]) rfl ?_
    exact QDPost.of (dfin (x := ⟨0, 0⟩) ⟨by decide, by show 0 = (limbsOf 0).length; rw [limbsOf_zero]; rfl⟩ (IV.zero _) (by omega) (HK.out.blk 0 rfl) (noLimb3 _ _ _ _ _) HK.out.only (only_set3 _ _ _ _ _))
set_option maxHeartbeats 1600000 in
set_option maxRecDepth 100000 in
theorem quoz_d {w : World} {a b : Value} {x y : Dy} (p dir : Int) (ha : Hid (DV w a x)) (hb : Hid (DV w b y)) (hy0 : y.z ≠ 0) (hx0 : x.z = 0) (hT : Hid (Tab6 w)) : Calls Tryz.prog 48 #[a, b, .int .i64 p, .int .i64 dir] w (QDPost ⟨0, 0⟩ true w) := by
    obtain ⟨s, A, k, c, rfl, hv⟩ := ha.out.form
    obtain ⟨t, B, l, d, rfl, hv'⟩ := hb.out.form
    have hk := (((KB.start w).new 59 [.bool s, .slice A k c, .int .i64 x.e]).new 59 [.bool t, .slice B l d, .int .i64 y.e]).new 59 [.bool false, .slice none 0 0, .int .i64 0]
    simp only [World.size_alloc] at hk
    have HX := Lib.hid (hv.only hk.only)
    have HY := Lib.hid (hv'.only hk.only)
    have HT := Lib.hid (hT.out.keep hk.only)
    have HK := Lib.hid hk
    clear hk hv hv' ha hb hT
    have HP : Hid (x.z.sign = 0) := by show _ = _; rw [hx0]; rfl
    obtain ⟨q, hq, hq0⟩ := sign_ne hy0
    replace hq := Lib.hid hq
    clear hy0 hx0
    go_enter Tryz.func48, Tryz.ntmps48
    go_wp2_with fail
    (with_reducible refine (signV_d q (DV.of HY) hq.out).mono ?_)
    rintro e2 w2 ⟨rfl, ho⟩
    replace HK := Lib.hid (HK.out.step ho)
    replace HX := Lib.hid (HX.out.only ho)
    replace HY := Lib.hid (HY.out.only ho)
    obtain ⟨a0, a1, a2, -, -, -⟩ := HK.out.c3 2 rfl
    obtain ⟨b0, b1, b2, -, -, -⟩ := HK.out.c3 1 rfl
    clear ho
    go_wp2_with fail
    clear a0 a1 a2 b0 b1 b2
    (with_reducible refine (signV_d 0 (DV.of HX) HP.out).mono ?_)
    rintro e3 w3 ⟨rfl, ho⟩
    replace HK := Lib.hid (HK.out.step ho)
    obtain ⟨c0, c1', c2, f0, f1, f2⟩ := HK.out.c3 0 rfl
    clear ho
    go_wp2_with fail
    refine bodyPost_ret (v := .tuple #[.agg #[.bool false, .slice none 0 0, .int .i64 (0)], .bool true]) (by simp [results, Tryz.results48, go_sem, c0, c1', c2]) rfl ?_
    exact QDPost.of (dfin (x := ⟨0, 0⟩) ⟨by decide, by show 0 = (limbsOf 0).length; rw [limbsOf_zero]; rfl⟩ (IV.zero _) (by omega) (HK.out.blk 0 rfl) (noLimb3 _ _ _ _ _) HK.out.only (only_set3 _ _ _ _ _))

set_option maxHeartbeats 1600000 in
set_option maxRecDepth 100000 in
theorem quo_d {w : World} {a b : Value} {x y : Dy} {N : Nat} (p dir : Int) (ha : Hid (DV w a x)) (hb : Hid (DV w b y)) (hx : Hid (Bnd N x)) (hy : Hid (Bnd N y)) (hN : N ≤ 100000) (hx0 : x.z ≠ 0) (hy0 : y.z ≠ 0) (hT : Hid (Tab6 w)) : Calls Tryz.prog 48 #[a, b, .int .i64 p, .int .i64 dir] w (QDPost (quoD (widthP p) (decide (0 ≤ dir)) x y) true w) := by
    have hTT := hT
    obtain ⟨s, A, k, c, rfl, hv⟩ := ha.out.form
    obtain ⟨t, B, l, d, rfl, hv'⟩ := hb.out.form
    have hk := (((KB.start w).new 59 [.bool s, .slice A k c, .int .i64 x.e]).new 59 [.bool t, .slice B l d, .int .i64 y.e]).new 59 [.bool false, .slice none 0 0, .int .i64 0]
    simp only [World.size_alloc] at hk
    have HX := Lib.hid (hv.only hk.only)
    have HY := Lib.hid (hv'.only hk.only)
    have HT := Lib.hid (hT.out.keep hk.only)
    have HK := Lib.hid hk
    clear hk hv hv' ha hb hT
    have hT := hTT
    have hsx := sign_dec HX.out.sign hx0
    have hsy := sign_dec HY.out.sign hy0
    obtain ⟨p0, hp, hp0⟩ := sign_ne hx0
    obtain ⟨q0, hq, hq0⟩ := sign_ne hy0
    have HPS := Lib.hid hp
    have HQ := Lib.hid hq
    have hpr := widthP_range p
    obtain ⟨P, hP⟩ : ∃ P, widthP p = P := ⟨_, rfl⟩
    have HP := Lib.hid hP
    rw [hP] at hpr ⊢
    have hxe1 := hx.out.lo
    have hxe2 := hx.out.hi
    have hye1 := hy.out.lo
    have hye2 := hy.out.hi
    have hbx := bitsN_le hx.out.z
    have hby := bitsN_le hy.out.z
    have hX0 : x.z.natAbs ≠ 0 := by omega
    have hY0 : y.z.natAbs ≠ 0 := by omega
    have hXl := hx.out.z
    have HY0 : Hid (decide (y.z.natAbs ≠ 0) = true) := decide_eq_true hY0
    have HYZ : Hid (y.z.natAbs ≠ 0) := hY0
    obtain ⟨bx, hbx0⟩ : ∃ b, bitsN x.z.natAbs = b := ⟨_, rfl⟩
    obtain ⟨by_, hby0⟩ : ∃ b, bitsN y.z.natAbs = b := ⟨_, rfl⟩
    have HBX := Lib.hid hbx0
    have HBY := Lib.hid hby0
    have hqs : quoS P x.z.natAbs y.z.natAbs = (P : Int) + 2 - (bx : Int) + (by_ : Int) := by unfold quoS; rw [hbx0, hby0]
    have hqd : quoD P (decide (0 ≤ dir)) x y = betD P (decide (0 ≤ dir)) (!(s == t)) (shN x.z.natAbs (quoS P x.z.natAbs y.z.natAbs) / y.z.natAbs) (x.e - y.e - quoS P x.z.natAbs y.z.natAbs) (cutB x.z.natAbs (quoS P x.z.natAbs y.z.natAbs) || decide (0 < shN x.z.natAbs (quoS P x.z.natAbs y.z.natAbs) % y.z.natAbs)) := by rw [hsx, hsy]; rfl
    rw [hqd]
    have hsh := sh_lt (K := 2 * N + P + 2) (n := quoS P x.z.natAbs y.z.natAbs) hXl (by omega) (by omega)
    rw [hbx0] at hbx
    rw [hby0] at hby
    have HQL : Hid (shN x.z.natAbs (quoS P x.z.natAbs y.z.natAbs) / y.z.natAbs < 2 ^ (2 * N + P + 2)) := Nat.lt_of_le_of_lt (Nat.div_le_self _ _) hsh
    have hfx : Few (shN x.z.natAbs (quoS P x.z.natAbs y.z.natAbs)) := few_two_pow hsh (by omega)
    clear hsx hsy hqd hsh hXl hX0 hY0 hx0 hy0 hp hq hP hbx0 hby0
    obtain ⟨n, hn⟩ : ∃ n, quoS P x.z.natAbs y.z.natAbs = n := ⟨_, rfl⟩
    rw [hn] at hqs HQL hfx ⊢
    clear hn
    have hP1 : (P : Int) ≤ 65536 := by omega
    have hN1 : (N : Int) ≤ 100000 := by omega
    have hbx1 : (bx : Int) ≤ (N : Int) := by omega
    have hby1 : (by_ : Int) ≤ (N : Int) := by omega
    by_cases hn0 : 0 ≤ n
    · obtain ⟨k, hk⟩ : ∃ k : Nat, n = (k : Int) := ⟨n.toNat, by omega⟩
      subst hk
      have hsum : (P : Int) + 2 - (bx : Int) + (by_ : Int) = (k : Int) := hqs.symm
      have hk16 : (k : Int) ≤ 16777216 := by omega
      have hxx : x.z.natAbs * 2 ^ k = shN x.z.natAbs (k : Int) := by unfold shN; rw [if_pos (by omega)]; rfl
      have hcb : cutB x.z.natAbs (k : Int) = false := by unfold cutB; rw [decide_eq_false (by omega)]; rfl
      have HFX : Hid (Few (x.z.natAbs * 2 ^ k)) := by rw [hxx]; exact hfx
      have HXX := Lib.hid hxx
      rw [hcb, Bool.false_or]
      generalize shN x.z.natAbs (k : Int) = X at *
      clear hxx hcb hqs hn0 hfx hbx hby
      obtain ⟨r, hr⟩ : ∃ r, bitsN (X % y.z.natAbs) = r := ⟨_, rfl⟩
      obtain ⟨m, hm⟩ : ∃ m, decide (0 < r) = m := ⟨_, rfl⟩
      have hm2 : decide ((0 : Int) < (r : Int)) = m := by rw [← hm]; simp
      rw [show decide (0 < X % y.z.natAbs) = m by rw [← pos_bits, hr, hm]]
      have HBR := Lib.hid hr
      clear hr
      go_enter Tryz.func48, Tryz.ntmps48
      go_wp2_with fail
      (with_reducible refine (signV_d q0 (DV.of HY) HQ.out).mono ?_)
      rintro e2 w2 ⟨rfl, ho⟩
      replace HK := Lib.hid (HK.out.step ho)
      replace HX := Lib.hid (HX.out.only ho)
      replace HY := Lib.hid (HY.out.only ho)
      obtain ⟨a0, a1, a2, -, -, -⟩ := HK.out.c3 2 rfl
      obtain ⟨b0, b1, b2, -, -, -⟩ := HK.out.c3 1 rfl
      clear ho
      go_wp2_with fail
      clear a0 a1 a2 b0 b1 b2
      (with_reducible refine (signV_d p0 (DV.of HX) HPS.out).mono ?_)
      rintro e2 w2 ⟨rfl, ho⟩
      replace HK := Lib.hid (HK.out.step ho)
      have HMX := Lib.hid (HX.out.mag.only ho)
      have HMY := Lib.hid (HY.out.mag.only ho)
      clear ho HX HY HT
      go_upto_region 5 with fail
      apply wp_region_typed2 (by kernel_rfl) [isV _, isV _, isV _, isV _, isV _, isV _, isV _, isV _] [[], [0], [1], [], [3], [4], [2], [5]] (by kernel_rfl) (by kernel_rfl)
      case ho =>
        refine owes2_cons (fun wx hox => ?_) ?_
        · skip
          skip
          refine withs_plain rfl ?_
          simp only [withs, List.getElem?_cons_zero, List.getElem?_cons_succ, Option.bind, Option.getD]
          repeat (with_reducible refine all_isV ?_)
          go_simp
          exact ⟨Only.refl _ _, isV.self _ _⟩
        refine owes2_cons (fun wx hox => ?_) ?_
        · skip
          skip
          refine withs_plain rfl ?_
          simp only [withs, List.getElem?_cons_zero, List.getElem?_cons_succ, Option.bind, Option.getD]
          repeat (with_reducible refine all_isV ?_)
          go_simp
          exact ⟨Only.refl _ _, isV.self _ _⟩
        refine owes2_cons (fun wx hox => ?_) ?_
        · skip
          have hk := HK.out.step hox
          obtain ⟨a0, a1, a2, -, -, -⟩ := hk.c3 2 rfl
          obtain ⟨b0, b1, b2, -, -, -⟩ := hk.c3 1 rfl
          clear hk
          refine withs_plain rfl ?_
          simp only [withs, List.getElem?_cons_zero, List.getElem?_cons_succ, Option.bind, Option.getD]
          repeat (with_reducible refine all_isV ?_)
          go_simp
          exact ⟨Only.refl _ _, isV.self _ _⟩
        refine owes2_cons (fun wx hox => ?_) ?_
        · skip
          skip
          refine withs_plain rfl ?_
          simp only [withs, List.getElem?_cons_zero, List.getElem?_cons_succ, Option.bind, Option.getD]
          repeat (with_reducible refine all_isV ?_)
          go_simp
          exact ⟨Only.refl _ _, isV.self _ _⟩
        refine owes2_cons (fun wx hox => ?_) ?_
        · skip
          skip
          refine withs_plain rfl ?_
          simp only [withs, List.getElem?_cons_zero, List.getElem?_cons_succ, Option.bind, Option.getD]
          repeat (with_reducible refine all_isV ?_)
          go_simp
          exact ⟨Only.refl _ _, isV.self _ _⟩
        refine owes2_cons (fun wx hox => ?_) ?_
        · skip
          have hk := HK.out.step hox
          obtain ⟨a0, a1, a2, -, -, -⟩ := hk.c3 2 rfl
          obtain ⟨b0, b1, b2, -, -, -⟩ := hk.c3 1 rfl
          clear hk
          refine withs_plain rfl ?_
          simp only [withs, List.getElem?_cons_zero, List.getElem?_cons_succ, Option.bind, Option.getD]
          repeat (with_reducible refine all_isV ?_)
          go_simp
          exact ⟨Only.refl _ _, isV.self _ _⟩
        refine owes2_cons (fun wx hox => ?_) ?_
        · skip
          skip
          refine withs_plain rfl ?_
          simp only [withs, List.getElem?_cons_zero, List.getElem?_cons_succ, Option.bind, Option.getD]
          repeat (with_reducible refine all_isV ?_)
          go_simp
          exact ⟨Only.refl _ _, isV.self _ _⟩
        refine owes2_cons (fun wx hox => ?_) ?_
        · skip
          skip
          refine withs_plain rfl ?_
          simp only [withs, List.getElem?_cons_zero, List.getElem?_cons_succ, Option.bind, Option.getD]
          repeat (with_reducible refine all_isV ?_)
          go_simp
          exact ⟨Only.refl _ _, isV.self _ _⟩
        exact owes2_nil
      case he =>
        intro wx hox
        refine withs_of (by simp only [List.length, List.range, List.range.loop]; exact rfl) ?_
        simp only [withs, List.getElem?_cons_zero, List.getElem?_cons_succ, Option.bind, Option.getD]
        repeat (with_reducible refine all_isV ?_)
        go_simp
        replace HK := Lib.hid (HK.out.step hox)
        replace HMX := Lib.hid (HMX.out.only hox)
        replace HMY := Lib.hid (HMY.out.only hox)
        clear hox
        obtain ⟨a0, a1, a2, -, -, -⟩ := HK.out.c3 2 rfl
        obtain ⟨b0, b1, b2, -, -, -⟩ := HK.out.c3 1 rfl
        go_wp2_with fail
        (with_reducible refine (width_any p _).mono ?_)
        rintro e4 w4 ⟨rfl, rfl⟩
        rw [HP.out]
        go_wp2_with fail
        (with_reducible refine (bits_v HMX).mono ?_)
        rintro e5 w5 ⟨rfl, rfl⟩
        rw [HBX.out]
        go_wp2_with fail
        (with_reducible refine (bits_v HMY).mono ?_)
        rintro e6 w6 ⟨rfl, rfl⟩
        rw [HBY.out]
        clear a0 a1 a2 b0 b1 b2
        go_wp2_with fail
        (with_reducible refine (left_d k hk16 HMX HFX).mono ?_)
        rintro e7 w7 ⟨A7, k7, c7, rfl, -, hv7, ho⟩
        rw [HXX.out] at hv7
        replace HK := Lib.hid (HK.out.step ho)
        replace HMY := Lib.hid (HMY.out.only ho)
        have HMX := Lib.hid hv7
        clear hv7 ho
        go_wp2_with fail
        (with_reducible refine (divMod_v HMX HMY).mono ?_)
        rintro e8 w8 ⟨A8, k8, c8, A9, k9, c9, _, _, rfl, rfl, rfl, -, -, hq8, hr8, -, ho⟩
        rw [HY0.out]
        rw [if_neg HYZ.out] at hr8
        replace HK := Lib.hid (HK.out.step ho)
        have HMQ := Lib.hid hq8
        have HMR := Lib.hid hr8
        have HT8 := Lib.hid (hT.out.keep HK.out.only)
        obtain ⟨a0, a1, a2, -, -, -⟩ := HK.out.c3 2 rfl
        obtain ⟨b0, b1, b2, -, -, -⟩ := HK.out.c3 1 rfl
        clear hq8 hr8 ho HMX HMY
        go_wp2_with fail
        (with_reducible refine (bits_v HMR).mono ?_)
        rintro e10 w10 ⟨rfl, rfl⟩
        rw [HBR.out]
        go_wp2_with fail
        (with_reducible refine (bet_d (K := 2 * N + P + 2) (L := 3 * N + P + 2) (!(s == t)) m _ p dir HMQ HQL ?_ ?_ (by omega) HT8).mono ?_)
        · omega
        · omega
        rintro e9 w9 ⟨s9, A10, k10, c10, rfl, hs9, hk9, hv9, ho⟩
        rw [HP.out] at hs9 hk9 hv9 ⊢
        replace HK := Lib.hid (HK.out.step ho)
        have HC := Lib.hid (⟨hs9, hk9⟩ : Cn s9 k10 _)
        have HV := Lib.hid hv9
        obtain ⟨c0, c1', c2, f0, f1, f2⟩ := HK.out.c3 0 rfl
        clear hv9 hs9 hk9 ho HMQ HT8 a0 a1 a2 b0 b1 b2
        generalize betD P (decide (0 ≤ dir)) (!(s == t)) _ _ _ = r at *
        go_wp2_with fail
        refine bodyPost_ret (v := .tuple #[.agg #[.bool s9, .slice A10 k10 c10, .int .i64 (r.e)], .bool true]) (by simp [results, Tryz.results48, go_sem, c0, c1', c2]) rfl ?_
        exact QDPost.of (dfin HC HV (by omega) (HK.out.blk 0 rfl) (noLimb3 _ _ _ _ _) HK.out.only (only_set3 _ _ _ _ _))
      case hl =>
        repeat (refine List.forall_mem_cons.2 ⟨?_, ?_⟩; exact isV.lasts _)
        exact fun _ h => (by cases h)
    · obtain ⟨k, hk⟩ : ∃ k : Nat, n = -(k : Int) := ⟨(-n).toNat, by omega⟩
      subst hk
      have hk0 : (0 : Int) < (k : Int) := by omega
      have hk1 : 0 < k := by omega
      have hk2 : ¬ k = 0 := by omega
      have hk4 : decide ((0 : Int) ≤ -(k : Int)) = false := decide_eq_false (by omega)
      have hsum : (P : Int) + 2 - (bx : Int) + (by_ : Int) = -(k : Int) := hqs.symm
      have hk16 : (k : Int) ≤ 16777216 := by omega
      have hxx : x.z.natAbs / 2 ^ k = shN x.z.natAbs (-(k : Int)) := by unfold shN; rw [if_neg (by omega)]; simp
      obtain ⟨l, hl⟩ : ∃ l, lowN x.z.natAbs = l := ⟨_, rfl⟩
      have hcb : cutB x.z.natAbs (-(k : Int)) = decide (l < k) := by unfold cutB; rw [decide_eq_true (by omega), hl]; simp
      have HXX := Lib.hid hxx
      have HLW := Lib.hid hl
      rw [hcb, show x.e - y.e - -(k : Int) = x.e - y.e + (k : Int) by omega]
      generalize shN x.z.natAbs (-(k : Int)) = X at *
      clear hxx hcb hqs hn0 hfx hbx hby hl
      by_cases hlk : l < k
      · rw [decide_eq_true hlk, Bool.true_or]
        have hl1 : decide ((l : Int) < (k : Int)) = true := decide_eq_true (by omega)
        go_enter Tryz.func48, Tryz.ntmps48
        go_wp2_with fail
        (with_reducible refine (signV_d q0 (DV.of HY) HQ.out).mono ?_)
        rintro e2 w2 ⟨rfl, ho⟩
        replace HK := Lib.hid (HK.out.step ho)
        replace HX := Lib.hid (HX.out.only ho)
        replace HY := Lib.hid (HY.out.only ho)
        obtain ⟨a0, a1, a2, -, -, -⟩ := HK.out.c3 2 rfl
        obtain ⟨b0, b1, b2, -, -, -⟩ := HK.out.c3 1 rfl
        clear ho
        go_wp2_with fail
        clear a0 a1 a2 b0 b1 b2
        (with_reducible refine (signV_d p0 (DV.of HX) HPS.out).mono ?_)
        rintro e2 w2 ⟨rfl, ho⟩
        replace HK := Lib.hid (HK.out.step ho)
        have HMX := Lib.hid (HX.out.mag.only ho)
        have HMY := Lib.hid (HY.out.mag.only ho)
        clear ho HX HY HT
        go_upto_region 5 with fail
        apply wp_region_typed2 (by kernel_rfl) [isV _, isV _, isV _, isV _, isV _, isV _, isV _, isV _] [[], [0], [1], [], [3], [4], [2], [5]] (by kernel_rfl) (by kernel_rfl)
        case ho =>
          refine owes2_cons (fun wx hox => ?_) ?_
          · skip
            skip
            refine withs_plain rfl ?_
            simp only [withs, List.getElem?_cons_zero, List.getElem?_cons_succ, Option.bind, Option.getD]
            repeat (with_reducible refine all_isV ?_)
            go_simp
            exact ⟨Only.refl _ _, isV.self _ _⟩
          refine owes2_cons (fun wx hox => ?_) ?_
          · skip
            skip
            refine withs_plain rfl ?_
            simp only [withs, List.getElem?_cons_zero, List.getElem?_cons_succ, Option.bind, Option.getD]
            repeat (with_reducible refine all_isV ?_)
            go_simp
            exact ⟨Only.refl _ _, isV.self _ _⟩
          refine owes2_cons (fun wx hox => ?_) ?_
          · skip
            have hk := HK.out.step hox
            obtain ⟨a0, a1, a2, -, -, -⟩ := hk.c3 2 rfl
            obtain ⟨b0, b1, b2, -, -, -⟩ := hk.c3 1 rfl
            clear hk
            refine withs_plain rfl ?_
            simp only [withs, List.getElem?_cons_zero, List.getElem?_cons_succ, Option.bind, Option.getD]
            repeat (with_reducible refine all_isV ?_)
            go_simp
            exact ⟨Only.refl _ _, isV.self _ _⟩
          refine owes2_cons (fun wx hox => ?_) ?_
          · skip
            skip
            refine withs_plain rfl ?_
            simp only [withs, List.getElem?_cons_zero, List.getElem?_cons_succ, Option.bind, Option.getD]
            repeat (with_reducible refine all_isV ?_)
            go_simp
            exact ⟨Only.refl _ _, isV.self _ _⟩
          refine owes2_cons (fun wx hox => ?_) ?_
          · skip
            skip
            refine withs_plain rfl ?_
            simp only [withs, List.getElem?_cons_zero, List.getElem?_cons_succ, Option.bind, Option.getD]
            repeat (with_reducible refine all_isV ?_)
            go_simp
            exact ⟨Only.refl _ _, isV.self _ _⟩
          refine owes2_cons (fun wx hox => ?_) ?_
          · skip
            have hk := HK.out.step hox
            obtain ⟨a0, a1, a2, -, -, -⟩ := hk.c3 2 rfl
            obtain ⟨b0, b1, b2, -, -, -⟩ := hk.c3 1 rfl
            clear hk
            refine withs_plain rfl ?_
            simp only [withs, List.getElem?_cons_zero, List.getElem?_cons_succ, Option.bind, Option.getD]
            repeat (with_reducible refine all_isV ?_)
            go_simp
            exact ⟨Only.refl _ _, isV.self _ _⟩
          refine owes2_cons (fun wx hox => ?_) ?_
          · skip
            skip
            refine withs_plain rfl ?_
            simp only [withs, List.getElem?_cons_zero, List.getElem?_cons_succ, Option.bind, Option.getD]
            repeat (with_reducible refine all_isV ?_)
            go_simp
            exact ⟨Only.refl _ _, isV.self _ _⟩
          refine owes2_cons (fun wx hox => ?_) ?_
          · skip
            skip
            refine withs_plain rfl ?_
            simp only [withs, List.getElem?_cons_zero, List.getElem?_cons_succ, Option.bind, Option.getD]
            repeat (with_reducible refine all_isV ?_)
            go_simp
            exact ⟨Only.refl _ _, isV.self _ _⟩
          exact owes2_nil
        case he =>
          intro wx hox
          refine withs_of (by simp only [List.length, List.range, List.range.loop]; exact rfl) ?_
          simp only [withs, List.getElem?_cons_zero, List.getElem?_cons_succ, Option.bind, Option.getD]
          repeat (with_reducible refine all_isV ?_)
          go_simp
          replace HK := Lib.hid (HK.out.step hox)
          replace HMX := Lib.hid (HMX.out.only hox)
          replace HMY := Lib.hid (HMY.out.only hox)
          clear hox
          obtain ⟨a0, a1, a2, -, -, -⟩ := HK.out.c3 2 rfl
          obtain ⟨b0, b1, b2, -, -, -⟩ := HK.out.c3 1 rfl
          go_wp2_with fail
          (with_reducible refine (width_any p _).mono ?_)
          rintro e4 w4 ⟨rfl, rfl⟩
          rw [HP.out]
          go_wp2_with fail
          (with_reducible refine (bits_v HMX).mono ?_)
          rintro e5 w5 ⟨rfl, rfl⟩
          rw [HBX.out]
          go_wp2_with fail
          (with_reducible refine (bits_v HMY).mono ?_)
          rintro e6 w6 ⟨rfl, rfl⟩
          rw [HBY.out]
          clear a0 a1 a2 b0 b1 b2
          go_wp2_with fail
          (with_reducible refine (low_v HMX (Lib.hid (hT.out.keep HK.out.only))).mono ?_)
          rintro e10 w10 ⟨rfl, rfl⟩
          rw [HLW.out]
          go_wp2_with fail
          (with_reducible refine (right_d k hk16 HMX).mono ?_)
          rintro e7 w7 ⟨A7, k7, c7, rfl, -, hv7, ho⟩
          rw [HXX.out] at hv7
          replace HK := Lib.hid (HK.out.step ho)
          replace HMY := Lib.hid (HMY.out.only ho)
          have HMX := Lib.hid hv7
          clear hv7 ho
          go_wp2_with fail
          (with_reducible refine (divMod_v HMX HMY).mono ?_)
          rintro e8 w8 ⟨A8, k8, c8, A9, k9, c9, _, _, rfl, rfl, rfl, -, -, hq8, hr8, -, ho⟩
          rw [HY0.out]
          rw [if_neg HYZ.out] at hr8
          replace HK := Lib.hid (HK.out.step ho)
          have HMQ := Lib.hid hq8
          have HMR := Lib.hid hr8
          have HT8 := Lib.hid (hT.out.keep HK.out.only)
          obtain ⟨a0, a1, a2, -, -, -⟩ := HK.out.c3 2 rfl
          obtain ⟨b0, b1, b2, -, -, -⟩ := HK.out.c3 1 rfl
          clear hq8 hr8 ho HMX HMY
          go_wp2_with fail
          (with_reducible refine (bet_d (K := 2 * N + P + 2) (L := 3 * N + P + 2) (!(s == t)) true _ p dir HMQ HQL ?_ ?_ (by omega) HT8).mono ?_)
          · omega
          · omega
          rintro e9 w9 ⟨s9, A10, k10, c10, rfl, hs9, hk9, hv9, ho⟩
          rw [HP.out] at hs9 hk9 hv9 ⊢
          replace HK := Lib.hid (HK.out.step ho)
          have HC := Lib.hid (⟨hs9, hk9⟩ : Cn s9 k10 _)
          have HV := Lib.hid hv9
          obtain ⟨c0, c1', c2, f0, f1, f2⟩ := HK.out.c3 0 rfl
          clear hv9 hs9 hk9 ho HMQ HT8 a0 a1 a2 b0 b1 b2
          generalize betD P (decide (0 ≤ dir)) (!(s == t)) _ _ _ = r at *
          go_wp2_with fail
          refine bodyPost_ret (v := .tuple #[.agg #[.bool s9, .slice A10 k10 c10, .int .i64 (r.e)], .bool true]) (by simp [results, Tryz.results48, go_sem, c0, c1', c2]) rfl ?_
          exact QDPost.of (dfin HC HV (by omega) (HK.out.blk 0 rfl) (noLimb3 _ _ _ _ _) HK.out.only (only_set3 _ _ _ _ _))
        case hl =>
          repeat (refine List.forall_mem_cons.2 ⟨?_, ?_⟩; exact isV.lasts _)
          exact fun _ h => (by cases h)
      · rw [decide_eq_false hlk, Bool.false_or]
        have hl1 : decide ((l : Int) < (k : Int)) = false := decide_eq_false (by omega)
        obtain ⟨r, hr⟩ : ∃ r, bitsN (X % y.z.natAbs) = r := ⟨_, rfl⟩
        obtain ⟨m, hm⟩ : ∃ m, decide (0 < r) = m := ⟨_, rfl⟩
        have hm2 : decide ((0 : Int) < (r : Int)) = m := by rw [← hm]; simp
        rw [show decide (0 < X % y.z.natAbs) = m by rw [← pos_bits, hr, hm]]
        have HBR := Lib.hid hr
        clear hr
        go_enter Tryz.func48, Tryz.ntmps48
        go_wp2_with fail
        (with_reducible refine (signV_d q0 (DV.of HY) HQ.out).mono ?_)
        rintro e2 w2 ⟨rfl, ho⟩
        replace HK := Lib.hid (HK.out.step ho)
        replace HX := Lib.hid (HX.out.only ho)
        replace HY := Lib.hid (HY.out.only ho)
        obtain ⟨a0, a1, a2, -, -, -⟩ := HK.out.c3 2 rfl
        obtain ⟨b0, b1, b2, -, -, -⟩ := HK.out.c3 1 rfl
        clear ho
        go_wp2_with fail
        clear a0 a1 a2 b0 b1 b2
        (with_reducible refine (signV_d p0 (DV.of HX) HPS.out).mono ?_)
        rintro e2 w2 ⟨rfl, ho⟩
        replace HK := Lib.hid (HK.out.step ho)
        have HMX := Lib.hid (HX.out.mag.only ho)
        have HMY := Lib.hid (HY.out.mag.only ho)
        clear ho HX HY HT
        go_upto_region 5 with fail
        apply wp_region_typed2 (by kernel_rfl) [isV _, isV _, isV _, isV _, isV _, isV _, isV _, isV _] [[], [0], [1], [], [3], [4], [2], [5]] (by kernel_rfl) (by kernel_rfl)
        case ho =>
          refine owes2_cons (fun wx hox => ?_) ?_
          · skip
            skip
            refine withs_plain rfl ?_
            simp only [withs, List.getElem?_cons_zero, List.getElem?_cons_succ, Option.bind, Option.getD]
            repeat (with_reducible refine all_isV ?_)
            go_simp
            exact ⟨Only.refl _ _, isV.self _ _⟩
          refine owes2_cons (fun wx hox => ?_) ?_
          · skip
            skip
            refine withs_plain rfl ?_
            simp only [withs, List.getElem?_cons_zero, List.getElem?_cons_succ, Option.bind, Option.getD]
            repeat (with_reducible refine all_isV ?_)
            go_simp
            exact ⟨Only.refl _ _, isV.self _ _⟩
          refine owes2_cons (fun wx hox => ?_) ?_
          · skip
            have hk := HK.out.step hox
            obtain ⟨a0, a1, a2, -, -, -⟩ := hk.c3 2 rfl
            obtain ⟨b0, b1, b2, -, -, -⟩ := hk.c3 1 rfl
            clear hk
            refine withs_plain rfl ?_
            simp only [withs, List.getElem?_cons_zero, List.getElem?_cons_succ, Option.bind, Option.getD]
            repeat (with_reducible refine all_isV ?_)
            go_simp
            exact ⟨Only.refl _ _, isV.self _ _⟩
          refine owes2_cons (fun wx hox => ?_) ?_
          · skip
            skip
            refine withs_plain rfl ?_
            simp only [withs, List.getElem?_cons_zero, List.getElem?_cons_succ, Option.bind, Option.getD]
            repeat (with_reducible refine all_isV ?_)
            go_simp
            exact ⟨Only.refl _ _, isV.self _ _⟩
          refine owes2_cons (fun wx hox => ?_) ?_
          · skip
            skip
            refine withs_plain rfl ?_
            simp only [withs, List.getElem?_cons_zero, List.getElem?_cons_succ, Option.bind, Option.getD]
            repeat (with_reducible refine all_isV ?_)
            go_simp
            exact ⟨Only.refl _ _, isV.self _ _⟩
          refine owes2_cons (fun wx hox => ?_) ?_
          · skip
            have hk := HK.out.step hox
            obtain ⟨a0, a1, a2, -, -, -⟩ := hk.c3 2 rfl
            obtain ⟨b0, b1, b2, -, -, -⟩ := hk.c3 1 rfl
            clear hk
            refine withs_plain rfl ?_
            simp only [withs, List.getElem?_cons_zero, List.getElem?_cons_succ, Option.bind, Option.getD]
            repeat (with_reducible refine all_isV ?_)
            go_simp
            exact ⟨Only.refl _ _, isV.self _ _⟩
          refine owes2_cons (fun wx hox => ?_) ?_
          · skip
            skip
            refine withs_plain rfl ?_
            simp only [withs, List.getElem?_cons_zero, List.getElem?_cons_succ, Option.bind, Option.getD]
            repeat (with_reducible refine all_isV ?_)
            go_simp
            exact ⟨Only.refl _ _, isV.self _ _⟩
          refine owes2_cons (fun wx hox => ?_) ?_
          · skip
            skip
            refine withs_plain rfl ?_
            simp only [withs, List.getElem?_cons_zero, List.getElem?_cons_succ, Option.bind, Option.getD]
            repeat (with_reducible refine all_isV ?_)
            go_simp
            exact ⟨Only.refl _ _, isV.self _ _⟩
          exact owes2_nil
        case he =>
          intro wx hox
          refine withs_of (by simp only [List.length, List.range, List.range.loop]; exact rfl) ?_
          simp only [withs, List.getElem?_cons_zero, List.getElem?_cons_succ, Option.bind, Option.getD]
          repeat (with_reducible refine all_isV ?_)
          go_simp
          replace HK := Lib.hid (HK.out.step hox)
          replace HMX := Lib.hid (HMX.out.only hox)
          replace HMY := Lib.hid (HMY.out.only hox)
          clear hox
          obtain ⟨a0, a1, a2, -, -, -⟩ := HK.out.c3 2 rfl
          obtain ⟨b0, b1, b2, -, -, -⟩ := HK.out.c3 1 rfl
          go_wp2_with fail
          (with_reducible refine (width_any p _).mono ?_)
          rintro e4 w4 ⟨rfl, rfl⟩
          rw [HP.out]
          go_wp2_with fail
          (with_reducible refine (bits_v HMX).mono ?_)
          rintro e5 w5 ⟨rfl, rfl⟩
          rw [HBX.out]
          go_wp2_with fail
          (with_reducible refine (bits_v HMY).mono ?_)
          rintro e6 w6 ⟨rfl, rfl⟩
          rw [HBY.out]
          clear a0 a1 a2 b0 b1 b2
          go_wp2_with fail
          (with_reducible refine (low_v HMX (Lib.hid (hT.out.keep HK.out.only))).mono ?_)
          rintro e10 w10 ⟨rfl, rfl⟩
          rw [HLW.out]
          go_wp2_with fail
          (with_reducible refine (right_d k hk16 HMX).mono ?_)
          rintro e7 w7 ⟨A7, k7, c7, rfl, -, hv7, ho⟩
          rw [HXX.out] at hv7
          replace HK := Lib.hid (HK.out.step ho)
          replace HMY := Lib.hid (HMY.out.only ho)
          have HMX := Lib.hid hv7
          clear hv7 ho
          go_wp2_with fail
          (with_reducible refine (divMod_v HMX HMY).mono ?_)
          rintro e8 w8 ⟨A8, k8, c8, A9, k9, c9, _, _, rfl, rfl, rfl, -, -, hq8, hr8, -, ho⟩
          rw [HY0.out]
          rw [if_neg HYZ.out] at hr8
          replace HK := Lib.hid (HK.out.step ho)
          have HMQ := Lib.hid hq8
          have HMR := Lib.hid hr8
          have HT8 := Lib.hid (hT.out.keep HK.out.only)
          obtain ⟨a0, a1, a2, -, -, -⟩ := HK.out.c3 2 rfl
          obtain ⟨b0, b1, b2, -, -, -⟩ := HK.out.c3 1 rfl
          clear hq8 hr8 ho HMX HMY
          go_wp2_with fail
          (with_reducible refine (bits_v HMR).mono ?_)
          rintro e10 w10 ⟨rfl, rfl⟩
          rw [HBR.out]
          go_wp2_with fail
          (with_reducible refine (bet_d (K := 2 * N + P + 2) (L := 3 * N + P + 2) (!(s == t)) m _ p dir HMQ HQL ?_ ?_ (by omega) HT8).mono ?_)
          · omega
          · omega
          rintro e9 w9 ⟨s9, A10, k10, c10, rfl, hs9, hk9, hv9, ho⟩
          rw [HP.out] at hs9 hk9 hv9 ⊢
          replace HK := Lib.hid (HK.out.step ho)
          have HC := Lib.hid (⟨hs9, hk9⟩ : Cn s9 k10 _)
          have HV := Lib.hid hv9
          obtain ⟨c0, c1', c2, f0, f1, f2⟩ := HK.out.c3 0 rfl
          clear hv9 hs9 hk9 ho HMQ HT8 a0 a1 a2 b0 b1 b2
          generalize betD P (decide (0 ≤ dir)) (!(s == t)) _ _ _ = r at *
          go_wp2_with fail
          refine bodyPost_ret (v := .tuple #[.agg #[.bool s9, .slice A10 k10 c10, .int .i64 (r.e)], .bool true]) (by simp [results, Tryz.results48, go_sem, c0, c1', c2]) rfl ?_
          exact QDPost.of (dfin HC HV (by omega) (HK.out.blk 0 rfl) (noLimb3 _ _ _ _ _) HK.out.only (only_set3 _ _ _ _ _))
        case hl =>
          repeat (refine List.forall_mem_cons.2 ⟨?_, ?_⟩; exact isV.lasts _)
          exact fun _ h => (by cases h)

end Go.Proofs.YtkibkmdgibemkaaGreatDoor
