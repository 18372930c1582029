/-
  The reference's numbers: Small, Mul.
-/
import Derived.Test.YtcknigodcjjahaaDoorRefC
import Derived.IntWalk
namespace Go.Proofs.YtcknigodcjjahaaDoor
open Go.RowKit

set_option maxRecDepth 100000 in
/-- make([]T, n), of limbs. -/
theorem make_limbs (T : TypeId) (hT : Tryd.prog.underlying T = some (.slice 59)) (w : World) (n : Nat) (hn : (n : Int) ≤ 16000000) : ∃ w', (Instr.makeSlice T (.int .i64 (n : Int)) (.int .i64 (n : Int))).run Tryd.prog w = .ok (.slice (some ⟨w.heap.size, 0, none⟩) n n) w' ∧
    Blk w' w.heap.size 59 (limbV (List.replicate n 0)) ∧ Only [] w w' ∧ w.heap.size < w'.heap.size := by
  obtain ⟨i0, hi, hz0, hz1, hz2⟩ := u64_parts
  obtain ⟨w', hr, ho, hg⟩ := run_make_full (P := Tryd.prog) w 0 T 59 i0 _ 1 hT hi hz0 hz1 .i64 .i64 n (by rw [hz2]; omega) (by simp only [maxLen]; omega) (Nat.zero_le _)
  refine ⟨w', hr, ?_, Only.of_grown hg (by simp), (World.ownsRow.lt ho _ rfl).2⟩
  rcases ho.2 with ⟨h0, _⟩ | ⟨g, cap, cur, e, _, hb, _, _, hs, ht⟩
  · cases h0
  · injection e with e1 e2 e3
    injection e1 with e1
    injection e1 with e1 _ _
    subst e1 e3
    unfold Blk
    rw [hb, limbV_zeros]
    congr 2
    apply Array.ext'
    rw [← List.take_of_length_le (l := cur.toList) (i := n * 1) (by simp [hs]), ht]
    have e : (Value.int IntKind.u64 0).cells = #[.int .u64 0] := rfl
    simp only [madeCells, e]
    simp [Nat.mod_one]
    apply List.ext_getElem <;> simp

/-- Two digits of a limb. -/
theorem RV.of_row {w : World} {A : Option Addr} {os : List Nat} (h : LRead w A os) (hl : R.Limb os) : LRead w A (R.limbsOf (R.val os)) := by
  have h2 := (R.limbsOf_take hl).1
  rw [← h2]
  exact h.take _
set_option maxRecDepth 100000 in
theorem rsmall_any (v : Nat) (w : World) (hv : Hid (v < BB)) : Calls Tryd.prog 39 #[.int .u64 (v : Int)] w (RPost v w) := by
  have hr1 : (v : Int) % 4294967296 = ((v % R.BB : Nat) : Int) := by rw [R.BB_val]; omega
  have hr2 : (v : Int) / 4294967296 = ((v / R.BB : Nat) : Int) := by rw [R.BB_val]; omega
  have hr3 : (v : Int).tmod 4294967296 = ((v % R.BB : Nat) : Int) := by rw [Int.tmod_eq_emod_of_nonneg (by omega)]; exact hr1
  have hr4 : (v : Int).tdiv 4294967296 = ((v / R.BB : Nat) : Int) := by rw [Int.tdiv_eq_ediv_of_nonneg (by omega)]; exact hr2
  have hw5 : IntKind.u64.wrap ((v / R.BB : Nat) : Int) = ((v / R.BB : Nat) : Int) := u64_wrap (Nat.lt_of_le_of_lt (Nat.div_le_self _ _) hv.out)
  have hw6 : IntKind.u64.wrap ((v % R.BB : Nat) : Int) = ((v % R.BB : Nat) : Int) := u64_wrap (Nat.lt_of_le_of_lt (Nat.mod_le _ _) hv.out)
  have HV : Hid (R.val [v % R.BB, v / R.BB] = v) := by
    show _ = _
    simp only [R.val, Nat.mul_zero, Nat.add_zero]
    exact Nat.mod_add_div _ _
  have HL : Hid (R.Limb [v % R.BB, v / R.BB]) := fun d hd => by
    have h := hv.out
    rw [R.bb_sq] at h
    rcases List.mem_cons.1 hd with rfl | hd
    · exact Nat.mod_lt _ R.BB_pos
    · rw [List.mem_singleton.1 hd]
      rwa [Nat.div_lt_iff_lt_mul R.BB_pos]
  generalize v % R.BB = d0 at *
  generalize v / R.BB = d1 at *
  have hb : Blk (w.alloc (Obj.cells #[.int .u64 (d0 : Int), .int .u64 (d1 : Int)] 59)) w.heap.size 59 (limbV [d0, d1]) := Blk.new w 59 (limbV [d0, d1])
  have HRd : Hid (LRead (w.alloc (Obj.cells #[.int .u64 (d0 : Int), .int .u64 (d1 : Int)] 59)) (some ⟨w.heap.size, 0, none⟩) [d0, d1]) := .of_blk hb
  have htr := rtrim_any (some ⟨w.heap.size, 0, none⟩) 2 2 [d0, d1] _ HRd HL (Lib.hid rfl) (Nat.le_refl _) (by omega)
  rw [HV.out] at htr
  have HTr := Lib.hid htr
  clear htr hb
  go_enter Tryd.func39, Tryd.ntmps39
  go_wp2_with fail
  refine HTr.out.mono ?_
  rintro e w' ⟨rfl, rfl⟩
  go_wp2_with fail
  go_ret
  have h2 := RV.of_row HRd.out HL.out
  rw [HV.out] at h2
  exact ⟨_, _, _, rfl, ⟨_, _, rfl, h2, Nat.le_refl _⟩, fun a ha => by injection ha with ha; subst ha; exact Nat.le_refl _, (Only.refl [] w).alloc _⟩

theorem R.step_law {zs : List Nat} {i lo hi p cy : Nat} (h : i < zs.length) (law : lo + R.BB * hi = zs[i]?.getD 0 + p + cy) : R.val (zs.set i lo) + R.BB ^ (i + 1) * hi = R.val zs + R.BB ^ i * cy + R.BB ^ i * p := by
  have h1 := R.val_set zs i lo h
  have h2 := congrArg (fun t => R.BB ^ i * t) law
  simp only [Nat.mul_add] at h2
  rw [Nat.pow_succ, Nat.mul_assoc]
  omega
/-- Where a row of a product stands. -/
structure QCar (w wr : World) (g : Nat) (L : Nat) (zs : List Nat) (i cy T m : Nat) : Prop where
  blk : Blk wr g 59 (limbV zs)
  limb : R.Limb zs
  len : zs.length = L
  cylt : cy < R.BB
  val_ : R.val zs + R.BB ^ i * cy = T
  high : ∀ k, m ≤ k → zs[k]?.getD 0 = 0
  only : Only [g] w wr
theorem QCar.step {w wr wd : World} {g L : Nat} {zs : List Nat} {i cy T m p s : Nat} (h : QCar w wr g L zs i cy T m) (hi : i < L) (him : i < m) (hs : s = zs[i]?.getD 0 + p + cy) (hb : s < R.BB * R.BB) (hd : Only [] wr wd) {T' : Nat} (hT : T' = T + R.BB ^ i * p) :
    QCar w (wd.setCell ⟨g, i, none⟩ (.int .u64 ((s % R.BB : Nat) : Int))) g L (zs.set i (s % R.BB)) (i + 1) (s / R.BB) T' m := by
  refine ⟨?_, h.limb.set _ _ (Nat.mod_lt _ R.BB_pos), by rw [List.length_set, h.len], by rwa [Nat.div_lt_iff_lt_mul R.BB_pos], ?_, fun k hk => ?_, (h.only.trans hd (by simp)).trans ((Only.refl [g] wd).setCell (.inl (by simp)) _) (by simp)⟩
  · rw [← limbV_set]
    exact (h.blk.only hd (by simp)).set_ i _
  · rw [R.step_law (p := p) (cy := cy) (by rw [h.len]; exact hi) (by rw [Nat.mod_add_div]; exact hs), hT, ← h.val_]
  · rw [set_get_ne (by omega)]
    exact h.high k hk
theorem QCar.close {w wr : World} {g L : Nat} {zs : List Nat} {i cy T : Nat} (h : QCar w wr g L zs i cy T i) (hi : i < L) :
    QCar w (wr.setCell ⟨g, i, none⟩ (.int .u64 (cy : Int))) g L (zs.set i cy) 0 0 T (i + 1) := by
  refine ⟨?_, h.limb.set _ _ h.cylt, by rw [List.length_set, h.len], R.BB_pos, ?_, fun k hk => ?_, h.only.trans ((Only.refl [g] wr).setCell (.inl (by simp)) _) (by simp)⟩
  · rw [← limbV_set]
    exact h.blk.set_ i _
  · have h1 := R.val_set zs i cy (by rw [h.len]; exact hi)
    rw [h.high i (Nat.le_refl _)] at h1
    have := h.val_
    omega
  · rw [set_get_ne (by omega)]
    exact h.high k (by omega)
theorem rprod_lt {x y z cy : Nat} (hx : x < R.BB) (hy : y < R.BB) (hz : z < R.BB) (hc : cy < R.BB) : z + x * y + cy < R.BB * R.BB := by
  obtain ⟨k, hk⟩ : ∃ k, R.BB = k + 1 := ⟨R.BB - 1, by have := R.BB_pos; omega⟩
  have h8 : x * y ≤ k * k := Nat.mul_le_mul (by omega) (by omega)
  have h9 : R.BB * R.BB = k * k + 2 * k + 1 := by rw [hk, Nat.add_mul, Nat.mul_add]; omega
  omega
theorem R.val_take_all (xs : List Nat) : xs.take xs.length = xs := List.take_of_length_le (Nat.le_refl _)

set_option maxHeartbeats 6400000 in
set_option maxRecDepth 100000 in
theorem rmul_any (A B : Option Addr) (n m c d : Nat) (xs ys : List Nat) (w : World) (hA : Hid (LRead w A xs)) (hB : Hid (LRead w B ys)) (hx : Hid (R.Limb xs)) (hy : Hid (R.Limb ys)) (hn : Hid (xs.length = n)) (hm : Hid (ys.length = m)) (hl : (n : Int) + m ≤ 7000000)
    (hAl : Hid (∀ a, A = some a → 0 < n → a.block < w.heap.size)) (hBl : Hid (∀ a, B = some a → 0 < m → a.block < w.heap.size)) :
    Calls Tryd.prog 24 #[.slice A n c, .slice B m d] w (RPost (R.val xs * R.val ys) w) := by
  obtain ⟨w1, hmk, hb1, ho1, hs1⟩ := make_limbs 25 Tryd.underlying25 w (n + m) (by omega)
  rw [show ((n + m : Nat) : Int) = (n : Int) + (m : Int) by omega] at hmk
  have HB1 := Lib.hid hb1
  have HO1 := Lib.hid ho1
  clear hb1 ho1 hs1
  generalize hg : w.heap.size = g at HB1 hmk hAl hBl
  have HG : Hid (w.heap.size ≤ g) := by show _ ≤ _; omega
  clear hg
  have HStart : Hid (QCar w1 w1 g (n + m) (List.replicate (n + m) 0) 0 0 (R.val (xs.take 0) * R.val ys) m) :=
    ⟨HB1.out, .zeros _, by simp, R.BB_pos, by rw [R.val_zeros]; simp [R.val], fun k _ => val_zero_of (val_zeros _) k, Only.refl _ _⟩
  go_enter Tryd.func24, Tryd.ntmps24
  go_wp2_with fail
  clear hmk HB1
  go_loopw [6] (fun iv wr => ∃ (i : Nat) (zs : List Nat), i ≤ n ∧ iv = .int .i64 (i : Int) ∧ QCar w1 wr g (n + m) zs 0 0 (R.val (xs.take i) * R.val ys) (i + m)) (fun iv _ => n - (intOf iv).toNat)
  case atStart => exact ⟨0, _, Nat.zero_le _, rfl, by rw [Nat.zero_add]; exact HStart.out⟩
  case round =>
    obtain ⟨i, zs, hi, rfl, hR⟩ := hrel
    have HR := Lib.hid hR
    clear hR HStart
    by_cases hlt : i < n
    · obtain ⟨b, o, rfl, hc⟩ := (hA.out.only HO1.out) i (by have := hn.out; omega)
      have HBg : Hid (b ≠ g) := by have := hAl.out _ rfl (by omega); simp only at this; show _ ≠ _; omega
      have HC := Lib.hid hc
      have hi' : (i : Int) < (n : Int) := by omega
      have HV := Lib.hid (hx.out.get i)
      have HT := Lib.hid (R.val_take_succ xs i (by have := hn.out; omega))
      obtain ⟨x, hgx⟩ : ∃ x, xs[i]?.getD 0 = x := ⟨_, rfl⟩
      rw [hgx] at HC HV HT
      clear hc hgx
      go_wp2_with fail
      have HStart2 : Hid (QCar w1 wr g (n + m) zs (i + 0) 0 (R.val (xs.take i) * R.val ys + R.BB ^ i * (x * R.val (ys.take 0))) (i + m)) := by
        have h := HR.out
        exact ⟨h.blk, h.limb, h.len, R.BB_pos, by have := h.val_; simp [R.val] at this ⊢; exact this, h.high, h.only⟩
      clear HR
      go_loopw [7, 8] (fun cv jv wq => ∃ (j cy : Nat) (zq : List Nat), j ≤ m ∧ jv = .int .i64 (j : Int) ∧ cv = .int .u64 (cy : Int) ∧ QCar w1 wq g (n + m) zq (i + j) cy (R.val (xs.take i) * R.val ys + R.BB ^ i * (x * R.val (ys.take j))) (i + m)) (fun _ jv _ => m - (intOf jv).toNat)
      case atStart => exact ⟨0, 0, zs, Nat.zero_le _, rfl, rfl, HStart2.out⟩
      case round =>
        obtain ⟨j, cy, zq, hj, rfl, rfl, hR⟩ := hrel
        have HR := Lib.hid hR
        clear hR HStart2
        by_cases hjt : j < m
        · obtain ⟨b', o', rfl, hc2⟩ := (hB.out.only HO1.out) j (by have := hm.out; omega)
          have hbg' : b' ≠ g := by have := hBl.out _ rfl (by omega); simp only at this; omega
          have c1 := HR.out.only.cell HC.out (by have := HBg.out; simpa using this)
          have c2 := HR.out.only.cell hc2 (by simpa using hbg')
          have hj' : (j : Int) < (m : Int) := by omega
          obtain ⟨p, hp⟩ : ∃ p, i + j = p := ⟨_, rfl⟩
          have hpi : (i : Int) + (j : Int) = (p : Int) := by omega
          have hpw : IntKind.i64.wrap ((i : Int) + (j : Int)) = (p : Int) := by rw [IntKind.wrap_i64]; omega
          have hpl : (p : Int) < (n : Int) + (m : Int) := by omega
          have c3 := HR.out.blk.cell p
          rw [limbV_get _ _ (by rw [HR.out.len]; omega)] at c3
          have f3 := HR.out.blk.frozen p
          have HY := Lib.hid (hy.out.get j)
          have HZ := Lib.hid (HR.out.limb.get p)
          have HPl := Lib.hid (rprod_lt HV.out HY.out HZ.out HR.out.cylt)
          have HStep : Hid (∀ wd s, Only [] wr wd → s = zq[p]?.getD 0 + x * (ys[j]?.getD 0) + cy → s < R.BB * R.BB → QCar w1 (wd.setCell ⟨g, p, none⟩ (.int .u64 ((s % R.BB : Nat) : Int))) g (n + m) (zq.set p (s % R.BB)) (p + 1) (s / R.BB) (R.val (xs.take i) * R.val ys + R.BB ^ i * (x * R.val (ys.take (j + 1)))) (i + m)) := fun wd s h1 h2 h3 => by
            have h := HR.out
            rw [hp] at h
            exact h.step (by omega) (by omega) h2 h3 h1 (by
              rw [R.val_take_succ ys j (by have := hm.out; omega), ← hp, Nat.mul_add, Nat.mul_add, Nat.pow_add]
              rw [show R.BB ^ i * (x * (R.BB ^ j * (ys[j]?.getD 0))) = R.BB ^ i * R.BB ^ j * (x * (ys[j]?.getD 0)) by rw [Nat.mul_left_comm x, Nat.mul_assoc]]
              omega)
          have HP := Lib.hid hp
          have HCy := Lib.hid HR.out.cylt
          generalize zq[p]?.getD 0 = z at c3 HStep HPl
          generalize ys[j]?.getD 0 = y at c2 HStep HPl
          obtain ⟨s0, hs0⟩ : ∃ s0, x * y = s0 := ⟨_, rfl⟩
          rw [hs0] at HStep HPl
          obtain ⟨s1, hs1⟩ : ∃ s1, z + s0 = s1 := ⟨_, rfl⟩
          obtain ⟨s, hs⟩ : ∃ s, s1 + cy = s := ⟨_, rfl⟩
          have hsb : s < BB := by have := HPl.out; rw [hs1, hs, ← R.bb_sq] at this; exact this
          have hw0 : IntKind.u64.wrap ((x : Int) * (y : Int)) = (s0 : Int) := by rw [← Int.natCast_mul, hs0]; exact u64_wrap (by omega)
          have hw1 : IntKind.u64.wrap ((z : Int) + (s0 : Int)) = (s1 : Int) := u64_add hs1 (by omega)
          have hw2 : IntKind.u64.wrap ((s1 : Int) + (cy : Int)) = (s : Int) := u64_add hs hsb
          have HSE : Hid (s = z + s0 + cy ∧ s < R.BB * R.BB) := ⟨by omega, by rw [← R.bb_sq]; exact hsb⟩
          have hr1 : (s : Int) % 4294967296 = ((s % R.BB : Nat) : Int) := by rw [R.BB_val]; omega
          have hr2 : (s : Int) / 4294967296 = ((s / R.BB : Nat) : Int) := by rw [R.BB_val]; omega
          have hr3 : (s : Int).tmod 4294967296 = ((s % R.BB : Nat) : Int) := by rw [Int.tmod_eq_emod_of_nonneg (by omega)]; exact hr1
          have hr4 : (s : Int).tdiv 4294967296 = ((s / R.BB : Nat) : Int) := by rw [Int.tdiv_eq_ediv_of_nonneg (by omega)]; exact hr2
          have hw5 : IntKind.u64.wrap ((s / R.BB : Nat) : Int) = ((s / R.BB : Nat) : Int) := u64_wrap (Nat.lt_of_le_of_lt (Nat.div_le_self _ _) hsb)
          have hw6 : IntKind.u64.wrap ((s % R.BB : Nat) : Int) = ((s % R.BB : Nat) : Int) := u64_wrap (Nat.lt_of_le_of_lt (Nat.mod_le _ _) hsb)
          have HS2 : Hid (∀ wd, Only [] wr wd → _) := fun wd hd => HStep.out wd s hd HSE.out.1 HSE.out.2
          have HBlk := Lib.hid HR.out.blk
          generalize s % R.BB = s2 at *
          generalize s / R.BB = s3 at *
          clear hc2 hs0 hs1 hs hsb hp HStep
          go_wp2_with fail
          go_quiet (fail)
          have HQ : Hid (Only [] wr (wr.drewN nq)) := (Only.refl [] wr).drewN nq
          have HS3 := Lib.hid (HS2.out _ HQ.out)
          clear hpw hw0 hw1 hw2
          go_wp2_with fail
          go_roundw
          case rel => exact ⟨j + 1, _, _, by omega, by go_num, rfl, by rw [show i + (j + 1) = p + 1 by have := HP.out; omega]; exact HS3.out⟩
          case measure => simp [intOf]; omega
        · have hnl : ¬ (j : Int) < (m : Int) := by omega
          obtain rfl : j = m := by omega
          have HR2 : Hid (QCar w1 wr g (n + j) zq (i + j) cy (R.val (xs.take (i + 1)) * R.val ys) (i + j)) := by
            have h := HR.out
            rw [show ys.take j = ys by rw [← hm.out]; exact R.val_take_all ys] at h
            rw [HT.out, Nat.add_mul, Nat.mul_assoc]
            exact h
          have HS := Lib.hid (HR2.out.close (by omega))
          obtain ⟨p, hp⟩ : ∃ p, i + j = p := ⟨_, rfl⟩
          have hpi : (i : Int) + (j : Int) = (p : Int) := by omega
          have hpl : (p : Int) < (n : Int) + (j : Int) := by omega
          rw [hp] at HS HR2
          have f3 := HR2.out.blk.frozen p
          have c3 := HR2.out.blk.cell p
          rw [limbV_get _ _ (by rw [HR2.out.len]; omega)] at c3
          generalize zq[p]?.getD 0 = zl at c3
          have HP := Lib.hid hp
          clear HR HR2 hjt hp
          go_wp2_with fail
          go_roundw
          case rel => exact ⟨i + 1, _, by omega, by go_num, by rw [show i + 1 + j = p + 1 by have := HP.out; omega]; exact HS.out⟩
          case measure => simp [intOf]; omega
    · have hnl : ¬ (i : Int) < (n : Int) := by omega
      have e : i = n := by omega
      have HV : Hid (R.val zs = R.val xs * R.val ys) := by
        have h := HR.out.val_
        rw [e, show xs.take n = xs by rw [← hn.out]; exact R.val_take_all xs, Nat.mul_zero] at h
        exact h
      have HLen := Lib.hid HR.out.len
      have HRd : Hid (LRead wr (some ⟨g, 0, none⟩) zs) := .of_blk HR.out.blk
      have htr := rtrim_any (some ⟨g, 0, none⟩) (n + m) (n + m) zs wr HRd (Lib.hid HR.out.limb) (Lib.hid HLen.out.symm) (Nat.le_refl _) (by omega)
      rw [HV.out] at htr
      have HTr := Lib.hid htr
      clear e hlt htr
      go_wp2_with fail
      refine HTr.out.mono ?_
      rintro e w' ⟨rfl, rfl⟩
      go_wp2_with fail
      go_ret
      have h2 := RV.of_row HRd.out HR.out.limb
      rw [HV.out] at h2
      exact ⟨_, _, _, rfl, ⟨_, _, rfl, h2, Nat.le_refl _⟩, fun a ha => by injection ha with ha; subst ha; exact HG.out, HO1.out.trans HR.out.only (fun k hk => .inr (by simp at hk; rw [hk]; exact HG.out))⟩
end Go.Proofs.YtcknigodcjjahaaDoor
