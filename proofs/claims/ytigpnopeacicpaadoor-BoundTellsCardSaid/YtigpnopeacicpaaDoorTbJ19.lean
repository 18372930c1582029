/-
  Joined texts.
-/
import Derived.Test.YtigpnopeacicpaaDoorTbJ18
import Derived.Laws.MakeOwn
import Derived.Test.YtigpnopeacicpaaDoorTbJ3
import Derived.Test.YtigpnopeacicpaaDoorTbJ8
import Derived.Laws.Shifts
import Derived.Laws.Bits64b
import Derived.IntWalk
/-
  The reference's Parse.
-/
namespace Go.Proofs.YtigpnopeacicpaaDoor
open Go.RowKit

theorem LRead.lt {w : World} {A : Option Addr} {xs : List Nat} (h : LRead w A xs) (h0 : 0 < xs.length) : ∀ a, A = some a → a.block < w.heap.size := by
  obtain ⟨b, o, rfl, hc⟩ := h 0 h0
  rintro a ha
  injection ha with ha
  subst ha
  exact World.block_lt_of_cell? w _ hc

end Go.Proofs.YtigpnopeacicpaaDoor
/-
  The reference's numbers: Shl, Shr.
-/
namespace Go.Proofs.YtigpnopeacicpaaDoor
open Go.RowKit

/-- A digit of a number that is shifted down. -/
def rshrD (r : Nat) (xs : List Nat) (j : Nat) : Nat := xs[j]?.getD 0 / 2 ^ r + (xs[j + 1]?.getD 0 * 2 ^ (32 - r)) % R.BB

def rshrL (r : Nat) : List Nat → List Nat
  | [] => []
  | x :: xs => (x / 2 ^ r + (xs[0]?.getD 0 * 2 ^ (32 - r)) % R.BB) :: rshrL r xs

theorem rshrL_len (r : Nat) : ∀ xs : List Nat, (rshrL r xs).length = xs.length
  | [] => rfl
  | x :: xs => by rw [rshrL, List.length_cons, rshrL_len r xs, List.length_cons]

theorem rshrL_get (r : Nat) : ∀ (xs : List Nat) (j : Nat), j < xs.length → (rshrL r xs)[j]?.getD 0 = rshrD r xs j
  | [], j, h => by simp at h
  | x :: xs, 0, _ => by simp [rshrL, rshrD]
  | x :: xs, j + 1, h => by
    rw [rshrL, List.getElem?_cons_succ, rshrL_get r xs j (by simpa using h)]
    simp [rshrD]

theorem R.val_head (xs : List Nat) (hx : R.Limb xs) : R.val xs % R.BB = xs[0]?.getD 0 := by
  cases xs with
  | nil => simp [R.val]
  | cons x xs =>
    rw [R.val, Nat.add_mul_mod_self_left, Nat.mod_eq_of_lt (hx x (by simp))]
    rfl

theorem two_split {r : Nat} (hr : r < 32) : (2 : Nat) ^ r * 2 ^ (32 - r) = R.BB := by rw [← Nat.pow_add, R.BB_pow]; congr 1; omega

theorem rshrD_lt {r x y : Nat} (hr : r < 32) (hx : x < R.BB) : x / 2 ^ r + (y * 2 ^ (32 - r)) % R.BB < R.BB := by
  have hp : 0 < 2 ^ r := Nat.pow_pos (by omega)
  have hsp := two_split hr
  have hx2 : x / 2 ^ r < 2 ^ (32 - r) := by
    rw [Nat.div_lt_iff_lt_mul hp, Nat.mul_comm, hsp]
    exact hx
  have hm := Nat.mod_lt y hp
  have hm2 : (y % 2 ^ r + 1) * 2 ^ (32 - r) ≤ 2 ^ r * 2 ^ (32 - r) := Nat.mul_le_mul_right _ hm
  rw [hsp, Nat.add_mul, Nat.one_mul] at hm2
  have hy2 : y * 2 ^ (32 - r) % R.BB = y % 2 ^ r * 2 ^ (32 - r) := by rw [← hsp, Nat.mul_mod_mul_right]
  omega

theorem rshrL_limb {r : Nat} (hr : r < 32) : ∀ {xs : List Nat}, R.Limb xs → R.Limb (rshrL r xs)
  | [], _ => R.limb_nil
  | x :: xs, h => fun d hd => by
    rcases List.mem_cons.1 hd with rfl | hd
    · exact rshrD_lt hr (h x (by simp))
    · exact rshrL_limb hr h.tail d hd

theorem rshrL_val {r : Nat} (hr : r < 32) : ∀ {xs : List Nat}, R.Limb xs → R.val (rshrL r xs) = R.val xs / 2 ^ r
  | [], _ => by simp [rshrL, R.val]
  | x :: xs, h => by
    have hp : 0 < 2 ^ r := Nat.pow_pos (by omega)
    have hsp := two_split hr
    rw [rshrL, R.val, rshrL_val hr h.tail, R.val, ← R.val_head xs h.tail]
    have e1 : (x + R.BB * R.val xs) / 2 ^ r = x / 2 ^ r + 2 ^ (32 - r) * R.val xs := by
      rw [← hsp, Nat.mul_assoc, Nat.add_mul_div_left _ _ hp]
    have e2 : R.val xs % R.BB * 2 ^ (32 - r) % R.BB = R.val xs % 2 ^ r * 2 ^ (32 - r) := by
      rw [Nat.mod_mul_mod, ← hsp, Nat.mul_mod_mul_right]
    rw [e1, e2, ← hsp, Nat.add_assoc]
    congr 1
    have h3 := Nat.mod_add_div (R.val xs) (2 ^ r)
    calc R.val xs % 2 ^ r * 2 ^ (32 - r) + 2 ^ r * 2 ^ (32 - r) * (R.val xs / 2 ^ r) = 2 ^ (32 - r) * (R.val xs % 2 ^ r + 2 ^ r * (R.val xs / 2 ^ r)) := by
          rw [Nat.mul_add, Nat.mul_comm (R.val xs % 2 ^ r), Nat.mul_comm (2 ^ r) (2 ^ (32 - r)), Nat.mul_assoc]
      _ = 2 ^ (32 - r) * R.val xs := by rw [h3]

theorem shr_drop {xs : List Nat} (hx : R.Limb xs) (s r : Nat) : R.val (xs.drop s) / 2 ^ r = R.val xs / 2 ^ (s * 32 + r) := by
  have e : R.val xs / R.BB ^ s = R.val (xs.drop s) := by
    by_cases h : s ≤ xs.length
    · have h1 := R.val_take_drop xs s h
      have h2 := R.val_lt (hx.take s)
      rw [List.length_take, Nat.min_eq_left h] at h2
      rw [h1, Nat.add_mul_div_left _ _ (R.BB_pow_pos s), Nat.div_eq_of_lt h2, Nat.zero_add]
    · rw [List.drop_eq_nil_of_le (by omega), Nat.div_eq_of_lt (Nat.lt_of_lt_of_le (R.val_lt hx) (Nat.pow_le_pow_right R.BB_pos (by omega)))]
      rfl
  rw [Nat.pow_add, Nat.mul_comm s, Nat.pow_mul, ← R.BB_pow, ← Nat.div_div_eq_div_mul, e]

/-- Where a row stands that is being shifted down. -/
structure DCar (w wr : World) (A' : Option Addr) (c' s r : Nat) (xs os : List Nat) (k : Nat) : Prop where
  at_ : LimbsAt wr (.slice A' k c') os
  eq : os = (rshrL r (xs.drop s)).take k
  fresh : ∀ g, (Value.slice A' k c').ownBlock = some g → w.heap.size ≤ g
  only : Only [] w wr

set_option maxHeartbeats 1600000 in
set_option maxRecDepth 100000 in
theorem rshr_any (A : Option Addr) (m c n s r : Nat) (xs : List Nat) (w : World) (hA : Hid (LRead w A xs)) (hx : Hid (R.Limb xs)) (hm : Hid (m = xs.length)) (hn : Hid (n = s * 32 + r)) (hr : Hid (r < 32)) (hml : (m : Int) ≤ 3000000) (hsl : (s : Int) ≤ 3000000) :
    Calls Tryd.prog 78 #[.slice A m c, .int .i64 (n : Int)] w (RPost (R.val xs / 2 ^ n) w) := by
  have hq2 : (n : Int) / 32 = (s : Int) := by have := hn.out; have := hr.out; omega
  have hq4 : (n : Int) % 32 = (r : Int) := by have := hn.out; have := hr.out; omega
  have hq1 : (n : Int).tdiv 32 = (s : Int) := by rw [Int.tdiv_eq_ediv_of_nonneg (by omega)]; exact hq2
  have hq3 : (n : Int).tmod 32 = (r : Int) := by rw [Int.tmod_eq_emod_of_nonneg (by omega)]; exact hq4
  obtain ⟨q, hq⟩ : ∃ q, 32 - r = q := ⟨_, rfl⟩
  have hqi : (32 : Int) - (r : Int) = (q : Int) := by have := hr.out; omega
  have HQ := Lib.hid hq
  have hql : (q : Int) ≤ 32 := by omega
  clear hq
  have HStart : Hid (DCar w w none 0 s r xs [] 0) := ⟨limbsAt_nil _, by simp, by simp [Value.ownBlock], Only.refl _ _⟩
  go_enter Tryd.func78, Tryd.ntmps78
  go_wp2_with fail
  go_loopw [5, 6] (fun ov i wr => ∃ (k p : Nat) (os : List Nat) (A' : Option Addr) (c' : Nat), p = s + k ∧ (p ≤ m ∨ k = 0) ∧ ov = .slice A' k c' ∧ i = .int .i64 (p : Int) ∧ DCar w wr A' c' s r xs os k) (fun _ i _ => m - (intOf i).toNat)
  case atStart => exact ⟨0, s, [], none, 0, rfl, .inr rfl, rfl, rfl, HStart.out⟩
  case round =>
    obtain ⟨k, p, os, A', c', hp, hpm, rfl, rfl, hR⟩ := hrel
    have HR := Lib.hid hR
    have HP : Hid (p = s + k ∧ (p ≤ m ∨ k = 0)) := ⟨hp, hpm⟩
    clear hR HStart hp hpm
    by_cases hlt : p < m
    · obtain ⟨b, o, rfl, e1⟩ := hA.out p (by have := hm.out; omega)
      have p0 := HR.out.only.cell e1 (by simp)
      have hpi : (p : Int) < (m : Int) := by omega
      have HX := Lib.hid (hx.out.get p)
      have HD : Hid (rshrD r (xs.drop s) k = xs[p]?.getD 0 / 2 ^ r + (xs[p + 1]?.getD 0 * 2 ^ q) % R.BB) := by
        show _ = _
        unfold rshrD
        rw [List.getElem?_drop, List.getElem?_drop, HP.out.1, HQ.out]
        rfl
      have hd1 : ((xs[p]?.getD 0 : Nat) : Int) / 2 ^ r = ((xs[p]?.getD 0 / 2 ^ r : Nat) : Int) := by simp
      have hd2 : IntKind.u64.wrap ((xs[p]?.getD 0 / 2 ^ r : Nat) : Int) = ((xs[p]?.getD 0 / 2 ^ r : Nat) : Int) := u64_wrap (Nat.lt_of_le_of_lt (Nat.div_le_self _ _) (by have := HX.out; rw [R.BB_val] at this; rw [BB_val]; omega))
      have HDl : Hid (xs[p]?.getD 0 / 2 ^ r + (xs[p + 1]?.getD 0 * 2 ^ q) % R.BB < R.BB) := by
        have := rshrD_lt (y := xs[p + 1]?.getD 0) hr.out HX.out
        rw [HQ.out] at this
        exact this
      by_cases hl2 : p + 1 < m
      · obtain ⟨_, _, e3, h2⟩ := hA.out (p + 1) (by have := hm.out; omega)
        injection e3 with e3
        injection e3 with e3 e4 _
        subst e3 e4
        have q0 := HR.out.only.cell h2 (by simp)
        have hpi2 : (p : Int) + 1 < (m : Int) := by omega
        have HY := Lib.hid (hx.out.get (p + 1))
        have HPow : Hid (2 ^ q ≤ 4294967296) := by
          have : 2 ^ q ≤ 2 ^ 32 := Nat.pow_le_pow_right (by omega) (by omega)
          exact this
        generalize xs[p]?.getD 0 = x at p0 hd1 hd2 HX HD HDl
        generalize xs[p + 1]?.getD 0 = y at q0 HY HD HDl
        have hy2 : y * 2 ^ q ≤ 4294967295 * 4294967296 := Nat.mul_le_mul (by have := HY.out; rw [R.BB_val] at this; omega) HPow.out
        obtain ⟨y1, hy1⟩ : ∃ y1, y * 2 ^ q = y1 := ⟨_, rfl⟩
        rw [hy1] at hy2 HD HDl
        have hw1 : IntKind.u64.wrap ((y : Int) * 2 ^ q) = (y1 : Int) := by
          rw [show (y : Int) * 2 ^ q = ((y * 2 ^ q : Nat) : Int) by simp, hy1]
          exact u64_wrap (by rw [BB_val]; omega)
        have hr1 : (y1 : Int) % 4294967296 = ((y1 % R.BB : Nat) : Int) := by rw [R.BB_val]; omega
        have hr3 : (y1 : Int).tmod 4294967296 = ((y1 % R.BB : Nat) : Int) := by rw [Int.tmod_eq_emod_of_nonneg (by omega)]; exact hr1
        generalize x / 2 ^ r = x1 at *
        generalize y1 % R.BB = y2 at *
        obtain ⟨v, hv⟩ : ∃ v, x1 + y2 = v := ⟨_, rfl⟩
        have hvl := HDl.out
        rw [hv, R.BB_val] at hvl
        have hw2 : IntKind.u64.wrap ((x1 : Int) + (y2 : Int)) = (v : Int) := u64_add hv (by rw [BB_val]; omega)
        have hr5 : (v : Int) % 4294967296 = (v : Int) := by omega
        have hr6 : (v : Int).tmod 4294967296 = (v : Int) := by rw [Int.tmod_eq_emod_of_nonneg (by omega)]; exact hr5
        have HV : Hid (rshrD r (xs.drop s) k = v) := HD.out.trans hv
        have hpk := HP.out.1
        have HPk := Lib.hid hpk
        clear e1 h2 hy2 hy1 hv hvl hlt hl2 hpk
        have HLen : Hid (k = os.length) := by
          show _ = _
          rw [HR.out.eq, List.length_take, rshrL_len, List.length_drop]
          have := hm.out
          have := HP.out.1
          omega
        have hki6 : (k : Int) ≤ 3000000 := by have := HP.out.1; omega
        have HNext : Hid (os ++ [v] = (rshrL r (xs.drop s)).take (k + 1)) := by
          have hl : k < (rshrL r (xs.drop s)).length := by
            rw [rshrL_len, List.length_drop]
            have := hm.out
            have := HP.out.1
            omega
          show _ = _
          rw [List.take_succ_eq_append_getElem hl, ← HR.out.eq]
          have := HV.out
          rw [← rshrL_get r _ k (by rw [rshrL_len] at hl; exact hl), List.getElem?_eq_getElem hl] at this
          rw [← this]
          rfl
        have HAt := Lib.hid HR.out.at_
        clear HV
        go_wp2_with (at_builtin; refine append_limbs 45 Tryd.underlying45 rfl _ _ rfl (.slice A' k c') k os [v] rfl (HAt.out.only ((Only.refl [] wr).alloc _) (by simp)) HLen.out wr.heap.size 1 rfl rfl (by simp) (Blk.new wr 90 (limbV [v])) (by omega) ?_; intro g' c2 w4 h1 h2 h3; have HA4 := Lib.hid h1; have HF4 := Lib.hid h2; have HO4 := Lib.hid h3; clear h1 h2 h3)
        go_wp2_with fail
        go_roundw
        case rel => exact ⟨k + 1, p + 1, _, some ⟨g', 0, none⟩, c2, by have := HP.out.1; omega, by omega, rfl, by go_num, ⟨HA4.out, HNext.out, fresh_app HR.out.only HR.out.fresh ((Only.refl [] wr).alloc _) HF4.out, frame_app HR.out.only HR.out.fresh ((Only.refl [] wr).alloc _) HO4.out⟩⟩
        case measure => simp [intOf]; omega
      · have hpi2 : ¬ (p : Int) + 1 < (m : Int) := by omega
        have hz : xs[p + 1]?.getD 0 = 0 := by rw [List.getElem?_eq_none (by have := hm.out; omega)]; rfl
        rw [hz, Nat.zero_mul, Nat.zero_mod, Nat.add_zero] at HD HDl
        generalize hgx : xs[p]?.getD 0 = x at p0 hd1 hd2 HX HD HDl
        generalize x / 2 ^ r = v at *
        have hvl := HDl.out
        rw [R.BB_val] at hvl
        have hr5 : (v : Int) % 4294967296 = (v : Int) := by omega
        have hr6 : (v : Int).tmod 4294967296 = (v : Int) := by rw [Int.tmod_eq_emod_of_nonneg (by omega)]; exact hr5
        have HV : Hid (rshrD r (xs.drop s) k = v) := HD.out
        have hpk := HP.out.1
        clear e1 hz hvl hgx hlt hl2 hpk
        have HLen : Hid (k = os.length) := by
          show _ = _
          rw [HR.out.eq, List.length_take, rshrL_len, List.length_drop]
          have := hm.out
          have := HP.out.1
          omega
        have hki6 : (k : Int) ≤ 3000000 := by have := HP.out.1; omega
        have HNext : Hid (os ++ [v] = (rshrL r (xs.drop s)).take (k + 1)) := by
          have hl : k < (rshrL r (xs.drop s)).length := by
            rw [rshrL_len, List.length_drop]
            have := hm.out
            have := HP.out.1
            omega
          show _ = _
          rw [List.take_succ_eq_append_getElem hl, ← HR.out.eq]
          have := HV.out
          rw [← rshrL_get r _ k (by rw [rshrL_len] at hl; exact hl), List.getElem?_eq_getElem hl] at this
          rw [← this]
          rfl
        have HAt := Lib.hid HR.out.at_
        clear HV
        go_wp2_with (at_builtin; refine append_limbs 45 Tryd.underlying45 rfl _ _ rfl (.slice A' k c') k os [v] rfl (HAt.out.only ((Only.refl [] wr).alloc _) (by simp)) HLen.out wr.heap.size 1 rfl rfl (by simp) (Blk.new wr 90 (limbV [v])) (by omega) ?_; intro g' c2 w4 h1 h2 h3; have HA4 := Lib.hid h1; have HF4 := Lib.hid h2; have HO4 := Lib.hid h3; clear h1 h2 h3)
        go_wp2_with fail
        go_roundw
        case rel => exact ⟨k + 1, p + 1, _, some ⟨g', 0, none⟩, c2, by have := HP.out.1; omega, by omega, rfl, by go_num, ⟨HA4.out, HNext.out, fresh_app HR.out.only HR.out.fresh ((Only.refl [] wr).alloc _) HF4.out, frame_app HR.out.only HR.out.fresh ((Only.refl [] wr).alloc _) HO4.out⟩⟩
        case measure => simp [intOf]; omega
    · have hnl : ¬ (p : Int) < (m : Int) := by omega
      have HAll : Hid (os = rshrL r (xs.drop s)) := by
        have h := HR.out.eq
        rw [List.take_of_length_le (by rw [rshrL_len, List.length_drop]; have := hm.out; have := HP.out; omega)] at h
        exact h
      have HV : Hid (R.val os = R.val xs / 2 ^ n) := by
        show _ = _
        rw [HAll.out, rshrL_val hr.out (hx.out.drop s), shr_drop hx.out, hn.out]
      have HLb : Hid (R.Limb os) := by show R.Limb _; rw [HAll.out]; exact rshrL_limb hr.out (hx.out.drop s)
      have HLen : Hid (k = os.length) := by
        show _ = _
        rw [HR.out.eq, List.length_take, rshrL_len, List.length_drop]
        have := hm.out
        have := HP.out
        omega
      have HRd : Hid (LRead wr A' os) := (LimbsAt.read HR.out.at_).2
      have htr := rtrim_any A' k c' os wr HRd HLb HLen (by
            rcases HR.out.at_.2 with ⟨hv, h0⟩ | ⟨gp, cap, cur, hv, _, _, h5, _⟩
            · injection hv with _ h6 h7
              omega
            · injection hv with _ h6 h7
              omega) (by have := HP.out; omega)
      rw [HV.out] at htr
      have HTr := Lib.hid htr
      clear htr hlt
      go_wp2_with fail
      refine HTr.out.mono ?_
      rintro e w' ⟨rfl, rfl⟩
      go_wp2_with fail
      go_ret
      have h2 := RV.of_row HRd.out HLb.out
      rw [HV.out] at h2
      exact ⟨_, _, _, rfl, ⟨_, _, rfl, h2, Nat.le_refl _⟩, fun a ha => HR.out.fresh a.block (by rw [ha]; rfl), HR.out.only⟩

theorem rshr_v {w : World} {a : Value} {m : Nat} (n : Nat) (hn : (n : Int) ≤ 90000000) (ha : Hid (RV w a m)) (hf : Hid (Few m)) : Calls Tryd.prog 78 #[a, .int .i64 (n : Int)] w (RPost (m / 2 ^ n) w) := by
  obtain ⟨A, c, rfl, h1, h2⟩ := ha.out
  have := hf.out.digits
  have h := rshr_any A _ c n (n / 32) (n % 32) (R.limbsOf m) w (Lib.hid h1) (Lib.hid (R.limb_limbsOf m)) (Lib.hid rfl) (by show _ = _; omega) (by show _ < _; omega) (by omega) (by omega)
  rw [R.val_limbsOf] at h
  exact h

end Go.Proofs.YtigpnopeacicpaaDoor
/-
  The reference's numbers: Cmp, Sub, Bits, Low.
-/
namespace Go.Proofs.YtigpnopeacicpaaDoor
open Go.RowKit

theorem rbits_top {xs : List Nat} {k : Nat} (hx : R.Limb xs) (hl : xs.length = k + 1) (ht : xs[k]?.getD 0 ≠ 0) : bitsN (R.val xs) = 32 * k + bitsN (xs[k]?.getD 0) := by
  have c1 := R.val_take_succ xs k (by omega)
  rw [show xs.take (k + 1) = xs by rw [← hl, List.take_length]] at c1
  have c0 := R.val_lt (hx.take k)
  rw [List.length_take, Nat.min_eq_left (by omega)] at c0
  have hp : R.BB ^ k = 2 ^ (32 * k) := by rw [R.BB_pow, ← Nat.pow_mul]
  generalize xs[k]?.getD 0 = t at *
  have hL := (Nat.log2_eq_iff (k := Nat.log2 t) ht).1 rfl
  have e : bitsN t = Nat.log2 t + 1 := by unfold bitsN; rw [if_neg ht]
  have h1 : 2 ^ (32 * k + Nat.log2 t) ≤ R.val xs := by
    rw [Nat.pow_add, ← hp]
    have := Nat.mul_le_mul_left (R.BB ^ k) hL.1
    omega
  have h2 : R.val xs < 2 ^ (32 * k + Nat.log2 t + 1) := by
    rw [Nat.add_assoc, Nat.pow_add, ← hp]
    have h3 : R.BB ^ k * (t + 1) ≤ R.BB ^ k * 2 ^ (Nat.log2 t + 1) := Nat.mul_le_mul_left _ hL.2
    rw [Nat.mul_add] at h3
    omega
  have h0 : R.val xs ≠ 0 := by
    have : 0 < 2 ^ (32 * k + Nat.log2 t) := Nat.pow_pos (by omega)
    omega
  rw [e]
  unfold bitsN
  rw [if_neg h0, (Nat.log2_eq_iff h0).2 ⟨h1, h2⟩]
  omega
theorem bits_half {v : Nat} (h : 0 < v) : bitsN v = bitsN (v / 2) + 1 := by
  unfold bitsN
  rw [if_neg (by omega)]
  by_cases h2 : v / 2 = 0
  · rw [if_pos h2]
    have : v = 1 := by omega
    rw [this]
    rfl
  · rw [if_neg h2]
    have h1 := (Nat.log2_eq_iff (k := Nat.log2 (v / 2)) h2).1 rfl
    have e : Nat.log2 v = Nat.log2 (v / 2) + 1 := by
      refine (Nat.log2_eq_iff (by omega)).2 ⟨?_, ?_⟩
      · rw [Nat.pow_succ]; omega
      · rw [Nat.pow_succ]; omega
    rw [e]
set_option maxHeartbeats 800000 in
set_option maxRecDepth 100000 in
theorem rbits_any (A : Option Addr) (n c : Nat) (xs : List Nat) (w : World) (hA : Hid (LRead w A xs)) (hx : Hid (R.Limb xs)) (hcx : Hid (R.Canon xs)) (hn : Hid (n = xs.length)) (hl : (n : Int) ≤ 8000000) :
    Calls Tryd.prog 84 #[.slice A n c] w fun e w' => e = .returned (.int .i64 (bitsN (R.val xs) : Int)) ∧ w = w' := by
  by_cases h0 : n = 0
  · subst h0
    have hv : Hid (bitsN (R.val xs) = 0) := by
      have : xs = [] := List.eq_nil_of_length_eq_zero hn.out.symm
      show _ = _
      rw [this]
      rfl
    go_enter Tryd.func84, Tryd.ntmps84
    go_wp2_with fail
    go_ret
    exact ⟨by rw [hv.out]; rfl, rfl⟩
  · obtain ⟨k, hk⟩ : ∃ k, n = k + 1 := ⟨n - 1, by omega⟩
    have h0i : ((n : Int) == 0) = false := by rw [beq_eq_false_iff_ne]; omega
    obtain ⟨b, o, rfl, p0⟩ := hA.out k (by have := hn.out; omega)
    have ht : xs[k]?.getD 0 ≠ 0 := by
      have h := hcx.out (by have := hn.out; omega)
      have e : xs.length - 1 = k := by have := hn.out; omega
      rw [List.getElem?_eq_getElem (by have := hn.out; omega)]
      simpa [e] using h
    have HB := Lib.hid (rbits_top hx.out (hn.out.symm.trans hk) ht)
    have HX := Lib.hid (hx.out.get k)
    have hk1 : (n : Int) - 1 = (k : Int) := by omega
    have hk2 : (k : Int) < (n : Int) := by omega
    have hk3 : (k : Int) ≤ 8000000 := by omega
    clear hk
    generalize xs[k]?.getD 0 = t at p0 HB HX
    have HTl : Hid (bitsN t ≤ 32) := by
      have h := HX.out
      rw [R.BB_pow] at h
      show _ ≤ _
      unfold bitsN
      split
      · omega
      · rename_i h1
        have := (Nat.log2_lt h1).2 h
        omega
    clear h0 ht
    go_enter Tryd.func84, Tryd.ntmps84
    go_wp2_with fail
    go_loop [3, 4] (fun nv vv => ∃ v j : Nat, nv = .int .i64 (j : Int) ∧ vv = .int .u64 (v : Int) ∧ j + bitsN v = 32 * k + bitsN t ∧ v ≤ t) (fun _ vv => (intOf vv).toNat)
    case atStart => exact ⟨t, 32 * k, by simp, rfl, rfl, Nat.le_refl _⟩
    case round =>
      obtain ⟨v, j, rfl, rfl, hj, hvt⟩ := hrel
      have HJ := Lib.hid hj
      have HVt := Lib.hid hvt
      clear hj hvt
      have hjl : (j : Int) ≤ 300000000 := by have := HJ.out; have := HTl.out; omega
      by_cases hv : v = 0
      · subst hv
        have HJ0 : Hid (j = bitsN (R.val xs)) := by
          have := HJ.out
          rw [show bitsN 0 = 0 from rfl] at this
          rw [HB.out]
          show _ = _
          omega
        go_wp2_with fail
        go_ret
        exact ⟨by rw [← HJ0.out]; rfl, rfl⟩
      · have HH := Lib.hid (bits_half (Nat.pos_of_ne_zero hv))
        have hvi : (0 : Int) < (v : Int) := by omega
        obtain ⟨v2, hv2⟩ : ∃ v2, v / 2 = v2 := ⟨_, rfl⟩
        have hvd : (v : Int) / 2 = (v2 : Int) := by omega
        have hvd2 : (v : Int).tdiv 2 = (v2 : Int) := by rw [Int.tdiv_eq_ediv_of_nonneg (by omega)]; exact hvd
        have hlt2 : Hid (v2 < v) := by show _ < _; omega
        have hvw : IntKind.u64.wrap (v2 : Int) = (v2 : Int) := u64_wrap (by have := HVt.out; have := HX.out; rw [R.BB_val] at this; rw [BB_val]; omega)
        rw [hv2] at HH
        clear hv hv2
        go_wp2_with fail
        go_round
        case rel => exact ⟨v2, j + 1, by go_num, rfl, by have := HJ.out; have := HH.out; omega, by have := HVt.out; have := hlt2.out; omega⟩
        case measure => have := hlt2.out; simp [intOf]; omega
theorem rbits_v {w : World} {a : Value} {m : Nat} (ha : Hid (RV w a m)) (hfa : Hid (Few m)) : Calls Tryd.prog 84 #[a] w fun e w' => e = .returned (.int .i64 (bitsN m : Int)) ∧ w = w' := by
  obtain ⟨A, c, rfl, h1, h2⟩ := ha.out
  have := hfa.out.digits
  have h := rbits_any A _ c (R.limbsOf m) w (Lib.hid h1) (Lib.hid (R.limb_limbsOf m)) (Lib.hid (R.canon_limbsOf m)) (Lib.hid rfl) (by omega)
  rw [R.val_limbsOf] at h
  exact h
end Go.Proofs.YtigpnopeacicpaaDoor
/-
  The reference's numbers: Sub, Low.
-/
namespace Go.Proofs.YtigpnopeacicpaaDoor
open Go.RowKit

end Go.Proofs.YtigpnopeacicpaaDoor

/-
  The long division at digits of 32 bits: the plain law (XValB, XValC, XValF turned by mkrdiv.py).
-/
namespace Go.Proofs.YtigpnopeacicpaaDoor
namespace R

theorem add_step {zs : List Nat} {i v c lo hi : Nat} (h0 : i < zs.length) (h : lo + BB * hi = zs[i]?.getD 0 + v + c) : val (zs.set i lo) + BB ^ (i + 1) * hi = val zs + BB ^ i * v + BB ^ i * c := by
  have h1 := val_set zs i lo h0
  have h2 := congrArg (BB ^ i * ·) h
  simp only [Nat.mul_add] at h2
  rw [Nat.pow_succ, Nat.mul_assoc]
  omega
/-- What is below a power has no limb from there on. -/
theorem val_zero_of : ∀ {zs : List Nat}, val zs = 0 → ∀ k : Nat, zs[k]?.getD 0 = 0
  | [], _, k => by simp
  | z :: zs, h, 0 => by
    simp only [val] at h
    simp
    omega
  | z :: zs, h, k + 1 => by
    simp only [val] at h
    have hb := BB_pos
    have h1 : val zs = 0 := by
      rcases Nat.eq_zero_or_pos (val zs) with h2 | h2
      · exact h2
      · have := Nat.mul_pos hb h2
        omega
    have := val_zero_of h1 k
    simpa using this
theorem val_high {zs : List Nat} {m : Nat} (h : val zs < BB ^ m) (k : Nat) (hk : m ≤ k) : zs[k]?.getD 0 = 0 := by
  by_cases hm : m ≤ zs.length
  · have h1 := val_take_drop zs m hm
    have h2 : val (zs.drop m) = 0 := by
      rcases Nat.eq_zero_or_pos (val (zs.drop m)) with h2 | h2
      · exact h2
      · have h3 : BB ^ m * 1 ≤ BB ^ m * val (zs.drop m) := Nat.mul_le_mul_left _ h2
        omega
    have h3 := val_zero_of h2 (k - m)
    rw [List.getElem?_drop, show m + (k - m) = k by omega] at h3
    exact h3
  · rw [List.getElem?_eq_none (by omega)]
    rfl
theorem val_ge_get {zs : List Nat} (i : Nat) : BB ^ i * (zs[i]?.getD 0) ≤ val zs := by
  by_cases hi : i < zs.length
  · have h1 := val_take_drop zs (i + 1) (by omega)
    rw [val_take_succ zs i hi] at h1
    omega
  · rw [List.getElem?_eq_none (by omega)]
    simp
theorem pow_le {i j : Nat} (h : i ≤ j) : BB ^ i ≤ BB ^ j := Nat.pow_le_pow_right BB_pos h
theorem val_drop_div (xs : List Nat) (hx : Limb xs) (k : Nat) (hk : k ≤ xs.length) : val (xs.drop k) = val xs / BB ^ k := by
  have h1 := val_take_drop xs k hk
  have h2 := val_lt (hx.take k)
  rw [List.length_take, Nat.min_eq_left hk] at h2
  rw [h1, Nat.add_mul_div_left _ _ (BB_pow_pos k), Nat.div_eq_of_lt h2, Nat.zero_add]
/-- Where one digit stands that is being lowered. -/
structure DI (us us' : List Nat) (V j n d b : Nat) : Prop where
  limb : Limb us'
  len : us'.length = us.length
  eq : val us' + BB ^ j * (d * V) = val us + BB ^ (j + n + 1) * b
  lt : val us' < BB ^ (j + n + 1)
  est : val us < BB ^ j * ((d + 1) * V)
  dl : d < BB
  bl : b ≤ 1
theorem DI.done {us us' : List Nat} {V j n d : Nat} (h : DI us us' V j n d 0) : val us' + BB ^ j * (d * V) = val us ∧ val us' < BB ^ j * V := by
  have h1 := h.eq
  have h2 := h.est
  rw [Nat.mul_zero, Nat.add_zero] at h1
  rw [Nat.add_mul, Nat.one_mul, Nat.mul_add] at h2
  exact ⟨h1, by omega⟩
/-- Where the division stands. -/
structure LI (us qs : List Nat) (U0 V k : Nat) : Prop where
  ul : Limb us
  ql : Limb qs
  eq : val us + V * (BB ^ k * val (qs.drop k)) = U0
  lt : val us < BB ^ k * V
theorem LI.done {us qs : List Nat} {a b s : Nat} (h : LI us qs (a * 2 ^ s) (b * 2 ^ s) 0) : val qs = a / b ∧ val us / 2 ^ s = a % b := by
  have hp : 0 < 2 ^ s := Nat.pow_pos (by omega)
  have h1 := h.eq
  have h2 := h.lt
  simp only [Nat.pow_zero, Nat.one_mul, List.drop_zero] at h1 h2
  have hV : 0 < b * 2 ^ s := by omega
  have e1 : (a * 2 ^ s) / (b * 2 ^ s) = val qs := by
    rw [← h1, Nat.add_comm, Nat.mul_add_div hV, Nat.div_eq_of_lt h2, Nat.add_zero]
  have e2 : (a * 2 ^ s) % (b * 2 ^ s) = val us := by
    rw [← h1, Nat.add_comm, Nat.mul_add_mod, Nat.mod_eq_of_lt h2]
  rw [Nat.mul_div_mul_right _ _ hp] at e1
  rw [Nat.mul_mod_mul_right] at e2
  exact ⟨e1.symm, by rw [← e2, Nat.mul_div_cancel _ hp]⟩
open Go.RowKit

theorem val_drop_cons (xs : List Nat) (j : Nat) (h : j < xs.length) : val (xs.drop j) = xs[j]?.getD 0 + BB * val (xs.drop (j + 1)) := by
  rw [List.drop_eq_getElem_cons h]
  simp [val, h]
end R
end Go.Proofs.YtigpnopeacicpaaDoor

/-
  The reference's dyads: what a struct reads as.
-/
namespace Go.Proofs.YtigpnopeacicpaaDoor
set_option linter.unusedSimpArgs false
open Go.RowKit

/-- Sign and length as the reference tells them. -/
def Cr (s : Bool) (k : Nat) (z : Int) : Prop := s = decide (z < 0) ∧ k = (R.limbsOf z.natAbs).length
/-- A value that reads as a dyad of the reference's. -/
def RD (w : World) (v : Value) (x : Dy) : Prop := ∃ s A k c, v = .agg #[.bool s, .slice A k c, .int .i64 x.e] ∧ Cr s k x.z ∧ RV w (.slice A k c) x.z.natAbs
theorem RD.only {w w' : World} {v : Value} {x : Dy} (h : RD w v x) (ho : Only [] w w') : RD w' v x := by
  obtain ⟨s, A, k, c, h1, h2, h3⟩ := h
  exact ⟨s, A, k, c, h1, h2, h3.only ho⟩
/-- What a function of the reference's leaves that tells a dyad. -/
def RDP (x : Dy) (w : World) (e : Ending) (w' : World) : Prop := ∃ s A k c, e = .returned (.agg #[.bool s, .slice A k c, .int .i64 x.e]) ∧ Cr s k x.z ∧ RV w' (.slice A k c) x.z.natAbs ∧ Only [] w w'
theorem RV.len {w : World} {A : Option Addr} {k c n : Nat} (h : RV w (.slice A k c) n) : k = (R.limbsOf n).length := by
  obtain ⟨A', c', e, _, _⟩ := h
  injection e
theorem RV.farS {w w' : World} {S : List Nat} {A : Option Addr} {k c n : Nat} (h : RV w (.slice A k c) n) (ho : Only S w w') (hf : ∀ g ∈ S, Far g A k) : RV w' (.slice A k c) n := by
  obtain ⟨A', c', e, h2, h3⟩ := h
  injection e with e1 e2 e3
  subst e1 e3
  refine ⟨A, c, by rw [e2], fun j hj => ?_, h3⟩
  obtain ⟨b, o, rfl, hc⟩ := h2 j hj
  exact ⟨b, o, rfl, ho.cell hc (fun hm => hf b hm (by omega) ⟨b, o, none⟩ rfl rfl)⟩
theorem RV.far_blk {w : World} {A : Option Addr} {k c g n : Nat} {t : TypeId} {cs : List Value} (h : RV w (.slice A k c) n) (hb : Blk w g t cs) (hn : NoLimb cs) : Far g A k := fun hk p hp hc => by
  obtain ⟨A', c', e, h2, h3⟩ := h
  injection e with e1 e2 e3
  subst e1
  obtain ⟨b, o, e4, hcell⟩ := h2 0 (by omega)
  rw [hp] at e4
  injection e4 with e4
  subst e4
  have hc2 : b = g := hc
  subst hc2
  rw [hb.cell] at hcell
  exact hn _ _ hcell
/-- A struct's three cells, written behind a result. -/
theorem rdfin {x : Dy} {w w1 w2 : World} {b : Nat} {t : TypeId} {cs : List Value} {s : Bool} {A : Option Addr} {k c : Nat} (hv : Hid (RV w1 (.slice A k c) x.z.natAbs)) (hc : Hid (Cr s k x.z)) (hb : w.heap.size ≤ b) (hB : Blk w1 b t cs) (hn : NoLimb cs) (ho : Only [] w w1) (ho2 : Only [b] w1 w2) :
    RDP x w (.returned (.agg #[.bool s, .slice A k c, .int .i64 x.e])) w2 :=
  ⟨s, A, k, c, rfl, hc.out, hv.out.farS ho2 (fun g hg => by rw [List.mem_singleton] at hg; subst hg; exact hv.out.far_blk hB hn), ho.trans ho2 (fun k hk => .inr (by simp at hk; omega))⟩
theorem few_bits {n : Nat} (h : Few n) : (bitsN n : Int) ≤ 64000000 := by
  have h1 : n < 2 ^ (64 * MX) := by rw [← bb_two_pow]; exact h
  have := bitsN_le h1
  rw [MX_val] at this
  omega
theorem sg_lt {s : Bool} {n : Nat} (h : n ≠ 0) : decide (sg s n < 0) = s := by
  cases s
  · rw [sg_false]; exact decide_eq_false (by omega)
  · rw [sg_true]; exact decide_eq_true (by omega)
/-- Sign and amount of what Make makes. -/
theorem nrm_sg {s : Bool} {n : Nat} (e : Int) (h : n ≠ 0) : nrm (sg s n) e = ⟨sg s (n / 2 ^ lowN n), e + (lowN n : Int)⟩ ∧ s = decide (sg s (n / 2 ^ lowN n) < 0) := by
  have h1 : sg s n ≠ 0 := by cases s <;> simp only [sg_true, sg_false] <;> omega
  have hd : decide (sg s n < 0) = s := sg_lt h
  obtain ⟨m, h2, h3, -⟩ := nrm_split h1
  rw [sg_abs] at h2 h3
  refine ⟨by rw [nrm_nz e h1, hd, sg_abs], ?_⟩
  rw [h3, sg_lt (by omega)]
end Go.Proofs.YtigpnopeacicpaaDoor
/-
  The reference's numbers: how many zero bits one ends with.
-/
namespace Go.Proofs.YtigpnopeacicpaaDoor
open Go.RowKit

theorem rlow_at {xs : List Nat} {i k : Nat} (hi : i < xs.length) (hz : ∀ j, j < i → xs[j]?.getD 0 = 0) (hk : k < 32) (h0 : xs[i]?.getD 0 % 2 ^ k = 0) (h1 : xs[i]?.getD 0 / 2 ^ k % 2 = 1) : lowN (R.val xs) = 32 * i + k := by
  have e1 := R.val_take_drop xs i (by omega)
  have e2 : R.val (xs.take i) = 0 := by
    have : xs.take i = List.replicate i 0 := by
      apply List.ext_getElem
      · simp; omega
      · intro j h1 h2
        simp only [List.getElem_take, List.getElem_replicate]
        simp only [List.length_take, List.length_replicate] at h1 h2
        have := hz j h2
        rw [List.getElem?_eq_getElem (by omega)] at this
        simpa using this
    rw [this, R.val_zeros]
  have e3 := R.val_drop_cons xs i hi
  generalize xs[i]?.getD 0 = x at *
  rw [e2, Nat.zero_add, e3] at e1
  have hp : 0 < 2 ^ k := Nat.pow_pos (by omega)
  have e4 := Nat.div_add_mod x (2 ^ k)
  rw [h0, Nat.add_zero] at e4
  obtain ⟨t, ht⟩ : ∃ t, x / 2 ^ k = 2 * t + 1 := ⟨x / 2 ^ k / 2, by omega⟩
  rw [ht] at e4
  have e5 : R.BB = 2 ^ k * (2 * 2 ^ (31 - k)) := by
    rw [R.BB_pow, Nat.mul_comm 2, ← Nat.pow_succ, ← Nat.pow_add]
    congr 1
    omega
  have e6 : R.val xs = 2 ^ (32 * i + k) * (2 * (t + 2 ^ (31 - k) * R.val (xs.drop (i + 1))) + 1) := by
    rw [e1, ← e4]
    generalize R.val (xs.drop (i + 1)) = v at *
    have e7 : R.BB ^ i = 2 ^ (32 * i) := by rw [R.BB_pow, Nat.pow_mul]
    rw [e7, Nat.pow_add, Nat.mul_assoc]
    congr 1
    rw [e5]
    generalize 2 ^ (31 - k) = u at *
    rw [Nat.mul_assoc, ← Nat.mul_add, Nat.mul_assoc 2 u v]
    congr 1
    omega
  rw [e6, lowN_is]

theorem and_one_u64 (y : Nat) (h : y < 18446744073709551616) : bits .and .u64 (y : Int) 1 = ((y % 2 : Nat) : Int) := by
  have := bits_and_u64_nat y 1 h (by omega)
  rw [Nat.and_one_is_mod] at this
  exact this
set_option maxHeartbeats 1600000 in
set_option maxRecDepth 100000 in
theorem rlow_v {w : World} {a : Value} {m : Nat} (ha : Hid (RV w a m)) (hf : Hid (Few m)) : Calls Tryd.prog 77 #[a] w fun e w' => e = .returned (.int .i64 (lowN m : Int)) ∧ w = w' := by
  have hl := hf.out.digits
  obtain ⟨A, c, rfl, p1, p2⟩ := ha.out
  have HX := Lib.hid (R.limb_limbsOf m)
  have HV := Lib.hid (R.val_limbsOf m)
  have HA := Lib.hid p1
  generalize R.limbsOf m = xs at *
  obtain ⟨n, hn⟩ : ∃ n, xs.length = n := ⟨_, rfl⟩
  have HN := Lib.hid hn
  rw [hn] at hl ⊢
  clear p1 p2 ha hn
  go_enter Tryd.func77, Tryd.ntmps77
  go_wp2_with fail
  go_loop [3, 4] (fun nv iv => ∃ i : Nat, i ≤ n ∧ nv = .int .i64 (32 * (i : Int)) ∧ iv = .int .i64 (i : Int) ∧ ∀ j, j < i → xs[j]?.getD 0 = 0) (fun _ iv => n - (intOf iv).toNat)
  case atStart => exact ⟨0, Nat.zero_le _, rfl, rfl, fun j h => by omega⟩
  case round =>
    obtain ⟨i, hi, rfl, rfl, hz⟩ := hrel
    have HZ := Lib.hid hz
    clear hz
    by_cases hlt : i < n
    · have hlti : (i : Int) < (n : Int) := by omega
      have HLt := Lib.hid hlt
      obtain ⟨b, o, rfl, hc⟩ := HA.out i (by have := HN.out; omega)
      have HXi := Lib.hid (HX.out.get i)
      obtain ⟨x, hx⟩ : ∃ x, xs[i]?.getD 0 = x := ⟨_, rfl⟩
      have HXx := Lib.hid hx
      rw [hx] at hc HXi
      clear hx hlt
      go_wp2_with fail
      go_loopw [3, 5] (fun nv kv wr => ∃ k : Nat, k ≤ 32 ∧ nv = .int .i64 (32 * (i : Int) + (k : Int)) ∧ kv = .int .i64 (k : Int) ∧ x % 2 ^ k = 0 ∧ wr = w) (fun _ kv _ => 32 - (intOf kv).toNat)
      case atStart => exact ⟨0, by omega, by simp, rfl, by rw [Nat.pow_zero]; exact Nat.mod_one _, rfl⟩
      case round =>
        obtain ⟨k, hk, rfl, rfl, hm, rfl⟩ := hrel
        have HM := Lib.hid hm
        clear hm
        by_cases hk32 : k < 32
        · have hki : (k : Int) < 32 := by omega
          have hk64 : (k : Int) ≤ 64 := by omega
          obtain ⟨y, hy⟩ : ∃ y, x / 2 ^ k = y := ⟨_, rfl⟩
          have hd1 : (x : Int) / 2 ^ k = (y : Int) := by rw [← hy]; simp
          have hyl : y < 4294967296 := by rw [← hy]; exact Nat.lt_of_le_of_lt (Nat.div_le_self _ _) (by have := HXi.out; rwa [R.BB_val] at this)
          have hd2 : IntKind.u64.wrap (y : Int) = (y : Int) := u64_wrap (by rw [BB_val]; omega)
          have hand := and_one_u64 y (by omega)
          have HKl := Lib.hid hk32
          have HY := Lib.hid hy
          clear hk32 hy hyl
          rcases Nat.mod_two_eq_zero_or_one y with h2 | h2
          · rw [h2] at hand
            have HN2 : Hid (x % 2 ^ (k + 1) = 0) := by
              have e1 := Nat.div_add_mod x (2 ^ k)
              rw [HM.out, HY.out, Nat.add_zero] at e1
              show _ = _
              rw [← e1, Nat.pow_succ, show y = 2 * (y / 2) by omega, ← Nat.mul_assoc]
              exact Nat.mul_mod_right _ _
            clear h2
            simp only [Int.natCast_zero] at hand
            go_wp2_with fail
            go_roundw
            case rel => exact ⟨k + 1, by have := HKl.out; omega, by go_num, by go_num, HN2.out, trivial⟩
            case measure => have := HKl.out; simp [intOf]; omega
          · rw [h2] at hand
            have HLow : Hid (lowN m = 32 * i + k) := by
              show _ = _
              rw [← HV.out]
              exact rlow_at (by have := HN.out; have := HLt.out; omega) HZ.out HKl.out (by rw [HXx.out]; exact HM.out) (by rw [HXx.out, HY.out]; exact h2)
            clear h2
            simp only [Int.natCast_one] at hand
            go_wp2_with fail
            go_ret
            exact ⟨by rw [HLow.out]; simp, rfl⟩
        · obtain rfl : k = 32 := by omega
          have HZ2 : Hid (∀ j, j < i + 1 → xs[j]?.getD 0 = 0) := fun j hj => by
            rcases Nat.lt_or_ge j i with h | h
            · exact HZ.out j h
            · obtain rfl : j = i := by omega
              have h1 := HM.out
              have h2 := HXi.out
              rw [R.BB_pow] at h2
              rw [HXx.out]
              rwa [Nat.mod_eq_of_lt h2] at h1
          clear hk32
          go_wp2_with fail
          go_round
          case rel => exact ⟨i + 1, by have := HLt.out; omega, congrArg (Value.int .i64) (by omega), by go_num, HZ2.out⟩
          case measure => have := HLt.out; simp [intOf]; omega
    · obtain rfl : i = n := by omega
      have hM0 : m = 0 := by
        have h1 : xs = List.replicate i 0 := by
          apply List.ext_getElem
          · rw [List.length_replicate]; exact HN.out
          · intro j h1 h2
            have h3 := HZ.out j (by rw [← HN.out]; exact h1)
            rw [List.getElem?_eq_getElem h1] at h3
            simpa using h3
        rw [← HV.out, h1, R.val_zeros]
      have hnl : ¬ (i : Int) < (i : Int) := by omega
      have HLow : Hid (lowN m = 0) := by rw [hM0]; exact lowN_zero
      clear hlt hM0
      go_wp2_with fail
      go_ret
      exact ⟨by rw [HLow.out]; rfl, rfl⟩
end Go.Proofs.YtigpnopeacicpaaDoor
/-
  The reference's dyads: Make, Sign, Not, Int.
-/
namespace Go.Proofs.YtigpnopeacicpaaDoor
set_option linter.unusedSimpArgs false
open Go.RowKit
set_option maxHeartbeats 1600000 in
set_option maxRecDepth 100000 in
theorem rmake_d {w : World} {a : Value} {n : Nat} {r : Dy} (s : Bool) (e : Int) (ha : Hid (RV w a n)) (hf : Hid (Few n)) (h1 : -4000000000000000000 ≤ e) (h2 : e ≤ 4000000000000000000) (hr : nrm (sg s n) e = r) : Calls Tryd.prog 46 #[.bool s, a, .int .i64 e] w (RDP r w) := by
  have hb := few_bits hf.out
  have hl := ha.out
  obtain ⟨A, c, rfl, -, -⟩ := ha.out
  have hk := (KB.start w).new 47 [.bool false, .slice none 0 0, .int .i64 0]
  have HM := Lib.hid (ha.out.only hk.only)
  have HK := Lib.hid hk
  clear ha hk hl
  by_cases hn : n = 0
  · subst hn
    have hlen : (R.limbsOf 0).length = 0 := by rw [R.limbsOf_zero]; rfl
    rw [sg_zero, nrm_zero] at hr
    subst hr
    rw [hlen] at HM ⊢
    obtain ⟨c0, c1, c2, f0, f1, f2⟩ := HK.out.c3 0 rfl
    have HB := Lib.hid (HK.out.blk 0 rfl)
    have HO := Lib.hid HK.out.only
    clear HK hlen
    go_enter Tryd.func46, Tryd.ntmps46
    go_wp2_with fail
    refine bodyPost_ret (v := .agg #[.bool false, .slice none 0 0, .int .i64 (0)]) (by simp [results, Tryd.results46, go_sem, c0, c1, c2]) rfl ?_
    exact rdfin (x := ⟨0, 0⟩) (RV.nil _) ⟨by decide, by show 0 = (R.limbsOf 0).length; rw [R.limbsOf_zero]; rfl⟩ (Nat.le_refl _) HB.out (noLimb3 _ _ _ _ _) HO.out (Only.refl _ _)
  · have hk0 : (((R.limbsOf n).length : Int) == 0) = false := by
      rw [beq_eq_false_iff_ne]
      have : (R.limbsOf n).length ≠ 0 := fun h => hn (R.limbsOf_len0.1 h)
      omega
    obtain ⟨g1, g2⟩ := nrm_sg (s := s) e hn
    rw [g1] at hr
    obtain ⟨l, hle⟩ : ∃ l, lowN n = l := ⟨_, rfl⟩
    have hlb := lowN_le_bits n
    have HLo := Lib.hid hle
    rw [hle] at g2 hr hlb
    have hl9 : (l : Int) ≤ 90000000 := by omega
    have hsum : IntKind.i64.wrap (e + (l : Int)) = e + (l : Int) := wrap_i64 (by omega)
    subst hr
    have HS := Lib.hid g2
    clear hle hb g1 g2 hlb hn
    generalize (R.limbsOf n).length = k at *
    go_enter Tryd.func46, Tryd.ntmps46
    go_wp2_with fail
    (with_reducible refine (rlow_v HM hf).mono ?_)
    rintro e1 w2 ⟨rfl, rfl⟩
    rw [HLo.out]
    go_wp2_with fail
    (with_reducible refine (rshr_v l hl9 HM hf).mono ?_)
    rintro e2 w3 ⟨A1, k1, c1, rfl, hv, -, ho⟩
    have HV := Lib.hid hv
    have hk := HK.out.step ho
    obtain ⟨q0, q1, q2, f0, f1, f2⟩ := hk.c3 0 rfl
    have HB := Lib.hid (hk.blk 0 rfl)
    have HO := Lib.hid hk.only
    clear hv hk HK ho
    go_wp2_with fail
    refine bodyPost_ret (v := .agg #[.bool s, .slice A1 k1 c1, .int .i64 (e + (l : Int))]) (by simp [results, Tryd.results46, go_sem, q0, q1, q2]) rfl ?_
    exact rdfin (x := ⟨sg s (n / 2 ^ l), e + (l : Int)⟩) (by show Hid (RV _ _ (sg s (n / 2 ^ l)).natAbs); rw [sg_abs]; exact HV) ⟨HS.out, by show _ = (R.limbsOf (sg s (n / 2 ^ l)).natAbs).length; rw [sg_abs]; exact HV.out.len⟩ (Nat.le_refl _) HB.out (noLimb3 _ _ _ _ _) HO.out (only_set3 _ _ _ _ _)

set_option maxHeartbeats 800000 in
theorem rsign_d {w : World} {a : Value} {x : Dy} (p : Int) (ha : Hid (RD w a x)) (hp : x.z.sign = p) : Calls Tryd.prog 16 #[a] w fun e w' => e = .returned (.int .i64 p) ∧ Only [] w w' := by
  obtain ⟨s, A, k, c, rfl, ⟨h1, h2⟩, -⟩ := ha.out
  have hk := (KB.start w).new 47 [.bool s, .slice A k c, .int .i64 x.e]
  obtain ⟨q0, q1, q2, -, -, -⟩ := hk.c3 0 rfl
  have HO := Lib.hid hk.only
  have hz := sign_of x.z
  have hl0 : k = 0 ↔ x.z = 0 := by rw [h2, R.limbsOf_len0]; omega
  clear ha hk h2
  rcases hz with ⟨e1, e2⟩ | ⟨e1, e2⟩ | ⟨e1, e2⟩ <;> rw [e1] at hp <;> subst hp
  · have hk0 : ((k : Int) == 0) = false := by rw [beq_eq_false_iff_ne]; omega
    obtain rfl : s = true := by rw [h1]; simpa using e2
    clear h1 e1 e2 hl0
    go_enter Tryd.func16, Tryd.ntmps16
    go_wp2_with fail
    go_ret
    exact ⟨rfl, HO.out⟩
  · obtain rfl : k = 0 := hl0.2 e2
    clear h1 e1 e2 hl0
    go_enter Tryd.func16, Tryd.ntmps16
    go_wp2_with fail
    go_ret
    exact ⟨rfl, HO.out⟩
  · have hk0 : ((k : Int) == 0) = false := by rw [beq_eq_false_iff_ne]; omega
    obtain rfl : s = false := by rw [h1]; simp; omega
    clear h1 e1 e2 hl0
    go_enter Tryd.func16, Tryd.ntmps16
    go_wp2_with fail
    go_ret
    exact ⟨rfl, HO.out⟩
theorem rd_few {N : Nat} {x : Dy} (h : Bnd N x) (hN : N ≤ 8000000) : Few x.z.natAbs := few_two_pow h.z (by omega)
end Go.Proofs.YtigpnopeacicpaaDoor
/-
  The reference's dyads: Mul, Add.
-/
namespace Go.Proofs.YtigpnopeacicpaaDoor
set_option linter.unusedSimpArgs false
open Go.RowKit

end Go.Proofs.YtigpnopeacicpaaDoor
/-
  The reference's dyads: Sub, Top, Cmp, Same.
-/
namespace Go.Proofs.YtigpnopeacicpaaDoor
set_option linter.unusedSimpArgs false
open Go.RowKit

theorem rbitsV_v {w : World} {a : Value} {m : Nat} (b : Nat) (ha : Hid (RV w a m)) (hfa : Hid (Few m)) (hb : bitsN m = b) : Calls Tryd.prog 84 #[a] w fun e w' => e = .returned (.int .i64 (b : Int)) ∧ w = w' := hb ▸ rbits_v ha hfa
end Go.Proofs.YtigpnopeacicpaaDoor
/-
  The reference's dyad of a dyad.
-/
namespace Go.Proofs.YtigpnopeacicpaaDoor
set_option linter.unusedSimpArgs false
open Go.RowKit

/-- A dyad of the reference's in a box. -/
structure QB (w : World) (g : Nat) (s : Bool) (A : Option Addr) (k c : Nat) (x : Dy) : Prop where
  blk : Blk w g 47 [.bool s, .slice A k c, .int .i64 x.e]
  val : RV w (.slice A k c) x.z.natAbs
  cr : Cr s k x.z

theorem QB.new {w : World} {s : Bool} {A : Option Addr} {k c : Nat} {x : Dy} (hv : RV w (.slice A k c) x.z.natAbs) (hc : Cr s k x.z) : QB (w.alloc (.cells #[.bool s, .slice A k c, .int .i64 x.e] 47)) w.heap.size s A k c x :=
  ⟨Blk.new w 47 _, hv.only ((Only.refl [] w).alloc _), hc⟩

theorem QB.far {w w' : World} {g b : Nat} {s : Bool} {A : Option Addr} {k c : Nat} {x : Dy} {t : TypeId} {cs : List Value} (h : QB w g s A k c x) (ho : Only [b] w w') (hne : g ≠ b) (hb : Blk w b t cs) (hn : NoLimb cs) : QB w' g s A k c x :=
  ⟨h.blk.only ho (by simpa using hne), h.val.farS ho (fun g' hg' => by rw [List.mem_singleton] at hg'; subst hg'; exact h.val.far_blk hb hn), h.cr⟩

theorem QB.cells {w : World} {g : Nat} {s : Bool} {A : Option Addr} {k c : Nat} {x : Dy} (h : Hid (QB w g s A k c x)) : w.cell? ⟨g, 0, none⟩ = some (.bool s) ∧ w.cell? ⟨g, 1, none⟩ = some (.slice A k c) ∧ w.cell? ⟨g, 2, none⟩ = some (.int .i64 x.e) := ⟨h.out.blk.cell 0, h.out.blk.cell 1, h.out.blk.cell 2⟩

end Go.Proofs.YtigpnopeacicpaaDoor
