/-
  Joined texts.
-/
import Derived.Test.YtigpnopeacicpaaGreatDoorTnJ18
import Derived.Laws.MakeOwn
import Derived.Test.YtigpnopeacicpaaGreatDoorTnJ8
/-
  The reference's Parse.
-/
namespace Go.Proofs.YtigpnopeacicpaaGreatDoor
open Go.RowKit

theorem LRead.lt {w : World} {A : Option Addr} {xs : List Nat} (h : LRead w A xs) (h0 : 0 < xs.length) : ∀ a, A = some a → a.block < w.heap.size := by
  obtain ⟨b, o, rfl, hc⟩ := h 0 h0
  rintro a ha
  injection ha with ha
  subst ha
  exact World.block_lt_of_cell? w _ hc

end Go.Proofs.YtigpnopeacicpaaGreatDoor
/-
  The reference's numbers: Shl, Shr.
-/
namespace Go.Proofs.YtigpnopeacicpaaGreatDoor
open Go.RowKit

/-- Where a row stands that is being shifted up. -/
structure UCar (w wr : World) (A' : Option Addr) (c' s r : Nat) (xs os : List Nat) (k cy : Nat) : Prop where
  at_ : LimbsAt wr (.slice A' (s + k) c') os
  len : os.length = s + k
  limb : R.Limb os
  cyl : cy < R.BB
  val_ : R.val os + R.BB ^ (s + k) * cy = R.BB ^ s * (R.val (xs.take k) * 2 ^ r)
  fresh : ∀ g, (Value.slice A' (s + k) c').ownBlock = some g → w.heap.size ≤ g
  only : Only [] w wr

theorem UCar.step {w wr : World} {A' : Option Addr} {c' s r : Nat} {xs os : List Nat} {k cy t : Nat} (h : UCar w wr A' c' s r xs os k cy) (hk : k < xs.length) (ht : t = xs[k]?.getD 0 * 2 ^ r + cy) (hb : t < R.BB * R.BB) (w4 : World) (g' c2 : Nat)
    (h1 : LimbsAt w4 (.slice (some ⟨g', 0, none⟩) (s + k + 1) c2) (os ++ [t % R.BB])) (h2 : (Value.slice A' (s + k) c').ownBlock = some g' ∨ (wr.alloc (Obj.cells (limbV [t % R.BB]).toArray 133)).heap.size ≤ g') (h3 : Only (Value.slice A' (s + k) c').ownBlock.toList (wr.alloc (Obj.cells (limbV [t % R.BB]).toArray 133)) w4) :
    UCar w w4 (some ⟨g', 0, none⟩) c2 s r xs (os ++ [t % R.BB]) (k + 1) (t / R.BB) := by
  have hl := h.len
  refine ⟨h1, by rw [List.length_append, hl]; rfl, h.limb.append (R.limb_one (Nat.mod_lt _ R.BB_pos)), by rwa [Nat.div_lt_iff_lt_mul R.BB_pos], ?_, fresh_app h.only h.fresh ((Only.refl [] wr).alloc _) h2, frame_app h.only h.fresh ((Only.refl [] wr).alloc _) h3⟩
  rw [R.val_snoc, hl, R.val_take_succ xs k hk, ← Nat.add_assoc s k 1, Nat.pow_succ, Nat.mul_assoc, Nat.add_assoc, ← Nat.mul_add, Nat.mod_add_div, ht, Nat.add_mul, Nat.mul_add, Nat.mul_add]
  have := h.val_
  rw [Nat.pow_add, Nat.mul_assoc (R.BB ^ s), Nat.mul_assoc (R.BB ^ s)] at *
  rw [Nat.mul_assoc (R.BB ^ k)]
  omega

/-- A digit of a number that is shifted down. -/
def rshrD (r : Nat) (xs : List Nat) (j : Nat) : Nat := xs[j]?.getD 0 / 2 ^ r + (xs[j + 1]?.getD 0 * 2 ^ (32 - r)) % R.BB

def rshrL (r : Nat) : List Nat → List Nat
  | [] => []
  | x :: xs => (x / 2 ^ r + (xs[0]?.getD 0 * 2 ^ (32 - r)) % R.BB) :: rshrL r xs

theorem rshrL_len (r : Nat) : ∀ xs : List Nat, (rshrL r xs).length = xs.length
  | [] => rfl
  | x :: xs => by rw [rshrL, List.length_cons, rshrL_len r xs, List.length_cons]

theorem rshrL_get (r : Nat) : ∀ (xs : List Nat) (j : Nat), j < xs.length → (rshrL r xs)[j]?.getD 0 = rshrD r xs j
  | [], j, h => by simp at h
  | x :: xs, 0, _ => by simp [rshrL, rshrD]
  | x :: xs, j + 1, h => by
    rw [rshrL, List.getElem?_cons_succ, rshrL_get r xs j (by simpa using h)]
    simp [rshrD]

theorem R.val_head (xs : List Nat) (hx : R.Limb xs) : R.val xs % R.BB = xs[0]?.getD 0 := by
  cases xs with
  | nil => simp [R.val]
  | cons x xs =>
    rw [R.val, Nat.add_mul_mod_self_left, Nat.mod_eq_of_lt (hx x (by simp))]
    rfl

theorem two_split {r : Nat} (hr : r < 32) : (2 : Nat) ^ r * 2 ^ (32 - r) = R.BB := by rw [← Nat.pow_add, R.BB_pow]; congr 1; omega

theorem rshrD_lt {r x y : Nat} (hr : r < 32) (hx : x < R.BB) : x / 2 ^ r + (y * 2 ^ (32 - r)) % R.BB < R.BB := by
  have hp : 0 < 2 ^ r := Nat.pow_pos (by omega)
  have hsp := two_split hr
  have hx2 : x / 2 ^ r < 2 ^ (32 - r) := by
    rw [Nat.div_lt_iff_lt_mul hp, Nat.mul_comm, hsp]
    exact hx
  have hm := Nat.mod_lt y hp
  have hm2 : (y % 2 ^ r + 1) * 2 ^ (32 - r) ≤ 2 ^ r * 2 ^ (32 - r) := Nat.mul_le_mul_right _ hm
  rw [hsp, Nat.add_mul, Nat.one_mul] at hm2
  have hy2 : y * 2 ^ (32 - r) % R.BB = y % 2 ^ r * 2 ^ (32 - r) := by rw [← hsp, Nat.mul_mod_mul_right]
  omega

theorem rshrL_limb {r : Nat} (hr : r < 32) : ∀ {xs : List Nat}, R.Limb xs → R.Limb (rshrL r xs)
  | [], _ => R.limb_nil
  | x :: xs, h => fun d hd => by
    rcases List.mem_cons.1 hd with rfl | hd
    · exact rshrD_lt hr (h x (by simp))
    · exact rshrL_limb hr h.tail d hd

theorem rshrL_val {r : Nat} (hr : r < 32) : ∀ {xs : List Nat}, R.Limb xs → R.val (rshrL r xs) = R.val xs / 2 ^ r
  | [], _ => by simp [rshrL, R.val]
  | x :: xs, h => by
    have hp : 0 < 2 ^ r := Nat.pow_pos (by omega)
    have hsp := two_split hr
    rw [rshrL, R.val, rshrL_val hr h.tail, R.val, ← R.val_head xs h.tail]
    have e1 : (x + R.BB * R.val xs) / 2 ^ r = x / 2 ^ r + 2 ^ (32 - r) * R.val xs := by
      rw [← hsp, Nat.mul_assoc, Nat.add_mul_div_left _ _ hp]
    have e2 : R.val xs % R.BB * 2 ^ (32 - r) % R.BB = R.val xs % 2 ^ r * 2 ^ (32 - r) := by
      rw [Nat.mod_mul_mod, ← hsp, Nat.mul_mod_mul_right]
    rw [e1, e2, ← hsp, Nat.add_assoc]
    congr 1
    have h3 := Nat.mod_add_div (R.val xs) (2 ^ r)
    calc R.val xs % 2 ^ r * 2 ^ (32 - r) + 2 ^ r * 2 ^ (32 - r) * (R.val xs / 2 ^ r) = 2 ^ (32 - r) * (R.val xs % 2 ^ r + 2 ^ r * (R.val xs / 2 ^ r)) := by
          rw [Nat.mul_add, Nat.mul_comm (R.val xs % 2 ^ r), Nat.mul_comm (2 ^ r) (2 ^ (32 - r)), Nat.mul_assoc]
      _ = 2 ^ (32 - r) * R.val xs := by rw [h3]

theorem shr_drop {xs : List Nat} (hx : R.Limb xs) (s r : Nat) : R.val (xs.drop s) / 2 ^ r = R.val xs / 2 ^ (s * 32 + r) := by
  have e : R.val xs / R.BB ^ s = R.val (xs.drop s) := by
    by_cases h : s ≤ xs.length
    · have h1 := R.val_take_drop xs s h
      have h2 := R.val_lt (hx.take s)
      rw [List.length_take, Nat.min_eq_left h] at h2
      rw [h1, Nat.add_mul_div_left _ _ (R.BB_pow_pos s), Nat.div_eq_of_lt h2, Nat.zero_add]
    · rw [List.drop_eq_nil_of_le (by omega), Nat.div_eq_of_lt (Nat.lt_of_lt_of_le (R.val_lt hx) (Nat.pow_le_pow_right R.BB_pos (by omega)))]
      rfl
  rw [Nat.pow_add, Nat.mul_comm s, Nat.pow_mul, ← R.BB_pow, ← Nat.div_div_eq_div_mul, e]

/-- Where a row stands that is being shifted down. -/
structure DCar (w wr : World) (A' : Option Addr) (c' s r : Nat) (xs os : List Nat) (k : Nat) : Prop where
  at_ : LimbsAt wr (.slice A' k c') os
  eq : os = (rshrL r (xs.drop s)).take k
  fresh : ∀ g, (Value.slice A' k c').ownBlock = some g → w.heap.size ≤ g
  only : Only [] w wr

set_option maxHeartbeats 1600000 in
set_option maxRecDepth 100000 in
theorem rshr_any (A : Option Addr) (m c n s r : Nat) (xs : List Nat) (w : World) (hA : Hid (LRead w A xs)) (hx : Hid (R.Limb xs)) (hm : Hid (m = xs.length)) (hn : Hid (n = s * 32 + r)) (hr : Hid (r < 32)) (hml : (m : Int) ≤ 3000000) (hsl : (s : Int) ≤ 3000000) :
    Calls Tryz.prog 102 #[.slice A m c, .int .i64 (n : Int)] w (RPost (R.val xs / 2 ^ n) w) := by
  have hq2 : (n : Int) / 32 = (s : Int) := by have := hn.out; have := hr.out; omega
  have hq4 : (n : Int) % 32 = (r : Int) := by have := hn.out; have := hr.out; omega
  have hq1 : (n : Int).tdiv 32 = (s : Int) := by rw [Int.tdiv_eq_ediv_of_nonneg (by omega)]; exact hq2
  have hq3 : (n : Int).tmod 32 = (r : Int) := by rw [Int.tmod_eq_emod_of_nonneg (by omega)]; exact hq4
  obtain ⟨q, hq⟩ : ∃ q, 32 - r = q := ⟨_, rfl⟩
  have hqi : (32 : Int) - (r : Int) = (q : Int) := by have := hr.out; omega
  have HQ := Lib.hid hq
  have hql : (q : Int) ≤ 32 := by omega
  clear hq
  have HStart : Hid (DCar w w none 0 s r xs [] 0) := ⟨limbsAt_nil _, by simp, by simp [Value.ownBlock], Only.refl _ _⟩
  go_enter Tryz.func102, Tryz.ntmps102
  go_wp2_with fail
  go_loopw [5, 6] (fun ov i wr => ∃ (k p : Nat) (os : List Nat) (A' : Option Addr) (c' : Nat), p = s + k ∧ (p ≤ m ∨ k = 0) ∧ ov = .slice A' k c' ∧ i = .int .i64 (p : Int) ∧ DCar w wr A' c' s r xs os k) (fun _ i _ => m - (intOf i).toNat)
  case atStart => exact ⟨0, s, [], none, 0, rfl, .inr rfl, rfl, rfl, HStart.out⟩
  case round =>
    obtain ⟨k, p, os, A', c', hp, hpm, rfl, rfl, hR⟩ := hrel
    have HR := Lib.hid hR
    have HP : Hid (p = s + k ∧ (p ≤ m ∨ k = 0)) := ⟨hp, hpm⟩
    clear hR HStart hp hpm
    by_cases hlt : p < m
    · obtain ⟨b, o, rfl, e1⟩ := hA.out p (by have := hm.out; omega)
      have p0 := HR.out.only.cell e1 (by simp)
      have hpi : (p : Int) < (m : Int) := by omega
      have HX := Lib.hid (hx.out.get p)
      have HD : Hid (rshrD r (xs.drop s) k = xs[p]?.getD 0 / 2 ^ r + (xs[p + 1]?.getD 0 * 2 ^ q) % R.BB) := by
        show _ = _
        unfold rshrD
        rw [List.getElem?_drop, List.getElem?_drop, HP.out.1, HQ.out]
        rfl
      have hd1 : ((xs[p]?.getD 0 : Nat) : Int) / 2 ^ r = ((xs[p]?.getD 0 / 2 ^ r : Nat) : Int) := by simp
      have hd2 : IntKind.u64.wrap ((xs[p]?.getD 0 / 2 ^ r : Nat) : Int) = ((xs[p]?.getD 0 / 2 ^ r : Nat) : Int) := u64_wrap (Nat.lt_of_le_of_lt (Nat.div_le_self _ _) (by have := HX.out; rw [R.BB_val] at this; rw [BB_val]; omega))
      have HDl : Hid (xs[p]?.getD 0 / 2 ^ r + (xs[p + 1]?.getD 0 * 2 ^ q) % R.BB < R.BB) := by
        have := rshrD_lt (y := xs[p + 1]?.getD 0) hr.out HX.out
        rw [HQ.out] at this
        exact this
      by_cases hl2 : p + 1 < m
      · obtain ⟨_, _, e3, h2⟩ := hA.out (p + 1) (by have := hm.out; omega)
        injection e3 with e3
        injection e3 with e3 e4 _
        subst e3 e4
        have q0 := HR.out.only.cell h2 (by simp)
        have hpi2 : (p : Int) + 1 < (m : Int) := by omega
        have HY := Lib.hid (hx.out.get (p + 1))
        have HPow : Hid (2 ^ q ≤ 4294967296) := by
          have : 2 ^ q ≤ 2 ^ 32 := Nat.pow_le_pow_right (by omega) (by omega)
          exact this
        generalize xs[p]?.getD 0 = x at p0 hd1 hd2 HX HD HDl
        generalize xs[p + 1]?.getD 0 = y at q0 HY HD HDl
        have hy2 : y * 2 ^ q ≤ 4294967295 * 4294967296 := Nat.mul_le_mul (by have := HY.out; rw [R.BB_val] at this; omega) HPow.out
        obtain ⟨y1, hy1⟩ : ∃ y1, y * 2 ^ q = y1 := ⟨_, rfl⟩
        rw [hy1] at hy2 HD HDl
        have hw1 : IntKind.u64.wrap ((y : Int) * 2 ^ q) = (y1 : Int) := by
          rw [show (y : Int) * 2 ^ q = ((y * 2 ^ q : Nat) : Int) by simp, hy1]
          exact u64_wrap (by rw [BB_val]; omega)
        have hr1 : (y1 : Int) % 4294967296 = ((y1 % R.BB : Nat) : Int) := by rw [R.BB_val]; omega
        have hr3 : (y1 : Int).tmod 4294967296 = ((y1 % R.BB : Nat) : Int) := by rw [Int.tmod_eq_emod_of_nonneg (by omega)]; exact hr1
        generalize x / 2 ^ r = x1 at *
        generalize y1 % R.BB = y2 at *
        obtain ⟨v, hv⟩ : ∃ v, x1 + y2 = v := ⟨_, rfl⟩
        have hvl := HDl.out
        rw [hv, R.BB_val] at hvl
        have hw2 : IntKind.u64.wrap ((x1 : Int) + (y2 : Int)) = (v : Int) := u64_add hv (by rw [BB_val]; omega)
        have hr5 : (v : Int) % 4294967296 = (v : Int) := by omega
        have hr6 : (v : Int).tmod 4294967296 = (v : Int) := by rw [Int.tmod_eq_emod_of_nonneg (by omega)]; exact hr5
        have HV : Hid (rshrD r (xs.drop s) k = v) := HD.out.trans hv
        have hpk := HP.out.1
        have HPk := Lib.hid hpk
        clear e1 h2 hy2 hy1 hv hvl hlt hl2 hpk
        have HLen : Hid (k = os.length) := by
          show _ = _
          rw [HR.out.eq, List.length_take, rshrL_len, List.length_drop]
          have := hm.out
          have := HP.out.1
          omega
        have hki6 : (k : Int) ≤ 3000000 := by have := HP.out.1; omega
        have HNext : Hid (os ++ [v] = (rshrL r (xs.drop s)).take (k + 1)) := by
          have hl : k < (rshrL r (xs.drop s)).length := by
            rw [rshrL_len, List.length_drop]
            have := hm.out
            have := HP.out.1
            omega
          show _ = _
          rw [List.take_succ_eq_append_getElem hl, ← HR.out.eq]
          have := HV.out
          rw [← rshrL_get r _ k (by rw [rshrL_len] at hl; exact hl), List.getElem?_eq_getElem hl] at this
          rw [← this]
          rfl
        have HAt := Lib.hid HR.out.at_
        clear HV
        go_wp2_with (at_builtin; refine append_limbs 36 Tryz.underlying36 rfl _ _ rfl (.slice A' k c') k os [v] rfl (HAt.out.only ((Only.refl [] wr).alloc _) (by simp)) HLen.out wr.heap.size 1 rfl rfl (by simp) (Blk.new wr 133 (limbV [v])) (by omega) ?_; intro g' c2 w4 h1 h2 h3; have HA4 := Lib.hid h1; have HF4 := Lib.hid h2; have HO4 := Lib.hid h3; clear h1 h2 h3)
        go_wp2_with fail
        go_roundw
        case rel => exact ⟨k + 1, p + 1, _, some ⟨g', 0, none⟩, c2, by have := HP.out.1; omega, by omega, rfl, by go_num, ⟨HA4.out, HNext.out, fresh_app HR.out.only HR.out.fresh ((Only.refl [] wr).alloc _) HF4.out, frame_app HR.out.only HR.out.fresh ((Only.refl [] wr).alloc _) HO4.out⟩⟩
        case measure => simp [intOf]; omega
      · have hpi2 : ¬ (p : Int) + 1 < (m : Int) := by omega
        have hz : xs[p + 1]?.getD 0 = 0 := by rw [List.getElem?_eq_none (by have := hm.out; omega)]; rfl
        rw [hz, Nat.zero_mul, Nat.zero_mod, Nat.add_zero] at HD HDl
        generalize hgx : xs[p]?.getD 0 = x at p0 hd1 hd2 HX HD HDl
        generalize x / 2 ^ r = v at *
        have hvl := HDl.out
        rw [R.BB_val] at hvl
        have hr5 : (v : Int) % 4294967296 = (v : Int) := by omega
        have hr6 : (v : Int).tmod 4294967296 = (v : Int) := by rw [Int.tmod_eq_emod_of_nonneg (by omega)]; exact hr5
        have HV : Hid (rshrD r (xs.drop s) k = v) := HD.out
        have hpk := HP.out.1
        clear e1 hz hvl hgx hlt hl2 hpk
        have HLen : Hid (k = os.length) := by
          show _ = _
          rw [HR.out.eq, List.length_take, rshrL_len, List.length_drop]
          have := hm.out
          have := HP.out.1
          omega
        have hki6 : (k : Int) ≤ 3000000 := by have := HP.out.1; omega
        have HNext : Hid (os ++ [v] = (rshrL r (xs.drop s)).take (k + 1)) := by
          have hl : k < (rshrL r (xs.drop s)).length := by
            rw [rshrL_len, List.length_drop]
            have := hm.out
            have := HP.out.1
            omega
          show _ = _
          rw [List.take_succ_eq_append_getElem hl, ← HR.out.eq]
          have := HV.out
          rw [← rshrL_get r _ k (by rw [rshrL_len] at hl; exact hl), List.getElem?_eq_getElem hl] at this
          rw [← this]
          rfl
        have HAt := Lib.hid HR.out.at_
        clear HV
        go_wp2_with (at_builtin; refine append_limbs 36 Tryz.underlying36 rfl _ _ rfl (.slice A' k c') k os [v] rfl (HAt.out.only ((Only.refl [] wr).alloc _) (by simp)) HLen.out wr.heap.size 1 rfl rfl (by simp) (Blk.new wr 133 (limbV [v])) (by omega) ?_; intro g' c2 w4 h1 h2 h3; have HA4 := Lib.hid h1; have HF4 := Lib.hid h2; have HO4 := Lib.hid h3; clear h1 h2 h3)
        go_wp2_with fail
        go_roundw
        case rel => exact ⟨k + 1, p + 1, _, some ⟨g', 0, none⟩, c2, by have := HP.out.1; omega, by omega, rfl, by go_num, ⟨HA4.out, HNext.out, fresh_app HR.out.only HR.out.fresh ((Only.refl [] wr).alloc _) HF4.out, frame_app HR.out.only HR.out.fresh ((Only.refl [] wr).alloc _) HO4.out⟩⟩
        case measure => simp [intOf]; omega
    · have hnl : ¬ (p : Int) < (m : Int) := by omega
      have HAll : Hid (os = rshrL r (xs.drop s)) := by
        have h := HR.out.eq
        rw [List.take_of_length_le (by rw [rshrL_len, List.length_drop]; have := hm.out; have := HP.out; omega)] at h
        exact h
      have HV : Hid (R.val os = R.val xs / 2 ^ n) := by
        show _ = _
        rw [HAll.out, rshrL_val hr.out (hx.out.drop s), shr_drop hx.out, hn.out]
      have HLb : Hid (R.Limb os) := by show R.Limb _; rw [HAll.out]; exact rshrL_limb hr.out (hx.out.drop s)
      have HLen : Hid (k = os.length) := by
        show _ = _
        rw [HR.out.eq, List.length_take, rshrL_len, List.length_drop]
        have := hm.out
        have := HP.out
        omega
      have HRd : Hid (LRead wr A' os) := (LimbsAt.read HR.out.at_).2
      have htr := rtrim_any A' k c' os wr HRd HLb HLen (by
            rcases HR.out.at_.2 with ⟨hv, h0⟩ | ⟨gp, cap, cur, hv, _, _, h5, _⟩
            · injection hv with _ h6 h7
              omega
            · injection hv with _ h6 h7
              omega) (by have := HP.out; omega)
      rw [HV.out] at htr
      have HTr := Lib.hid htr
      clear htr hlt
      go_wp2_with fail
      refine HTr.out.mono ?_
      rintro e w' ⟨rfl, rfl⟩
      go_wp2_with fail
      go_ret
      have h2 := RV.of_row HRd.out HLb.out
      rw [HV.out] at h2
      exact ⟨_, _, _, rfl, ⟨_, _, rfl, h2, Nat.le_refl _⟩, fun a ha => HR.out.fresh a.block (by rw [ha]; rfl), HR.out.only⟩

theorem rshr_v {w : World} {a : Value} {m : Nat} (n : Nat) (hn : (n : Int) ≤ 90000000) (ha : Hid (RV w a m)) (hf : Hid (Few m)) : Calls Tryz.prog 102 #[a, .int .i64 (n : Int)] w (RPost (m / 2 ^ n) w) := by
  obtain ⟨A, c, rfl, h1, h2⟩ := ha.out
  have := hf.out.digits
  have h := rshr_any A _ c n (n / 32) (n % 32) (R.limbsOf m) w (Lib.hid h1) (Lib.hid (R.limb_limbsOf m)) (Lib.hid rfl) (by show _ = _; omega) (by show _ < _; omega) (by omega) (by omega)
  rw [R.val_limbsOf] at h
  exact h

end Go.Proofs.YtigpnopeacicpaaGreatDoor
/-
  The reference's numbers: Cmp, Sub, Bits, Low.
-/
namespace Go.Proofs.YtigpnopeacicpaaGreatDoor
open Go.RowKit

end Go.Proofs.YtigpnopeacicpaaGreatDoor
/-
  The reference's numbers: Sub, Low.
-/
namespace Go.Proofs.YtigpnopeacicpaaGreatDoor
open Go.RowKit

/-- Where a difference of the reference's stands. -/
structure WCar (w wr : World) (g : Nat) (tl : List Value) (xs ys zs : List Nat) (k cy : Nat) : Prop where
  blk : Blk wr g 133 (limbV zs ++ tl)
  limb : R.Limb zs
  len : zs.length = xs.length
  high : ∀ j, k ≤ j → zs[j]?.getD 0 = xs[j]?.getD 0
  cyl : cy ≤ 1
  val_ : R.val (zs.take k) + R.val (ys.take k) = R.val (xs.take k) + R.BB ^ k * cy
  only : Only [g] w wr
theorem WCar.step {w wr wq : World} {g : Nat} {tl : List Value} {xs ys zs : List Nat} {k cy d cy' : Nat} (h : WCar w wr g tl xs ys zs k cy) (hk : k < xs.length) (hd : d < R.BB) (hc : cy' ≤ 1) (law : d + (cy + ys[k]?.getD 0) = xs[k]?.getD 0 + R.BB * cy')
    (hb : Blk wq g 133 ((limbV zs ++ tl).set k (.int .u64 (d : Int)))) (ho : Only [g] wr wq) : WCar w wq g tl xs ys (zs.set k d) (k + 1) cy' := by
  have hl := h.len
  have h3 := h.val_
  refine ⟨?_, h.limb.set _ _ hd, by rw [List.length_set, hl], fun j hj => by rw [set_get_ne (by omega)]; exact h.high j (by omega), hc, ?_, h.only.trans ho (by simp)⟩
  · rw [← limbV_set, ← List.set_append_left _ _ (by rw [limbV_len]; omega)]
    exact hb
  · have h1 := congrArg (fun t => R.BB ^ k * t) law
    simp only [Nat.mul_add] at h1
    rw [R.val_take_succ _ k (by rw [List.length_set]; omega), set_get_eq (by omega), List.take_set_of_le (Nat.le_refl k), R.val_take_next ys, R.val_take_succ xs k hk, Nat.pow_succ, Nat.mul_assoc]
    omega
end Go.Proofs.YtigpnopeacicpaaGreatDoor

/-
  The long division at digits of 32 bits: the plain law (XValB, XValC, XValF turned by mkrdiv.py).
-/
namespace Go.Proofs.YtigpnopeacicpaaGreatDoor
namespace R

theorem add_step {zs : List Nat} {i v c lo hi : Nat} (h0 : i < zs.length) (h : lo + BB * hi = zs[i]?.getD 0 + v + c) : val (zs.set i lo) + BB ^ (i + 1) * hi = val zs + BB ^ i * v + BB ^ i * c := by
  have h1 := val_set zs i lo h0
  have h2 := congrArg (BB ^ i * ·) h
  simp only [Nat.mul_add] at h2
  rw [Nat.pow_succ, Nat.mul_assoc]
  omega
theorem sub_step {zs : List Nat} {i v b d b' : Nat} (h0 : i < zs.length) (h : d + v + b = zs[i]?.getD 0 + BB * b') : val (zs.set i d) + BB ^ i * v + BB ^ i * b = val zs + BB ^ (i + 1) * b' := by
  have h1 := val_set zs i d h0
  have h2 := congrArg (BB ^ i * ·) h
  simp only [Nat.mul_add] at h2
  rw [Nat.pow_succ, Nat.mul_assoc]
  omega
/-- What is below a power has no limb from there on. -/
theorem val_zero_of : ∀ {zs : List Nat}, val zs = 0 → ∀ k : Nat, zs[k]?.getD 0 = 0
  | [], _, k => by simp
  | z :: zs, h, 0 => by
    simp only [val] at h
    simp
    omega
  | z :: zs, h, k + 1 => by
    simp only [val] at h
    have hb := BB_pos
    have h1 : val zs = 0 := by
      rcases Nat.eq_zero_or_pos (val zs) with h2 | h2
      · exact h2
      · have := Nat.mul_pos hb h2
        omega
    have := val_zero_of h1 k
    simpa using this
theorem val_high {zs : List Nat} {m : Nat} (h : val zs < BB ^ m) (k : Nat) (hk : m ≤ k) : zs[k]?.getD 0 = 0 := by
  by_cases hm : m ≤ zs.length
  · have h1 := val_take_drop zs m hm
    have h2 : val (zs.drop m) = 0 := by
      rcases Nat.eq_zero_or_pos (val (zs.drop m)) with h2 | h2
      · exact h2
      · have h3 : BB ^ m * 1 ≤ BB ^ m * val (zs.drop m) := Nat.mul_le_mul_left _ h2
        omega
    have h3 := val_zero_of h2 (k - m)
    rw [List.getElem?_drop, show m + (k - m) = k by omega] at h3
    exact h3
  · rw [List.getElem?_eq_none (by omega)]
    rfl
theorem val_ge_get {zs : List Nat} (i : Nat) : BB ^ i * (zs[i]?.getD 0) ≤ val zs := by
  by_cases hi : i < zs.length
  · have h1 := val_take_drop zs (i + 1) (by omega)
    rw [val_take_succ zs i hi] at h1
    omega
  · rw [List.getElem?_eq_none (by omega)]
    simp
theorem pow_le {i j : Nat} (h : i ≤ j) : BB ^ i ≤ BB ^ j := Nat.pow_le_pow_right BB_pos h
theorem val_drop_div (xs : List Nat) (hx : Limb xs) (k : Nat) (hk : k ≤ xs.length) : val (xs.drop k) = val xs / BB ^ k := by
  have h1 := val_take_drop xs k hk
  have h2 := val_lt (hx.take k)
  rw [List.length_take, Nat.min_eq_left hk] at h2
  rw [h1, Nat.add_mul_div_left _ _ (BB_pow_pos k), Nat.div_eq_of_lt h2, Nat.zero_add]
/-- A guess of a digit that is not too small: of T by V3, the uppermost limbs. -/
def EstOk (u2 u1 u0 v1 v0 d : Nat) : Prop := d < BB ∧ (d = BB - 1 ∨ (u2 * BB + u1) * BB + u0 < (d + 1) * (v1 * BB + v0))
theorem est_start {u2 u1 u0 v1 v0 : Nat} (hv : 0 < v1) (h2 : u2 < v1) (h1 : u1 < BB) (h0 : u0 < BB) : EstOk u2 u1 u0 v1 v0 ((u2 * BB + u1) / v1) := by
  have hb := BB_pos
  constructor
  · rw [Nat.div_lt_iff_lt_mul hv]
    have : (u2 + 1) * BB ≤ v1 * BB := Nat.mul_le_mul_right _ h2
    rw [Nat.add_mul, Nat.one_mul, Nat.mul_comm v1] at this
    omega
  · right
    have h3 := Nat.lt_div_mul_add (a := u2 * BB + u1) hv
    have h4 : u2 * BB + u1 + 1 ≤ ((u2 * BB + u1) / v1 + 1) * v1 := by rw [Nat.add_mul, Nat.one_mul]; omega
    have h5 : (u2 * BB + u1 + 1) * BB ≤ ((u2 * BB + u1) / v1 + 1) * v1 * BB := Nat.mul_le_mul_right _ h4
    rw [Nat.add_mul (u2 * BB + u1), Nat.one_mul] at h5
    have h6 : ((u2 * BB + u1) / v1 + 1) * (v1 * BB + v0) = ((u2 * BB + u1) / v1 + 1) * v1 * BB + ((u2 * BB + u1) / v1 + 1) * v0 := by rw [Nat.mul_add, Nat.mul_assoc]
    omega
theorem est_lower {u2 u1 u0 v1 v0 d r : Nat} (hd : d < BB) (he : d * v1 + r = u2 * BB + u1) (hl : r * BB + u0 < d * v0) : 0 < d ∧ EstOk u2 u1 u0 v1 v0 (d - 1) ∧ (d - 1) * v1 + (r + v1) = u2 * BB + u1 := by
  have hp : 0 < d := by
    rcases Nat.eq_zero_or_pos d with h0 | h0
    · rw [h0] at hl; omega
    · exact h0
  obtain ⟨k, rfl⟩ : ∃ k, d = k + 1 := ⟨d - 1, by omega⟩
  simp only [Nat.add_sub_cancel]
  refine ⟨hp, ⟨by omega, .inr ?_⟩, by rw [Nat.add_mul, Nat.one_mul] at he; omega⟩
  have h6 := congrArg (· * BB) he
  simp only [Nat.add_mul _ _ BB] at h6
  have h7 : (k + 1) * (v1 * BB + v0) = (k + 1) * v1 * BB + (k + 1) * v0 := by rw [Nat.mul_add, Nat.mul_assoc]
  rw [Nat.add_mul _ _ BB]
  omega
theorem val_cap {us : List Nat} {m : Nat} (hm : m ≤ us.length) (h : val us < BB ^ m) : val us = val (us.take m) := by
  have h1 := val_take_drop us m hm
  have h2 : val (us.drop m) = 0 := by
    rcases Nat.eq_zero_or_pos (val (us.drop m)) with h2 | h2
    · exact h2
    · have h3 : BB ^ m * 1 ≤ BB ^ m * val (us.drop m) := Nat.mul_le_mul_left _ h2
      omega
  rw [h1, h2]
  omega
/-- The guess off the uppermost limbs is not below the digit. -/
theorem est_ge {us vs : List Nat} {j n d : Nat} (hu : Limb us) (hvl : Limb vs) (hn : 2 ≤ n) (hv : vs.length = n) (hl : j + n < us.length) (hw : val us < BB ^ (j + 1) * val vs)
    (h : EstOk (us[j + n]?.getD 0) (us[j + n - 1]?.getD 0) (us[j + n - 2]?.getD 0) (vs[n - 1]?.getD 0) (vs[n - 2]?.getD 0) d) : val us < BB ^ j * ((d + 1) * val vs) := by
  rcases h.2 with h | h
  · rw [h, show BB - 1 + 1 = BB by have := BB_pos; omega, ← Nat.mul_assoc, ← Nat.pow_succ]
    exact hw
  · obtain ⟨m, rfl⟩ : ∃ m, n = m + 2 := ⟨n - 2, by omega⟩
    rw [show j + (m + 2) - 1 = j + m + 1 by omega, show j + (m + 2) - 2 = j + m by omega, show m + 2 - 1 = m + 1 by omega, show m + 2 - 2 = m by omega, show j + (m + 2) = j + m + 2 by omega] at h
    rw [show j + (m + 2) = j + m + 2 by omega] at hl
    have hvb := val_lt hvl
    rw [hv] at hvb
    have hcap : val us < BB ^ (j + m + 2 + 1) := by
      have h4 := Nat.mul_le_mul_left (BB ^ (j + 1)) (Nat.le_of_lt hvb)
      rw [← Nat.pow_add, show j + 1 + (m + 2) = j + m + 2 + 1 by omega] at h4
      omega
    have c1 := val_take_succ us (j + m) (by omega)
    have c2 : val (us.take (j + m + 2)) = val (us.take (j + m + 1)) + BB ^ (j + m + 1) * (us[j + m + 1]?.getD 0) := val_take_succ us (j + m + 1) (by omega)
    have c3 := val_take_succ us (j + m + 2) (by omega)
    have c0 := val_lt (hu.take (j + m))
    rw [List.length_take, Nat.min_eq_left (by omega)] at c0
    have hua := val_cap (by omega) hcap
    have cV0 := val_take_succ vs m (by omega)
    have cV1 := val_take_succ vs (m + 1) (by omega)
    have hva : val (vs.take (m + 1 + 1)) = val vs := by rw [show m + 1 + 1 = vs.length by omega, List.take_length]
    rw [hva] at cV1
    generalize us[j + m + 2]?.getD 0 = u2 at *
    generalize us[j + m + 1]?.getD 0 = u1 at *
    generalize us[j + m]?.getD 0 = u0 at *
    generalize vs[m + 1]?.getD 0 = v1 at *
    generalize vs[m]?.getD 0 = v0 at *
    -- U < BB^(j+m) (T + 1)
    have e1 : BB ^ (j + m + 1) = BB ^ (j + m) * BB := Nat.pow_succ ..
    have e2 : BB ^ (j + m + 2) = BB ^ (j + m) * (BB * BB) := by rw [Nat.pow_succ, Nat.pow_succ, Nat.mul_assoc]
    have hU : val us < BB ^ (j + m) * ((u2 * BB + u1) * BB + u0 + 1) := by
      have : BB ^ (j + m) * ((u2 * BB + u1) * BB + u0 + 1) = BB ^ (j + m) * (BB * BB) * u2 + BB ^ (j + m) * BB * u1 + BB ^ (j + m) * u0 + BB ^ (j + m) := by
        simp only [Nat.mul_add, Nat.add_mul, Nat.mul_one]
        simp only [Nat.mul_assoc, Nat.mul_comm u2, Nat.mul_comm u1]
      rw [this, ← e1, ← e2]
      omega
    have hV : BB ^ m * (v1 * BB + v0) ≤ val vs := by
      have : BB ^ m * (v1 * BB + v0) = BB ^ (m + 1) * v1 + BB ^ m * v0 := by
        rw [Nat.mul_add, Nat.pow_succ, Nat.mul_assoc, Nat.mul_comm BB v1]
      omega
    have h1 : BB ^ (j + m) * ((u2 * BB + u1) * BB + u0 + 1) ≤ BB ^ (j + m) * ((d + 1) * (v1 * BB + v0)) := Nat.mul_le_mul_left _ h
    have h2 : BB ^ (j + m) * ((d + 1) * (v1 * BB + v0)) = BB ^ j * ((d + 1) * (BB ^ m * (v1 * BB + v0))) := by
      rw [Nat.pow_add, Nat.mul_assoc, Nat.mul_left_comm (d + 1)]
    have h3 : BB ^ j * ((d + 1) * (BB ^ m * (v1 * BB + v0))) ≤ BB ^ j * ((d + 1) * val vs) := Nat.mul_le_mul_left _ (Nat.mul_le_mul_left _ hV)
    omega
theorem long_u2 {us vs : List Nat} {j n : Nat} (hvl : Limb vs) (hn : 1 ≤ n) (hv : vs.length = n) (hw : val us < BB ^ (j + 1) * val vs) : us[j + n]?.getD 0 ≤ vs[n - 1]?.getD 0 := by
  obtain ⟨m, rfl⟩ : ∃ m, n = m + 1 := ⟨n - 1, by omega⟩
  have h1 := val_ge_get (zs := us) (j + (m + 1))
  have c1 := val_take_succ vs m (by omega)
  rw [show vs.take (m + 1) = vs by rw [← hv, List.take_length]] at c1
  have c0 := val_lt (hvl.take m)
  rw [List.length_take, Nat.min_eq_left (by omega)] at c0
  simp only [Nat.add_sub_cancel]
  have h2 : BB ^ (j + 1) * val vs ≤ BB ^ (j + 1) * (BB ^ m * (vs[m]?.getD 0 + 1)) := Nat.mul_le_mul_left _ (by rw [Nat.mul_add]; omega)
  have h3 : BB ^ (j + 1) * (BB ^ m * (vs[m]?.getD 0 + 1)) = BB ^ (j + (m + 1)) * (vs[m]?.getD 0 + 1) := by rw [← Nat.mul_assoc, ← Nat.pow_add, show j + 1 + m = j + (m + 1) by omega]
  have h4 : BB ^ (j + (m + 1)) * (us[j + (m + 1)]?.getD 0) < BB ^ (j + (m + 1)) * (vs[m]?.getD 0 + 1) := by omega
  exact Nat.le_of_lt_succ (Nat.lt_of_mul_lt_mul_left h4)
theorem long_bound {us vs : List Nat} {j n : Nat} (hvl : Limb vs) (hv : vs.length = n) (hw : val us < BB ^ (j + 1) * val vs) : val us < BB ^ (j + n + 1) := by
  have h1 := val_lt hvl
  rw [hv] at h1
  have h2 : BB ^ (j + 1) * val vs ≤ BB ^ (j + 1) * BB ^ n := Nat.mul_le_mul_left _ (Nat.le_of_lt h1)
  rw [← Nat.pow_add, show j + 1 + n = j + n + 1 by omega] at h2
  omega
theorem high_bound {us us' : List Nat} {i : Nat} (hu : Limb us) (hu' : Limb us') (hl : us'.length = us.length) (hi : i ≤ us.length) (hh : ∀ j, i ≤ j → us'[j]?.getD 0 = us[j]?.getD 0) (h : val us < BB ^ i) : val us' < BB ^ i := by
  have e : us'.drop i = us.drop i := by
    apply List.ext_getElem
    · simp [hl]
    · intro k h1 h2
      have h3 := hh (i + k) (by omega)
      simp only [List.length_drop] at h1 h2
      rw [List.getElem?_eq_getElem (by omega), List.getElem?_eq_getElem (by omega)] at h3
      simpa using h3
  have h1 := val_take_drop us' i (by omega)
  have h2 := val_drop_div us hu i hi
  rw [Nat.div_eq_of_lt h] at h2
  rw [e, h2, Nat.mul_zero, Nat.add_zero] at h1
  rw [h1]
  have := val_lt (hu'.take i)
  rwa [List.length_take, Nat.min_eq_left (by omega)] at this
/-- Where one digit stands that is being lowered. -/
structure DI (us us' : List Nat) (V j n d b : Nat) : Prop where
  limb : Limb us'
  len : us'.length = us.length
  eq : val us' + BB ^ j * (d * V) = val us + BB ^ (j + n + 1) * b
  lt : val us' < BB ^ (j + n + 1)
  est : val us < BB ^ j * ((d + 1) * V)
  dl : d < BB
  bl : b ≤ 1
theorem DI.pos {us us' : List Nat} {V j n d : Nat} (h : DI us us' V j n d 1) : 0 < d := by
  rcases Nat.eq_zero_or_pos d with h0 | h0
  · have h1 := h.eq
    have h2 := h.lt
    rw [h0] at h1
    simp at h1
    omega
  · exact h0
theorem DI.step {us us' us'' : List Nat} {V j n d cy : Nat} (h : DI us us' V j n d 1) (hl : Limb us'') (hn : us''.length = us'.length) (hi : j + n + 1 ≤ us'.length) (hh : ∀ k, j + n + 1 ≤ k → us''[k]?.getD 0 = us'[k]?.getD 0) (hc : cy ≤ 1)
    (he : val us'' + BB ^ (j + n + 1) * cy = val us' + BB ^ j * V) : DI us us'' V j n (d - 1) (1 - cy) := by
  have hp := h.pos
  obtain ⟨k, rfl⟩ : ∃ k, d = k + 1 := ⟨d - 1, by omega⟩
  have h1 := h.eq
  have h2 := h.lt
  have h3 := h.dl
  rw [Nat.add_sub_cancel]
  rw [Nat.add_mul, Nat.one_mul, Nat.mul_add] at h1
  have hb := high_bound h.limb hl hn hi hh h.lt
  have h7 : k < BB := Nat.lt_of_succ_lt h3
  refine ⟨hl, by rw [hn, h.len], ?_, hb, ?_, h7, Nat.sub_le _ _⟩
  · clear h7 h3 hb
    generalize BB ^ (j + n + 1) = P at *
    generalize BB ^ j * (k * V) = A at *
    generalize BB ^ j * V = C at *
    rcases (show cy = 0 ∨ cy = 1 by omega) with rfl | rfl
    · rw [Nat.mul_zero] at he
      rw [Nat.mul_one] at h1
      rw [Nat.sub_zero, Nat.mul_one]
      omega
    · rw [Nat.mul_one] at he h1
      rw [Nat.sub_self, Nat.mul_zero]
      omega
  · rw [Nat.add_mul, Nat.one_mul, Nat.mul_add]
    clear h7 h3 hb he
    generalize BB ^ (j + n + 1) = P at *
    generalize BB ^ j * (k * V) = A at *
    generalize BB ^ j * V = C at *
    rw [Nat.mul_one] at h1
    omega
theorem DI.done {us us' : List Nat} {V j n d : Nat} (h : DI us us' V j n d 0) : val us' + BB ^ j * (d * V) = val us ∧ val us' < BB ^ j * V := by
  have h1 := h.eq
  have h2 := h.est
  rw [Nat.mul_zero, Nat.add_zero] at h1
  rw [Nat.add_mul, Nat.one_mul, Nat.mul_add] at h2
  exact ⟨h1, by omega⟩
/-- Where the division stands. -/
structure LI (us qs : List Nat) (U0 V k : Nat) : Prop where
  ul : Limb us
  ql : Limb qs
  eq : val us + V * (BB ^ k * val (qs.drop k)) = U0
  lt : val us < BB ^ k * V
theorem LI.step {us us' qs : List Nat} {U0 V j n d : Nat} (h : LI us qs U0 V (j + 1)) (hd : DI us us' V j n d 0) (hq : j < qs.length) : LI us' (qs.set j d) U0 V j := by
  obtain ⟨h1, h2⟩ := hd.done
  refine ⟨hd.limb, h.ql.set _ _ hd.dl, ?_, h2⟩
  have h3 := h.eq
  rw [List.drop_eq_getElem_cons (by simpa using hq), List.getElem_set_self, List.drop_set_of_lt (by omega), val, Nat.mul_add, Nat.mul_add]
  rw [Nat.pow_succ, Nat.mul_assoc] at h3
  rw [← h3, ← h1, Nat.mul_left_comm V (BB ^ j) d, Nat.mul_comm V d]
  omega
theorem LI.done {us qs : List Nat} {a b s : Nat} (h : LI us qs (a * 2 ^ s) (b * 2 ^ s) 0) : val qs = a / b ∧ val us / 2 ^ s = a % b := by
  have hp : 0 < 2 ^ s := Nat.pow_pos (by omega)
  have h1 := h.eq
  have h2 := h.lt
  simp only [Nat.pow_zero, Nat.one_mul, List.drop_zero] at h1 h2
  have hV : 0 < b * 2 ^ s := by omega
  have e1 : (a * 2 ^ s) / (b * 2 ^ s) = val qs := by
    rw [← h1, Nat.add_comm, Nat.mul_add_div hV, Nat.div_eq_of_lt h2, Nat.add_zero]
  have e2 : (a * 2 ^ s) % (b * 2 ^ s) = val us := by
    rw [← h1, Nat.add_comm, Nat.mul_add_mod, Nat.mod_eq_of_lt h2]
  rw [Nat.mul_div_mul_right _ _ hp] at e1
  rw [Nat.mul_mod_mul_right] at e2
  exact ⟨e1.symm, by rw [← e2, Nat.mul_div_cancel _ hp]⟩
/-- The divisor shifted up until it fills its limbs. -/
theorem long_top {ys : List Nat} {s n : Nat} (hy : Limb ys) (hn : 1 ≤ n) (hl : ys.length = n) (h0 : ys[n - 1]?.getD 0 ≠ 0) (hs : ys[n - 1]?.getD 0 * 2 ^ s < BB) : (limbsOf (val ys * 2 ^ s)).length = n ∧ BB ^ (n - 1) * 2 ^ s ≤ val ys * 2 ^ s := by
  obtain ⟨m, rfl⟩ : ∃ m, n = m + 1 := ⟨n - 1, by omega⟩
  simp only [Nat.add_sub_cancel] at *
  have hp : 0 < 2 ^ s := Nat.pow_pos (by omega)
  have c1 := val_take_succ ys m (by omega)
  rw [show ys.take (m + 1) = ys by rw [← hl, List.take_length]] at c1
  have c0 := val_lt (hy.take m)
  rw [List.length_take, Nat.min_eq_left (by omega)] at c0
  have h1 : BB ^ m * 1 ≤ BB ^ m * (ys[m]?.getD 0) := Nat.mul_le_mul_left _ (by omega)
  have h2 : BB ^ m * 2 ^ s ≤ val ys * 2 ^ s := Nat.mul_le_mul_right _ (by omega)
  refine ⟨?_, h2⟩
  apply Nat.le_antisymm
  · apply limbsOf_len_le
    have h4 : val ys + 1 ≤ BB ^ m * (ys[m]?.getD 0 + 1) := by rw [Nat.mul_add]; omega
    have h5 : (val ys + 1) * 2 ^ s ≤ BB ^ m * (ys[m]?.getD 0 + 1) * 2 ^ s := Nat.mul_le_mul_right _ h4
    have h6 : (ys[m]?.getD 0 + 1) * 2 ^ s ≤ BB := by
      by_cases hs32 : s ≤ 32
      · have hsp : 2 ^ s * 2 ^ (32 - s) = BB := by rw [← Nat.pow_add, BB_pow]; congr 1; omega
        rw [← hsp, Nat.mul_comm] at hs ⊢
        exact Nat.mul_le_mul_left _ (Nat.lt_of_mul_lt_mul_left hs)
      · have h7 : 2 ^ 32 ≤ 2 ^ s := Nat.pow_le_pow_right (by omega) (by omega)
        have h8 : 1 * 2 ^ s ≤ ys[m]?.getD 0 * 2 ^ s := Nat.mul_le_mul_right _ (by omega)
        rw [BB_pow] at hs
        omega
    have h7 : BB ^ m * (ys[m]?.getD 0 + 1) * 2 ^ s ≤ BB ^ m * BB := by rw [Nat.mul_assoc]; exact Nat.mul_le_mul_left _ h6
    rw [Nat.pow_succ]
    rw [Nat.add_mul] at h5
    omega
  · apply Nat.lt_of_not_le
    intro h
    have h3 := lt_limbsOf (val ys * 2 ^ s)
    have h4 : BB ^ (limbsOf (val ys * 2 ^ s)).length ≤ BB ^ m := pow_le (by omega)
    have h5 : BB ^ m * 1 ≤ BB ^ m * 2 ^ s := Nat.mul_le_mul_left _ hp
    omega
/-- Where it starts. -/
theorem LI.start {xs ys us qs : List Nat} {s n m : Nat} (hx : Limb xs) (hm : xs.length = m) (hn : 1 ≤ n) (hnm : n ≤ m) (hV : BB ^ (n - 1) * 2 ^ s ≤ val ys * 2 ^ s) (hul : Limb us) (hu : val us = val xs * 2 ^ s) (hql : Limb qs) (hq : qs.length = m - n + 1) :
    LI us qs (val xs * 2 ^ s) (val ys * 2 ^ s) (m - n + 1) := by
  refine ⟨hul, hql, by rw [← hq, List.drop_length]; simp [val, hu], ?_⟩
  have h1 := val_lt hx
  rw [hm] at h1
  have h2 : val xs * 2 ^ s < BB ^ m * 2 ^ s := Nat.mul_lt_mul_of_pos_right h1 (Nat.pow_pos (by omega))
  have h3 := Nat.mul_le_mul_left (BB ^ (m - n + 1)) hV
  rw [← Nat.mul_assoc, ← Nat.pow_add, show m - n + 1 + (n - 1) = m by omega] at h3
  omega

open Go.RowKit

theorem val_drop_cons (xs : List Nat) (j : Nat) (h : j < xs.length) : val (xs.drop j) = xs[j]?.getD 0 + BB * val (xs.drop (j + 1)) := by
  rw [List.drop_eq_getElem_cons h]
  simp [val, h]
end R
end Go.Proofs.YtigpnopeacicpaaGreatDoor
