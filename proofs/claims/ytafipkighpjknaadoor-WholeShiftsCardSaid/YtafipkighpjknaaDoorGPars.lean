/-
  nat.scale: a row times a limb, and a limb.
-/
import Derived.Test.YtafipkighpjknaaDoorGNV
import Derived.Laws.MakeOwn
namespace Go.Proofs.YtafipkighpjknaaDoor
open Go.RowKit

/-- A row of limbs, whole: the limbs, and whatever is behind them. -/
theorem LimbsAt.row {w : World} {g n c : Nat} {xs : List Nat} (h : LimbsAt w (.slice (some ⟨g, 0, none⟩) n c) xs) : ∃ tl, Blk w g 59 (limbV xs ++ tl) ∧ xs.length + tl.length = c ∧ c ≤ maxLen ∧ n = xs.length := by
  rcases h.2 with ⟨h0, _⟩ | ⟨g', cap, cur, e, _, hg, hn, hm, hs, ht⟩
  · cases h0
  · injection e with e1 e2 e3
    injection e1 with e1
    injection e1 with e1 _ _
    subst e1 e3
    refine ⟨cur.toList.drop xs.length, ?_, ?_, hm, e2⟩
    · unfold Blk
      rw [hg]
      congr 2
      apply Array.ext'
      rw [Nat.mul_one] at ht
      rw [← ht]
      simp
    · rw [List.length_drop]
      simp at hs ⊢
      omega
theorem LimbsAt.of_row {w : World} {g c : Nat} {xs : List Nat} {tl : List Value} (h : Blk w g 59 (limbV xs ++ tl)) (hc : xs.length + tl.length = c) (hm : c ≤ maxLen) : LimbsAt w (.slice (some ⟨g, 0, none⟩) xs.length c) xs := by
  refine ⟨by simp [limbV], .inr ⟨g, c, (limbV xs ++ tl).toArray, rfl, Nat.zero_le _, h, by omega, hm, by simp [limbV]; omega, ?_⟩⟩
  rw [Nat.mul_one]
  have : (limbV xs).length = xs.length := limbV_len xs
  simp [← this]
theorem LimbsAt.trim {w : World} {g n c : Nat} {xs : List Nat} (h : LimbsAt w (.slice (some ⟨g, 0, none⟩) n c) xs) (hx : Limb xs) : LimbsAt w (.slice (some ⟨g, 0, none⟩) (limbsOf (val xs)).length c) (limbsOf (val xs)) := by
  obtain ⟨tl, h1, h2, h3, _⟩ := h.row
  have hl := limbsOf_len hx
  have e := (limbsOf_take hx).1
  have e2 : limbV xs ++ tl = limbV (limbsOf (val xs)) ++ (limbV (xs.drop (limbsOf (val xs)).length) ++ tl) := by
    rw [← List.append_assoc]
    congr 1
    have h4 : xs = xs.take (limbsOf (val xs)).length ++ xs.drop (limbsOf (val xs)).length := (List.take_append_drop _ _).symm
    rw [e] at h4
    have h5 := congrArg limbV h4
    simpa [limbV] using h5
  rw [e2] at h1
  exact LimbsAt.of_row h1 (by rw [List.length_append, limbV_len, List.length_drop]; omega) h3

/-- Where a row stands that is being multiplied. -/
structure PCar (w wr : World) (g u v : Nat) (tl : List Value) (xs zs : List Nat) (k cy : Nat) : Prop where
  blk : Blk wr g 59 (limbV zs ++ tl)
  limb : Limb zs
  len : zs.length = xs.length
  high : ∀ j, k ≤ j → zs[j]?.getD 0 = xs[j]?.getD 0
  cyl : cy < BB
  val_ : val (zs.take k) + BB ^ k * cy = val (xs.take k) * u + v
  only : Only [g] w wr
/-- One step of it. -/
structure PStep (x u cy s c1 cy' : Nat) : Prop where
  a1 : s = aLo (mLo x u) cy 0
  a2 : c1 = aHi (mLo x u) cy 0
  a3 : mHi x u + c1 = cy'
  law : s + BB * cy' = x * u + cy
  lt : cy' < BB
  sl : s < BB
theorem pstep {x u cy : Nat} (hx : x < BB) (hu : u < BB) (hc : cy < BB) : ∃ s c1 cy', PStep x u cy s c1 cy' := by
  have h1 := mul64_law x u
  have h2 := add64_law (mLo x u) cy 0
  have hlaw : aLo (mLo x u) cy 0 + BB * (mHi x u + aHi (mLo x u) cy 0) = x * u + cy := by
    rw [Nat.mul_add]
    omega
  refine ⟨_, _, _, rfl, rfl, rfl, hlaw, ?_, aLo_lt _ _ _⟩
  apply Nat.lt_of_not_le
  intro h
  have h3 := Nat.mul_le_mul_left BB h
  have h4 : x * u ≤ (BB - 1) * (BB - 1) := Nat.mul_le_mul (by omega) (by omega)
  obtain ⟨k, hk⟩ : ∃ k, BB = k + 1 := ⟨BB - 1, by have := BB_pos; omega⟩
  have h5 : BB * BB = k * k + 2 * k + 1 := by rw [hk, Nat.add_mul, Nat.mul_add]; omega
  rw [hk, Nat.add_sub_cancel] at h4
  omega
theorem PCar.step {w wr : World} {g u v : Nat} {tl : List Value} {xs zs : List Nat} {k cy s c1 cy' : Nat} (h : PCar w wr g u v tl xs zs k cy) (hk : k < xs.length) (hs : PStep (xs[k]?.getD 0) u cy s c1 cy') :
    PCar w (wr.setCell ⟨g, k, none⟩ (.int .u64 (s : Int))) g u v tl xs (zs.set k s) (k + 1) cy' := by
  have hl := h.len
  refine ⟨?_, h.limb.set _ _ hs.sl, by rw [List.length_set, hl], fun j hj => by rw [set_get_ne (by omega)]; exact h.high j (by omega), hs.lt, ?_, h.only.trans ((Only.refl [g] wr).setCell (.inl (by simp)) _) (by simp)⟩
  · rw [← limbV_set, ← List.set_append_left _ _ (by rw [limbV_len]; omega)]
    exact h.blk.set_ k _
  · rw [val_take_succ _ k (by rw [List.length_set]; omega), set_get_eq (by omega), List.take_set_of_le (Nat.le_refl k), val_take_succ xs k hk, Nat.pow_succ, Nat.mul_assoc, Nat.add_assoc, ← Nat.mul_add, hs.law, Nat.mul_add, Nat.add_mul]
    have := h.val_
    rw [Nat.mul_assoc (BB ^ k)]
    omega
/-- What scale leaves. -/
def ScalePost (g u v : Nat) (xs : List Nat) (w : World) (e : Ending) (w' : World) : Prop :=
  ∃ g' ys c, e = .returned (.slice (some ⟨g', 0, none⟩) ys.length c) ∧ LimbsAt w' (.slice (some ⟨g', 0, none⟩) ys.length c) ys ∧ Limb ys ∧ val ys = val xs * u + v ∧ ys.length ≤ xs.length + 1 ∧ (g' = g ∨ w.heap.size ≤ g') ∧ Only [g] w w'

set_option maxHeartbeats 1600000 in
set_option maxRecDepth 100000 in
theorem scale_any (g n c u v : Nat) (xs : List Nat) (w : World) (hz : Hid (LimbsAt w (.slice (some ⟨g, 0, none⟩) n c) xs)) (hx : Hid (Limb xs)) (hn : n = xs.length) (hl : (n : Int) ≤ 16000000) (hu : Hid (u < BB)) (hv : Hid (v < BB)) :
    Calls Tryd.prog 118 #[.slice (some ⟨g, 0, none⟩) n c, .int .u64 (u : Int), .int .u64 (v : Int)] w (ScalePost g u v xs w) := by
  subst hn
  obtain ⟨i0, hi, hz0, hz1, hz2⟩ := u64_parts
  obtain ⟨tl, hb, htc, hcm, _⟩ := hz.out.row
  have HTc := Lib.hid htc
  have HCm := Lib.hid hcm
  have HStart : Hid (PCar w w g u v tl xs xs 0 v) := ⟨hb, hx.out, rfl, fun _ _ => rfl, hv.out, by simp [val], Only.refl _ _⟩
  clear hb htc hcm hz
  go_enter Tryd.func118, Tryd.ntmps118
  go_wp2_with fail
  go_loopw [7, 16] (fun cv kv wr => ∃ (k cy : Nat) (zs : List Nat), k ≤ xs.length ∧ cv = .int .u64 (cy : Int) ∧ kv = .int .i64 (k : Int) ∧ PCar w wr g u v tl xs zs k cy) (fun _ kv _ => xs.length - (intOf kv).toNat)
  case atStart => exact ⟨0, v, xs, Nat.zero_le _, rfl, rfl, HStart.out⟩
  case round =>
    obtain ⟨k, cy, zs, hk, rfl, rfl, hR⟩ := hrel
    have HR := Lib.hid hR
    clear hR HStart
    by_cases hlt : k < xs.length
    · have hk' : (k : Int) < (xs.length : Int) := by omega
      have c1 := HR.out.blk.cell k
      rw [List.getElem?_append_left (by rw [limbV_len, HR.out.len]; exact hlt), limbV_get _ _ (by rw [HR.out.len]; exact hlt), HR.out.high k (Nat.le_refl _)] at c1
      have f1 := HR.out.blk.frozen k
      have HX := Lib.hid (hx.out.get k)
      obtain ⟨s, cc, cy', hst⟩ := pstep HX.out hu.out HR.out.cyl
      have HS := Lib.hid (HR.out.step hlt hst)
      have ha1 : ∀ wx, (callFunc 165 #[.int .u64 ((mLo (xs[k]?.getD 0) u : Nat) : Int), .int .u64 (cy : Int), .int .u64 0]).run Tryd.prog wx = .ok (.value (.tuple #[.int .u64 (s : Int), .int .u64 (cc : Int)])) wx := fun wx => by
        rw [hst.a1, hst.a2]
        exact add64_run _ _ 0 (mLo_lt _ _) HR.out.cyl (by omega) wx
      have hw1 := u64_add hst.a3 hst.lt
      generalize xs[k]?.getD 0 = x at c1 ha1 HX hst hw1 HS
      clear hst hlt
      go_wp2_with fail
      refine (mul64_any x u HX.out hu.out _).mono ?_
      rintro e w' ⟨rfl, rfl⟩
      go_wp2_with fail
      go_roundw
      case rel => exact ⟨k + 1, cy', _, by omega, rfl, by go_num, HS.out⟩
      case measure => simp [intOf]; omega
    · have hnl : ¬ (k : Int) < (xs.length : Int) := by omega
      obtain rfl : k = xs.length := by omega
      have HV : Hid (val zs + BB ^ xs.length * cy = val xs * u + v) := by
        have h1 := HR.out.val_
        rw [List.take_of_length_le (Nat.le_of_eq HR.out.len), List.take_of_length_le (Nat.le_refl _)] at h1
        exact h1
      have HLn := Lib.hid HR.out.len
      have HRow : Hid (LimbsAt wr (.slice (some ⟨g, 0, none⟩) zs.length c) zs) := LimbsAt.of_row HR.out.blk (by rw [HLn.out]; exact HTc.out) HCm.out
      clear hlt
      by_cases h0 : cy = 0
      · subst h0
        go_wp2_with fail
        go_ret
        refine ⟨g, zs, c, ?_, HRow.out, HR.out.limb, ?_, ?_, .inl rfl, HR.out.only⟩
        · rw [HLn.out]; rfl
        · have := HV.out; rw [Nat.mul_zero, Nat.add_zero] at this; exact this
        · have := HLn.out; omega
      · have h0i : ((cy : Int) != 0) = true := by simpa using h0
        have HOwn : Hid (wr.ownsRow 0 59 1 (.slice (some ⟨g, 0, none⟩) xs.length c) xs.length (limbV zs)) := by
          have := HRow.out
          unfold LimbsAt at this
          rw [HLn.out] at this
          exact this
        clear h0
        go_wp2_with (at_builtin; refine wpList_append_own_at _ rfl _ _ 28 rfl 0 59 i0 (.int .u64 0) 1 8 Tryd.underlying28 hi hz0 hz1 hz2 rfl (by decide) _ _ _ rfl (HOwn.out.alloc _) ⟨wr.heap.size, 0, none⟩ 1 1 [.int .u64 (cy : Int)] rfl rfl ?d1 ?d2 ?d3 ?d4 ?d5 ?_)
        case d2 => rfl
        case d3 => unfold maxLen; omega
        case d4 => omega
        intro v' w4 hown4 hgrow4 _ hat4
        obtain ⟨g', c', rfl⟩ : ∃ g' c', v' = Value.slice (some ⟨g', 0, none⟩) (xs.length + 1) c' := by
          rcases hown4.2 with ⟨hv, h0⟩ | ⟨gp, cap, cur, hv, _⟩
          · exact absurd h0 (by omega)
          · exact ⟨_, _, hv⟩
        have e : limbV (zs ++ [cy]) = limbV zs ++ [.int .u64 (cy : Int)] := by simp [limbV]
        have hle : (zs ++ [cy]).length = xs.length + 1 := by rw [List.length_append, HLn.out]; rfl
        have HOwn4 : Hid (LimbsAt w4 (.slice (some ⟨g', 0, none⟩) (zs ++ [cy]).length c') (zs ++ [cy])) := by
          show World.ownsRow _ _ _ _ _ _ _
          rw [e, hle]
          exact hown4
        have HO4 : Hid (Only [g] wr w4) := ((Only.refl [g] wr).alloc _).trans (Only.of_grown (S := [g]) hgrow4 (fun k hk => by simp [Value.ownBlock] at hk ⊢; exact hk.symm)) (by simp)
        have HFr : Hid (g' = g ∨ w.heap.size ≤ g') := by
          rcases hat4 with h | h
          · simp [Value.ownBlock] at h
            exact .inl h
          · simp [Value.ownBlock] at h
            have := HR.out.only.size
            exact .inr (by omega)
        have HLe := Lib.hid hle
        clear hown4 hgrow4 hat4 e hle
        go_wp2_with fail
        go_ret
        refine ⟨g', zs ++ [cy], c', ?_, HOwn4.out, HR.out.limb.append (limb_one HR.out.cyl), ?_, ?_, HFr.out, HR.out.only.trans HO4.out (by simp)⟩
        · rw [HLe.out]; rfl
        · rw [val_snoc, HLn.out]
          exact HV.out
        · have := HLe.out; omega
end Go.Proofs.YtafipkighpjknaaDoor
/-
  nat.Parse: the number of decimal digits.
-/
namespace Go.Proofs.YtafipkighpjknaaDoor
open Go.RowKit

def isDig (c : UInt8) : Bool := decide (48 ≤ (c.toNat : Int)) && decide ((c.toNat : Int) ≤ 57)
theorem isDig_iff (c : UInt8) : isDig c = true ↔ 48 ≤ c.toNat ∧ c.toNat ≤ 57 := by
  unfold isDig
  rw [Bool.and_eq_true, decide_eq_true_eq, decide_eq_true_eq]
  omega
/-- What digits are worth. -/
def dval (l : List UInt8) : Nat := l.foldl (fun n c => n * 10 + (c.toNat - 48)) 0
theorem dval_nil : dval [] = 0 := rfl
theorem dval_snoc (l : List UInt8) (c : UInt8) : dval (l ++ [c]) = dval l * 10 + (c.toNat - 48) := by simp [dval, List.foldl_append]
theorem dval_from : ∀ (m : List UInt8) (n : Nat), m.foldl (fun n c => n * 10 + (c.toNat - 48)) n = n * 10 ^ m.length + dval m
  | [], n => by simp [dval]
  | c :: m, n => by
    unfold dval
    rw [List.foldl_cons, List.foldl_cons, dval_from m, dval_from m (0 * 10 + (c.toNat - 48)), List.length_cons, Nat.pow_succ, Nat.zero_mul, Nat.zero_add, Nat.add_mul, Nat.mul_comm (10 ^ m.length) 10, ← Nat.mul_assoc]
    omega
theorem dval_append (l m : List UInt8) : dval (l ++ m) = dval l * 10 ^ m.length + dval m := by
  unfold dval
  rw [List.foldl_append, dval_from]
  rfl
theorem dval_lt : ∀ (m : List UInt8), m.all isDig = true → dval m < 10 ^ m.length
  | [], _ => by simp [dval]
  | c :: m, h => by
    rw [List.all_cons, Bool.and_eq_true] at h
    have h1 := (isDig_iff c).1 h.1
    have h2 := dval_lt m h.2
    have e : dval (c :: m) = (c.toNat - 48) * 10 ^ m.length + dval m := by
      have := dval_append [c] m
      rw [List.singleton_append] at this
      rw [this]
      simp [dval]
    rw [e, List.length_cons, Nat.pow_succ]
    have h3 : (c.toNat - 48) * 10 ^ m.length ≤ 9 * 10 ^ m.length := Nat.mul_le_mul_right _ (by omega)
    omega
/-- What a stretch of digits is worth. -/
def dseg (l : List UInt8) (s k : Nat) : Nat := dval ((l.drop s).take (k - s))
theorem dseg_self (l : List UInt8) (s : Nat) : dseg l s s = 0 := by unfold dseg; rw [Nat.sub_self, List.take_zero]; rfl
theorem dseg_succ (l : List UInt8) (s k : Nat) (hs : s ≤ k) (hk : k < l.length) : dseg l s (k + 1) = dseg l s k * 10 + ((l[k]?.getD 0).toNat - 48) := by
  unfold dseg
  have h1 : k + 1 - s = (k - s) + 1 := by omega
  have h2 : k - s < (l.drop s).length := by rw [List.length_drop]; omega
  rw [h1, List.take_succ_eq_append_getElem h2, dval_snoc, List.getElem_drop]
  congr 2
  rw [List.getElem?_eq_getElem hk]
  simp only [Option.getD_some]
  congr 1
  simp [show s + (k - s) = k by omega]
theorem dval_seg (l : List UInt8) (s e : Nat) (hs : s ≤ e) (he : e ≤ l.length) : dval (l.take e) = dval (l.take s) * 10 ^ (e - s) + dseg l s e := by
  have h : l.take e = l.take s ++ (l.drop s).take (e - s) := by
    have h1 := List.take_add (l := l) (i := s) (j := e - s)
    rw [show s + (e - s) = e by omega] at h1
    exact h1
  rw [h, dval_append]
  unfold dseg
  rw [List.length_take, List.length_drop, Nat.min_eq_left (by omega)]
theorem dseg_lt (l : List UInt8) (s k : Nat) (hs : s ≤ k) (hk : k ≤ l.length) (h : l.all isDig = true) : dseg l s k < 10 ^ (k - s) := by
  unfold dseg
  have h1 : ((l.drop s).take (k - s)).all isDig = true := by
    rw [List.all_eq_true] at h ⊢
    exact fun x hx => h x (List.mem_of_mem_drop (List.mem_of_mem_take hx))
  have h2 := dval_lt _ h1
  rwa [List.length_take, List.length_drop, Nat.min_eq_left (by omega)] at h2
/-- What Parse tells. -/
def parseN (l : List UInt8) : Option Nat := if l.length = 0 ∨ 20000 < l.length then none else if l.all isDig = true then some (dval l) else none
theorem parse_none1 {l : List UInt8} (h : l.length = 0 ∨ 20000 < l.length) : parseN l = none := by unfold parseN; rw [if_pos h]
theorem parse_none2 {l : List UInt8} {k : Nat} (hk : k < l.length) (h : isDig (l[k]?.getD 0) = false) : parseN l = none := by
  unfold parseN
  split
  · rfl
  · rw [if_neg]
    intro ha
    rw [List.all_eq_true] at ha
    have := ha l[k] (List.getElem_mem hk)
    rw [List.getElem?_eq_getElem hk, Option.getD_some] at h
    rw [h] at this
    cases this
theorem parse_some {l : List UInt8} (h1 : l.length ≠ 0) (h2 : l.length ≤ 20000) (h : l.all isDig = true) : parseN l = some (dval l) := by
  unfold parseN
  rw [if_neg (by omega), if_pos h]
/-- What Parse leaves. -/
def ParsePost (l : List UInt8) (w : World) (e : Ending) (w' : World) : Prop :=
  (parseN l = none ∧ e = .returned (.tuple #[.slice none 0 0, .bool false]) ∧ Only [] w w') ∨
  (∃ n A k c u, u = .slice A k c ∧ parseN l = some n ∧ e = .returned (.tuple #[.slice A k c, .bool true]) ∧ Res w w' u n ∧ NV w' u n ∧ Only [] w w')

set_option maxHeartbeats 3200000 in
set_option maxRecDepth 100000 in
theorem parse_any (s : ByteArray) (w : World) (hs : s.size ≤ maxLen) : Calls Tryd.prog 26 #[.string s] w (ParsePost s.data.toList w) := by
  unfold maxLen at hs
  have HSz : Hid (s.data.toList.length = s.size) := by show s.data.toList.length = s.data.size; exact Array.length_toList
  by_cases h0 : s.size = 0
  · have HNo := Lib.hid (parse_none1 (l := s.data.toList) (.inl (by rw [HSz.out]; exact h0)))
    go_enter Tryd.func26, Tryd.ntmps26
    go_wp2_with fail
    go_ret2
    exact .inl ⟨HNo.out, rfl, Only.refl _ _⟩
  · have h0i : ((s.size : Int) == 0) = false := by rw [beq_eq_false_iff_ne]; omega
    by_cases h2 : 20000 < s.size
    · have HNo := Lib.hid (parse_none1 (l := s.data.toList) (.inr (by rw [HSz.out]; exact h2)))
      have h2i : (20000 : Int) < (s.size : Int) := by omega
      go_enter Tryd.func26, Tryd.ntmps26
      go_wp2_with fail
      go_ret2
      exact .inl ⟨HNo.out, rfl, Only.refl _ _⟩
    · have h2i : (s.size : Int) ≤ 20000 := by omega
      have H0 := Lib.hid h0
      clear h2 h0
      go_enter Tryd.func26, Tryd.ntmps26
      go_wp2_with fail
      go_loop [20] (fun iv => ∃ k : Nat, k ≤ s.size ∧ iv = .int .i64 (k : Int) ∧ (s.data.toList.take k).all isDig = true) (fun iv => s.size - (intOf iv).toNat)
      case atStart => exact ⟨0, Nat.zero_le _, rfl, rfl⟩
      case round =>
        obtain ⟨k, hk, rfl, ha⟩ := hrel
        have HA := Lib.hid ha
        clear ha
        by_cases hlt : k < s.size
        · have HG : Hid (s.data.toList[k]?.getD 0 = s[k]) := by
            show _ = _
            rw [List.getElem?_eq_getElem (by rw [HSz.out]; exact hlt)]
            rfl
          have HTk : Hid ((s.data.toList.take (k + 1)).all isDig = ((s.data.toList.take k).all isDig && isDig s[k])) := by
            show _ = _
            rw [List.take_succ_eq_append_getElem (by rw [HSz.out]; exact hlt), List.all_append]
            simp
            rfl
          have HNone : Hid (isDig s[k] = false → parseN s.data.toList = none) := fun h => parse_none2 (k := k) (by rw [HSz.out]; exact hlt) (by rw [HG.out]; exact h)
          go_wp2_with fail
          all_goals first
            | (go_round
               case rel => exact ⟨k + 1, by omega, by go_num, by rw [HTk.out, HA.out, (isDig_iff _).2 ⟨by omega, by omega⟩]; rfl⟩
               case measure => simp [intOf]; omega)
            | (go_ret2
               exact .inl ⟨HNone.out (Bool.eq_false_iff.2 (fun h => by have := (isDig_iff _).1 h; omega)), rfl, Only.refl _ _⟩)
        · have HAll : Hid (s.data.toList.all isDig = true) := by
            have h1 := HA.out
            rw [List.take_of_length_le (by rw [HSz.out]; omega)] at h1
            exact h1
          have HSome := Lib.hid (parse_some (by rw [HSz.out]; exact H0.out) (by rw [HSz.out]; omega) HAll.out)
          have hnl : ¬ (k : Int) < (s.size : Int) := by omega
          obtain ⟨i0, hi, hz0, hz1, hz2⟩ := u64_parts
          obtain ⟨q, hq⟩ : ∃ q : Nat, s.size / 19 = q := ⟨_, rfl⟩
          have hqi : (s.size : Int) / 19 = (q : Int) := by omega
          have hql : (q : Int) ≤ 20000 := by omega
          obtain ⟨w2, hmk, hown, hgr⟩ := run_make_own (P := Tryd.prog) w 0 28 59 i0 _ 1 Tryd.underlying28 hi hz0 hz1 .i64 .i64 (q + 2) (by rw [hz2]; omega) (by simp only [maxLen]; omega) (Nat.zero_le _)
          rw [show ((q + 2 : Nat) : Int) = (q : Int) + 2 by omega] at hmk
          obtain ⟨g, hg⟩ : ∃ g, w.heap.size = g := ⟨_, rfl⟩
          rw [hg] at hmk hown
          have HG := Lib.hid hg
          have HOwn : Hid (LimbsAt w2 (.slice (some ⟨g, 0, none⟩) 0 (q + 2)) []) := hown
          have HO2 : Hid (Only [] w w2) := Only.of_grown hgr (by simp)
          clear hlt hown hgr hg hq
          go_wp2_with fail
          go_loopw [5, 6] (fun zv av wr => ∃ (k g' c : Nat) (ys : List Nat), k ≤ s.size ∧ av = .int .i64 (k : Int) ∧ zv = .slice (some ⟨g', 0, none⟩) ys.length c ∧ LimbsAt wr (.slice (some ⟨g', 0, none⟩) ys.length c) ys ∧ Limb ys ∧ val ys = dval (s.data.toList.take k) ∧ ys.length ≤ k ∧ g ≤ g' ∧ Only [] w wr) (fun _ av _ => s.size - (intOf av).toNat)
          case atStart => exact ⟨0, g, q + 2, [], Nat.zero_le _, rfl, rfl, HOwn.out, limb_nil, rfl, Nat.le_refl _, Nat.le_refl _, HO2.out⟩
          case round =>
            obtain ⟨k0, g', c, ys, hk0, rfl, rfl, hat, hyl, hyv, hyn, hgg, ho⟩ := hrel
            have HAt := Lib.hid hat
            have HYl := Lib.hid hyl
            have HYv := Lib.hid hyv
            have HYn := Lib.hid hyn
            have HGg := Lib.hid hgg
            have HO := Lib.hid ho
            clear hat hyl hyv hyn hgg ho
            by_cases hlt : k0 < s.size
            · obtain ⟨e0, he0⟩ : ∃ e0 : Nat, min (k0 + 19) s.size = e0 := ⟨_, rfl⟩
              have he1 : e0 ≤ s.size := by omega
              have he2 : k0 < e0 := by omega
              have he3 : e0 ≤ k0 + 19 := by omega
              have hmin : min ((k0 : Int) + 19) (s.size : Int) = (e0 : Int) := by omega
              have hmin2 : (if (k0 : Int) + 19 ≤ (s.size : Int) then (k0 : Int) + 19 else (s.size : Int)) = (e0 : Int) := by omega
              have hlti : (k0 : Int) < (s.size : Int) := by omega
              clear he0 hlt
              go_wp2_with fail
              go_loop [6, 8, 9] (fun av uv vv => ∃ k1 : Nat, k0 ≤ k1 ∧ k1 ≤ e0 ∧ av = .int .i64 (k1 : Int) ∧ uv = .int .u64 ((10 ^ (k1 - k0) : Nat) : Int) ∧ vv = .int .u64 ((dseg s.data.toList k0 k1 : Nat) : Int)) (fun av _ _ => e0 - (intOf av).toNat)
              case atStart => exact ⟨k0, Nat.le_refl _, by omega, rfl, by rw [Nat.sub_self]; rfl, by rw [dseg_self]; rfl⟩
              case round =>
                obtain ⟨k1, hk1, hk2, rfl, rfl, rfl⟩ := hrel
                have HVl : Hid (dseg s.data.toList k0 k1 < 10 ^ (k1 - k0)) := dseg_lt _ _ _ hk1 (by rw [HSz.out]; omega) HAll.out
                have HUb : Hid (10 ^ (k1 - k0) ≤ 10 ^ 19) := Nat.pow_le_pow_right (by omega) (by omega)
                by_cases hlt : k1 < e0
                · have hlt2 : k1 < s.size := by omega
                  have HGk : Hid (s.data.toList[k1]?.getD 0 = s[k1]) := by
                    show _ = _
                    rw [List.getElem?_eq_getElem (by rw [HSz.out]; exact hlt2)]
                    rfl
                  have HDg : Hid (isDig s[k1] = true) := by
                    have h1 := HAll.out
                    rw [List.all_eq_true] at h1
                    have h2 := h1 (s.data.toList[k1]'(by rw [HSz.out]; exact hlt2)) (List.getElem_mem _)
                    exact h2
                  have HVs : Hid (dseg s.data.toList k0 (k1 + 1) = dseg s.data.toList k0 k1 * 10 + (s[k1].toNat - 48)) := by
                    have h1 := dseg_succ s.data.toList k0 k1 hk1 (by rw [HSz.out]; exact hlt2)
                    rw [HGk.out] at h1
                    exact h1
                  have HUs : Hid (10 ^ (k1 + 1 - k0) = 10 ^ (k1 - k0) * 10) := by
                    show _ = _
                    rw [show k1 + 1 - k0 = (k1 - k0) + 1 by omega, Nat.pow_succ]
                  have HU18 : Hid (10 ^ (k1 - k0) ≤ 10 ^ 18) := Nat.pow_le_pow_right (by omega) (by omega)
                  have hdig := (isDig_iff _).1 HDg.out
                  obtain ⟨dd, hdd⟩ : ∃ dd, s[k1].toNat - 48 = dd := ⟨_, rfl⟩
                  have hdi : (s[k1].toNat : Int) - 48 = (dd : Int) := by omega
                  have hdw1 : IntKind.u8.wrap (dd : Int) = (dd : Int) := by simp [IntKind.wrap, IntKind.signed, IntKind.bits]; omega
                  have hdw2 : IntKind.u64.wrap (dd : Int) = (dd : Int) := u64_wrap (by rw [BB_val]; omega)
                  rw [hdd] at HVs
                  obtain ⟨U, hU⟩ : ∃ U, 10 ^ (k1 - k0) = U := ⟨_, rfl⟩
                  rw [hU] at HUs HU18 HVl
                  rw [hU]
                  obtain ⟨V, hV⟩ : ∃ V, dseg s.data.toList k0 k1 = V := ⟨_, rfl⟩
                  rw [hV] at HVs HVl
                  rw [hV]
                  have hU18 : U ≤ 1000000000000000000 := HU18.out
                  have hVU := HVl.out
                  have hw1 : IntKind.u64.wrap ((U : Int) * 10) = ((U * 10 : Nat) : Int) := by
                    rw [show (U : Int) * 10 = ((U * 10 : Nat) : Int) by push_cast; rfl]
                    exact u64_wrap (by rw [BB_val]; omega)
                  have hw2 : IntKind.u64.wrap ((V : Int) * 10) = ((V * 10 : Nat) : Int) := by
                    rw [show (V : Int) * 10 = ((V * 10 : Nat) : Int) by push_cast; rfl]
                    exact u64_wrap (by rw [BB_val]; omega)
                  obtain ⟨V1, hV1⟩ : ∃ V1, V * 10 = V1 := ⟨_, rfl⟩
                  have hw3 : IntKind.u64.wrap ((V1 : Int) + (dd : Int)) = ((V1 + dd : Nat) : Int) := by
                    rw [show (V1 : Int) + (dd : Int) = ((V1 + dd : Nat) : Int) by push_cast; rfl]
                    exact u64_wrap (by rw [BB_val]; omega)
                  rw [hV1] at hw2 HVs
                  obtain ⟨U1, hU1⟩ : ∃ U1, U * 10 = U1 := ⟨_, rfl⟩
                  rw [hU1] at hw1 HUs
                  obtain ⟨V2, hV2⟩ : ∃ V2, V1 + dd = V2 := ⟨_, rfl⟩
                  rw [hV2] at hw3 HVs
                  have hlti2 : (k1 : Int) < (e0 : Int) := by omega
                  clear hU hV hV1 hU1 hV2 hdd hVU hU18
                  go_wp2_with fail
                  go_round
                  case rel => exact ⟨k1 + 1, by omega, by omega, by go_num, by rw [HUs.out], by rw [HVs.out]⟩
                  case measure => simp [intOf]; omega
                · obtain rfl : k1 = e0 := by omega
                  have hnl3 : ¬ (k1 : Int) < (k1 : Int) := by omega
                  have HSeg := Lib.hid (dval_seg s.data.toList k0 k1 hk1 (by rw [HSz.out]; omega))
                  have HUB : Hid (10 ^ (k1 - k0) < BB) := by
                    have h1 := HUb.out
                    rw [← CH_pow, CH_val] at h1
                    show _ < _
                    rw [BB_val]
                    omega
                  have HVB : Hid (dseg s.data.toList k0 k1 < BB) := Nat.lt_trans HVl.out HUB.out
                  have hyi : (ys.length : Int) ≤ 20000 := by have := HYn.out; omega
                  have HSc := Lib.hid (scale_any g' ys.length c (10 ^ (k1 - k0)) (dseg s.data.toList k0 k1) ys wr HAt HYl rfl (by omega) HUB HVB)
                  have HSegV : Hid (val ys * 10 ^ (k1 - k0) + dseg s.data.toList k0 k1 = dval (s.data.toList.take k1)) := by
                    show _ = _
                    rw [HYv.out, HSeg.out]
                  generalize 10 ^ (k1 - k0) = U at *
                  generalize dseg s.data.toList k0 k1 = V at *
                  clear hlt
                  go_wp2_with fail
                  refine HSc.out.mono ?_
                  rintro e w5 ⟨g2, zs, c2, rfl, hat2, hzl, hzv, hzn, hgf, ho5⟩
                  have HAt2 := Lib.hid hat2
                  have HZl := Lib.hid hzl
                  have HZv := Lib.hid hzv
                  have HZn := Lib.hid hzn
                  have HGf := Lib.hid hgf
                  have HO5 := Lib.hid ho5
                  clear hat2 hzl hzv hzn hgf ho5
                  go_wp2_with fail
                  go_roundw
                  case rel =>
                    refine ⟨k1, g2, c2, zs, by omega, rfl, rfl, HAt2.out, HZl.out, by rw [HZv.out, HSegV.out], by have := HZn.out; have := HYn.out; omega, ?_, ?_⟩
                    · have h1 := HGf.out
                      have h2 := HGg.out
                      have h3 := HO.out.size
                      have h4 := HG.out
                      omega
                    · refine HO.out.trans HO5.out (fun x hx => .inr ?_)
                      have h2 := HGg.out
                      have h4 := HG.out
                      simp at hx
                      omega
                  case measure => simp [intOf]; omega
            · have hnl2 : ¬ (k0 : Int) < (s.size : Int) := by omega
              have HV : Hid (val ys = dval s.data.toList) := by
                have h1 := HYv.out
                rw [List.take_of_length_le (by rw [HSz.out]; omega)] at h1
                exact h1
              have hyi : (ys.length : Int) ≤ 20000 := by have := HYn.out; omega
              have htr := trim_any (some ⟨g', 0, none⟩) c ys wr (Lib.hid ⟨(LimbsAt.read HAt.out).2, HYl.out, by omega⟩) (by obtain ⟨_, _, h3, _, h4⟩ := HAt.out.row; omega)
              rw [HV.out] at htr
              have HTr := Lib.hid htr
              have HRes : Hid (Res w wr (.slice (some ⟨g', 0, none⟩) (limbsOf (dval s.data.toList)).length c) (dval s.data.toList)) := by
                have h1 := HAt.out.trim HYl.out
                rw [HV.out] at h1
                refine ⟨h1, fun g2 h2 => ?_⟩
                simp [Value.ownBlock] at h2
                have := HGg.out
                have := HG.out
                omega
              have HFew : Hid (Few (dval s.data.toList)) := by
                show Few _
                rw [← HV.out]
                exact Few.of_pow (val_lt HYl.out) (by omega)
              clear htr hlt
              go_wp2_with fail
              refine HTr.out.mono ?_
              rintro e w' ⟨rfl, rfl⟩
              go_wp2_with fail
              go_ret2
              exact .inr ⟨_, _, _, _, _, rfl, HSome.out, rfl, HRes.out, NV.of_res HRes.out HFew.out, HO.out⟩
end Go.Proofs.YtafipkighpjknaaDoor
