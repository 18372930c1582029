/-
  nat.scale: a row times a limb, and a limb.
-/
import Derived.Test.YtfelokgmoiblgaaDoorGNV
import Derived.Laws.MakeOwn
namespace Go.Proofs.YtfelokgmoiblgaaDoor
open Go.RowKit

/-- A row of limbs, whole: the limbs, and whatever is behind them. -/
theorem LimbsAt.row {w : World} {g n c : Nat} {xs : List Nat} (h : LimbsAt w (.slice (some ⟨g, 0, none⟩) n c) xs) : ∃ tl, Blk w g 54 (limbV xs ++ tl) ∧ xs.length + tl.length = c ∧ c ≤ maxLen ∧ n = xs.length := by
  rcases h.2 with ⟨h0, _⟩ | ⟨g', cap, cur, e, _, hg, hn, hm, hs, ht⟩
  · cases h0
  · injection e with e1 e2 e3
    injection e1 with e1
    injection e1 with e1 _ _
    subst e1 e3
    refine ⟨cur.toList.drop xs.length, ?_, ?_, hm, e2⟩
    · unfold Blk
      rw [hg]
      congr 2
      apply Array.ext'
      rw [Nat.mul_one] at ht
      rw [← ht]
      simp
    · rw [List.length_drop]
      simp at hs ⊢
      omega

theorem LimbsAt.of_row {w : World} {g c : Nat} {xs : List Nat} {tl : List Value} (h : Blk w g 54 (limbV xs ++ tl)) (hc : xs.length + tl.length = c) (hm : c ≤ maxLen) : LimbsAt w (.slice (some ⟨g, 0, none⟩) xs.length c) xs := by
  refine ⟨by simp [limbV], .inr ⟨g, c, (limbV xs ++ tl).toArray, rfl, Nat.zero_le _, h, by omega, hm, by simp [limbV]; omega, ?_⟩⟩
  rw [Nat.mul_one]
  have : (limbV xs).length = xs.length := limbV_len xs
  simp [← this]

theorem LimbsAt.trim {w : World} {g n c : Nat} {xs : List Nat} (h : LimbsAt w (.slice (some ⟨g, 0, none⟩) n c) xs) (hx : Limb xs) : LimbsAt w (.slice (some ⟨g, 0, none⟩) (limbsOf (val xs)).length c) (limbsOf (val xs)) := by
  obtain ⟨tl, h1, h2, h3, _⟩ := h.row
  have hl := limbsOf_len hx
  have e := (limbsOf_take hx).1
  have e2 : limbV xs ++ tl = limbV (limbsOf (val xs)) ++ (limbV (xs.drop (limbsOf (val xs)).length) ++ tl) := by
    rw [← List.append_assoc]
    congr 1
    have h4 : xs = xs.take (limbsOf (val xs)).length ++ xs.drop (limbsOf (val xs)).length := (List.take_append_drop _ _).symm
    rw [e] at h4
    have h5 := congrArg limbV h4
    simpa [limbV] using h5
  rw [e2] at h1
  exact LimbsAt.of_row h1 (by rw [List.length_append, limbV_len, List.length_drop]; omega) h3

/-- Where a row stands that is being multiplied. -/
structure PCar (w wr : World) (g u v : Nat) (tl : List Value) (xs zs : List Nat) (k cy : Nat) : Prop where
  blk : Blk wr g 54 (limbV zs ++ tl)
  limb : Limb zs
  len : zs.length = xs.length
  high : ∀ j, k ≤ j → zs[j]?.getD 0 = xs[j]?.getD 0
  cyl : cy < BB
  val_ : val (zs.take k) + BB ^ k * cy = val (xs.take k) * u + v
  only : Only [g] w wr

/-- One step of it. -/
structure PStep (x u cy s c1 cy' : Nat) : Prop where
  a1 : s = aLo (mLo x u) cy 0
  a2 : c1 = aHi (mLo x u) cy 0
  a3 : mHi x u + c1 = cy'
  law : s + BB * cy' = x * u + cy
  lt : cy' < BB
  sl : s < BB

theorem pstep {x u cy : Nat} (hx : x < BB) (hu : u < BB) (hc : cy < BB) : ∃ s c1 cy', PStep x u cy s c1 cy' := by
  have h1 := mul64_law x u
  have h2 := add64_law (mLo x u) cy 0
  have hlaw : aLo (mLo x u) cy 0 + BB * (mHi x u + aHi (mLo x u) cy 0) = x * u + cy := by
    rw [Nat.mul_add]
    omega
  refine ⟨_, _, _, rfl, rfl, rfl, hlaw, ?_, aLo_lt _ _ _⟩
  apply Nat.lt_of_not_le
  intro h
  have h3 := Nat.mul_le_mul_left BB h
  have h4 : x * u ≤ (BB - 1) * (BB - 1) := Nat.mul_le_mul (by omega) (by omega)
  obtain ⟨k, hk⟩ : ∃ k, BB = k + 1 := ⟨BB - 1, by have := BB_pos; omega⟩
  have h5 : BB * BB = k * k + 2 * k + 1 := by rw [hk, Nat.add_mul, Nat.mul_add]; omega
  rw [hk, Nat.add_sub_cancel] at h4
  omega

theorem PCar.step {w wr : World} {g u v : Nat} {tl : List Value} {xs zs : List Nat} {k cy s c1 cy' : Nat} (h : PCar w wr g u v tl xs zs k cy) (hk : k < xs.length) (hs : PStep (xs[k]?.getD 0) u cy s c1 cy') :
    PCar w (wr.setCell ⟨g, k, none⟩ (.int .u64 (s : Int))) g u v tl xs (zs.set k s) (k + 1) cy' := by
  have hl := h.len
  refine ⟨?_, h.limb.set _ _ hs.sl, by rw [List.length_set, hl], fun j hj => by rw [set_get_ne (by omega)]; exact h.high j (by omega), hs.lt, ?_, h.only.trans ((Only.refl [g] wr).setCell (.inl (by simp)) _) (by simp)⟩
  · rw [← limbV_set, ← List.set_append_left _ _ (by rw [limbV_len]; omega)]
    exact h.blk.set_ k _
  · rw [val_take_succ _ k (by rw [List.length_set]; omega), set_get_eq (by omega), List.take_set_of_le (Nat.le_refl k), val_take_succ xs k hk, Nat.pow_succ, Nat.mul_assoc, Nat.add_assoc, ← Nat.mul_add, hs.law, Nat.mul_add, Nat.add_mul]
    have := h.val_
    rw [Nat.mul_assoc (BB ^ k)]
    omega

/-- What scale leaves. -/
def ScalePost (g u v : Nat) (xs : List Nat) (w : World) (e : Ending) (w' : World) : Prop :=
  ∃ g' ys c, e = .returned (.slice (some ⟨g', 0, none⟩) ys.length c) ∧ LimbsAt w' (.slice (some ⟨g', 0, none⟩) ys.length c) ys ∧ Limb ys ∧ val ys = val xs * u + v ∧ ys.length ≤ xs.length + 1 ∧ (g' = g ∨ w.heap.size ≤ g') ∧ Only [g] w w'

end Go.Proofs.YtfelokgmoiblgaaDoor
/-
  nat.Parse: the number of decimal digits.
-/
namespace Go.Proofs.YtfelokgmoiblgaaDoor
open Go.RowKit

def isDig (c : UInt8) : Bool := decide (48 ≤ (c.toNat : Int)) && decide ((c.toNat : Int) ≤ 57)

theorem isDig_iff (c : UInt8) : isDig c = true ↔ 48 ≤ c.toNat ∧ c.toNat ≤ 57 := by
  unfold isDig
  rw [Bool.and_eq_true, decide_eq_true_eq, decide_eq_true_eq]
  omega

/-- What digits are worth. -/
def dval (l : List UInt8) : Nat := l.foldl (fun n c => n * 10 + (c.toNat - 48)) 0

theorem dval_nil : dval [] = 0 := rfl

theorem dval_snoc (l : List UInt8) (c : UInt8) : dval (l ++ [c]) = dval l * 10 + (c.toNat - 48) := by simp [dval, List.foldl_append]

theorem dval_from : ∀ (m : List UInt8) (n : Nat), m.foldl (fun n c => n * 10 + (c.toNat - 48)) n = n * 10 ^ m.length + dval m
  | [], n => by simp [dval]
  | c :: m, n => by
    unfold dval
    rw [List.foldl_cons, List.foldl_cons, dval_from m, dval_from m (0 * 10 + (c.toNat - 48)), List.length_cons, Nat.pow_succ, Nat.zero_mul, Nat.zero_add, Nat.add_mul, Nat.mul_comm (10 ^ m.length) 10, ← Nat.mul_assoc]
    omega

theorem dval_append (l m : List UInt8) : dval (l ++ m) = dval l * 10 ^ m.length + dval m := by
  unfold dval
  rw [List.foldl_append, dval_from]
  rfl

theorem dval_lt : ∀ (m : List UInt8), m.all isDig = true → dval m < 10 ^ m.length
  | [], _ => by simp [dval]
  | c :: m, h => by
    rw [List.all_cons, Bool.and_eq_true] at h
    have h1 := (isDig_iff c).1 h.1
    have h2 := dval_lt m h.2
    have e : dval (c :: m) = (c.toNat - 48) * 10 ^ m.length + dval m := by
      have := dval_append [c] m
      rw [List.singleton_append] at this
      rw [this]
      simp [dval]
    rw [e, List.length_cons, Nat.pow_succ]
    have h3 : (c.toNat - 48) * 10 ^ m.length ≤ 9 * 10 ^ m.length := Nat.mul_le_mul_right _ (by omega)
    omega

/-- What a stretch of digits is worth. -/
def dseg (l : List UInt8) (s k : Nat) : Nat := dval ((l.drop s).take (k - s))

theorem dseg_self (l : List UInt8) (s : Nat) : dseg l s s = 0 := by unfold dseg; rw [Nat.sub_self, List.take_zero]; rfl

theorem dseg_succ (l : List UInt8) (s k : Nat) (hs : s ≤ k) (hk : k < l.length) : dseg l s (k + 1) = dseg l s k * 10 + ((l[k]?.getD 0).toNat - 48) := by
  unfold dseg
  have h1 : k + 1 - s = (k - s) + 1 := by omega
  have h2 : k - s < (l.drop s).length := by rw [List.length_drop]; omega
  rw [h1, List.take_succ_eq_append_getElem h2, dval_snoc, List.getElem_drop]
  congr 2
  rw [List.getElem?_eq_getElem hk]
  simp only [Option.getD_some]
  congr 1
  simp [show s + (k - s) = k by omega]

theorem dval_seg (l : List UInt8) (s e : Nat) (hs : s ≤ e) (he : e ≤ l.length) : dval (l.take e) = dval (l.take s) * 10 ^ (e - s) + dseg l s e := by
  have h : l.take e = l.take s ++ (l.drop s).take (e - s) := by
    have h1 := List.take_add (l := l) (i := s) (j := e - s)
    rw [show s + (e - s) = e by omega] at h1
    exact h1
  rw [h, dval_append]
  unfold dseg
  rw [List.length_take, List.length_drop, Nat.min_eq_left (by omega)]

theorem dseg_lt (l : List UInt8) (s k : Nat) (hs : s ≤ k) (hk : k ≤ l.length) (h : l.all isDig = true) : dseg l s k < 10 ^ (k - s) := by
  unfold dseg
  have h1 : ((l.drop s).take (k - s)).all isDig = true := by
    rw [List.all_eq_true] at h ⊢
    exact fun x hx => h x (List.mem_of_mem_drop (List.mem_of_mem_take hx))
  have h2 := dval_lt _ h1
  rwa [List.length_take, List.length_drop, Nat.min_eq_left (by omega)] at h2

/-- What Parse tells. -/
def parseN (l : List UInt8) : Option Nat := if l.length = 0 ∨ 20000 < l.length then none else if l.all isDig = true then some (dval l) else none

theorem parse_none1 {l : List UInt8} (h : l.length = 0 ∨ 20000 < l.length) : parseN l = none := by unfold parseN; rw [if_pos h]

theorem parse_none2 {l : List UInt8} {k : Nat} (hk : k < l.length) (h : isDig (l[k]?.getD 0) = false) : parseN l = none := by
  unfold parseN
  split
  · rfl
  · rw [if_neg]
    intro ha
    rw [List.all_eq_true] at ha
    have := ha l[k] (List.getElem_mem hk)
    rw [List.getElem?_eq_getElem hk, Option.getD_some] at h
    rw [h] at this
    cases this

theorem parse_some {l : List UInt8} (h1 : l.length ≠ 0) (h2 : l.length ≤ 20000) (h : l.all isDig = true) : parseN l = some (dval l) := by
  unfold parseN
  rw [if_neg (by omega), if_pos h]

/-- What Parse leaves. -/
def ParsePost (l : List UInt8) (w : World) (e : Ending) (w' : World) : Prop :=
  (parseN l = none ∧ e = .returned (.tuple #[.slice none 0 0, .bool false]) ∧ Only [] w w') ∨
  (∃ n A k c u, u = .slice A k c ∧ parseN l = some n ∧ e = .returned (.tuple #[.slice A k c, .bool true]) ∧ Res w w' u n ∧ NV w' u n ∧ Only [] w w')

end Go.Proofs.YtfelokgmoiblgaaDoor
