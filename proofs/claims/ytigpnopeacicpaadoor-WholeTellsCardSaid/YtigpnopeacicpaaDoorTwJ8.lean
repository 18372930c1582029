/-
  Joined texts.
-/
import Derived.Test.YtigpnopeacicpaaDoorTwJ6
import Derived.Test.YtigpnopeacicpaaDoorTwGNatD
import Derived.Lib.TrailingZeros
import Derived.Laws.Bits64b
import Derived.ProofKit
import Derived.OpenShut
import Derived.ShutString
import Derived.ChangeOld
import Derived.Below
import Derived.Deep.Slices
import Derived.Deep.Fields
import Derived.ChangeSame
/-
  Numbers as values: the contracts of package nat, for slices that read as a number.
-/
namespace Go.Proofs.YtigpnopeacicpaaDoor
open Go.RowKit

def NV (w : World) (v : Value) (n : Nat) : Prop := ∃ A c xs, v = .slice A xs.length c ∧ Arg w A xs ∧ xs.length ≤ c ∧ (xs.length : Int) ≤ 1000000 ∧ val xs = n

def MX : Nat := 1000000

theorem MX_val : MX = 1000000 := rfl
attribute [irreducible] MX

def Few (n : Nat) : Prop := n < BB ^ MX

section
variable {w w' w0 : World} {v u : Value} {n m : Nat} {S : List Nat}

theorem NV.only (h : NV w v n) (ho : Only [] w w') : NV w' v n := by
  obtain ⟨A, c, xs, h1, h2, h3⟩ := h
  exact ⟨A, c, xs, h1, h2.only ho, h3⟩

theorem NV.mk {A : Option Addr} {c : Nat} {xs : List Nat} (h : Arg w A xs) (hc : xs.length ≤ c) (hl : (xs.length : Int) ≤ 1000000) : NV w (.slice A xs.length c) (val xs) := ⟨A, c, xs, rfl, h, hc, hl, rfl⟩

theorem NV.nil (w : World) : NV w (.slice none 0 0) 0 := ⟨none, 0, [], rfl, ⟨LRead.nil, limb_nil, by simp⟩, by simp, by simp, rfl⟩

theorem Few.len (h : Few n) : ((limbsOf n).length : Int) ≤ 1000000 := by have := limbsOf_len_le h; rw [MX_val] at this; omega

theorem NV.few (h : NV w v n) : Few n := by
  obtain ⟨A, c, xs, _, h2, _, h4, rfl⟩ := h
  exact Nat.lt_of_lt_of_le (val_lt h2.limb) (Nat.pow_le_pow_right BB_pos (by rw [MX_val]; omega))

theorem Few.le (h : Few n) (hm : m ≤ n) : Few m := Nat.lt_of_le_of_lt hm h

theorem Few.of_pow {k : Nat} (h : n < BB ^ k) (hk : (k : Int) ≤ 1000000) : Few n := Nat.lt_of_lt_of_le h (Nat.pow_le_pow_right BB_pos (by rw [MX_val]; omega))

theorem NV.of_res (h : Res w0 w u n) (hf : Few n) : NV w u n := by
  obtain ⟨A, c, rfl, h1, h2, h3⟩ := h.at_.shape
  exact ⟨A, c, _, rfl, ⟨h1, limb_limbsOf n, by have := hf.len; omega⟩, h2, hf.len, val_limbsOf n⟩

theorem Res.form (h : Res w0 w u n) : ∃ A c, u = .slice A (limbsOf n).length c := by
  obtain ⟨A, c, rfl, _⟩ := h.at_.shape
  exact ⟨A, c, rfl⟩

end

def NPostV (n : Nat) (w0 w : World) (e : Ending) (w' : World) : Prop := ∃ A k c, e = .returned (.slice A k c) ∧ Res w0 w' (.slice A k c) n ∧ NV w' (.slice A k c) n ∧ Only [] w w'

theorem Res.len {w0 w : World} {A : Option Addr} {k c n : Nat} (h : Res w0 w (.slice A k c) n) : k = (limbsOf n).length := by
  obtain ⟨A', c', e⟩ := h.form
  injection e

theorem NPostV.of {n : Nat} {w : World} {e : Ending} {w' : World} (h : NPost n w e w') (hf : Few n) : NPostV n w w e w' := by
  obtain ⟨u, h1, h2, h3⟩ := h
  obtain ⟨A, c, rfl⟩ := h2.form
  exact ⟨A, _, c, h1, h2, NV.of_res h2 hf, h3⟩

theorem of_v {w : World} {v : Value} {n : Nat} (h : Hid (NV w v n)) : Calls Tryd.prog 50 #[v] w (NPostV n w w) := by
  have hf := h.out.few
  obtain ⟨A, c, xs, rfl, h2, h3, h4, rfl⟩ := h.out
  exact (of_any A c xs w h2 h3).mono fun e w' hp => NPostV.of hp hf

theorem of_lit (r : Nat) (z : Int) (w : World) (hr : Hid (r < BB)) (hz : Hid ((r : Int) = z)) : Calls Tryd.prog 50 #[.slice (some ⟨w.heap.size, 0, none⟩) 1 1] (w.alloc (Obj.cells #[.int .u64 z] 90)) (NPostV r w w) := by
  have h := of_one r w hr
  rw [hz.out] at h
  refine h.mono fun e w' ⟨u, h1, h2, _, h3⟩ => ?_
  exact NPostV.of ⟨u, h1, h2, h3⟩ (Few.of_pow (k := 1) (by rw [Nat.pow_one]; exact hr.out) (by omega))

theorem cmp_v {w : World} {a b : Value} {m n : Nat} (ha : Hid (NV w a m)) (hb : Hid (NV w b n)) : Calls Tryd.prog 56 #[a, b] w fun e w' => e = .returned (.int .i64 (cmpZ m n)) ∧ Only [] w w' := by
  obtain ⟨A, c, xs, rfl, h2, h3, h4, rfl⟩ := ha.out
  obtain ⟨B, d, ys, rfl, k2, k3, k4, rfl⟩ := hb.out
  exact ncmp_any A B c d xs ys w h2 k2 h3 k3

theorem mul_v {w : World} {a b : Value} {m n : Nat} (cut : Int) (ha : Hid (NV w a m)) (hb : Hid (NV w b n)) (hf : Hid (Few (m * n))) : Calls Tryd.prog 61 #[.int .i64 cut, a, b] w (NPostV (m * n) w w) := by
  obtain ⟨A, c, xs, rfl, h2, h3, h4, rfl⟩ := ha.out
  obtain ⟨B, d, ys, rfl, k2, k3, k4, rfl⟩ := hb.out
  exact (mul_any cut A B c d xs ys w h2 k2 h3 k3 (by omega)).mono fun e w' hp => NPostV.of hp hf.out

theorem bits_v {w : World} {a : Value} {m : Nat} (ha : Hid (NV w a m)) : Calls Tryd.prog 48 #[a] w fun e w' => e = .returned (.int .i64 (bitsN m : Int)) ∧ w = w' := by
  obtain ⟨A, c, xs, rfl, h2, h3, h4, rfl⟩ := ha.out
  exact nbits_any A c xs w h2 h3

def DMPostV (a b : Nat) (w : World) (e : Ending) (w' : World) : Prop :=
  ∃ A k c A' k' c' u v, u = .slice A k c ∧ v = .slice A' k' c' ∧ e = .returned (.tuple #[.slice A k c, .slice A' k' c', .bool (decide (b ≠ 0))]) ∧ Res w w' u (a / b) ∧ Res w w' v (if b = 0 then 0 else a % b) ∧ NV w' u (a / b) ∧ NV w' v (if b = 0 then 0 else a % b) ∧ (∀ g g', u.ownBlock = some g → v.ownBlock = some g' → g ≠ g') ∧ Only [] w w'

theorem divMod_v {w : World} {a b : Value} {m n : Nat} (ha : Hid (NV w a m)) (hb : Hid (NV w b n)) : Calls Tryd.prog 47 #[a, b] w (DMPostV m n w) := by
  have hf := ha.out.few
  obtain ⟨A, c, xs, rfl, h2, h3, h4, rfl⟩ := ha.out
  obtain ⟨B, d, ys, rfl, k2, k3, k4, rfl⟩ := hb.out
  refine (divMod_any A B c d xs ys w h2 k2 h3 k3 (by omega)).mono fun e w' ⟨u, v, h1, hu, hv, h5, h6⟩ => ?_
  obtain ⟨A1, c1, rfl⟩ := hu.form
  obtain ⟨A2, c2, rfl⟩ := hv.form
  refine ⟨A1, _, c1, A2, _, c2, _, _, rfl, rfl, h1, hu, hv, NV.of_res hu (hf.le (Nat.div_le_self _ _)), NV.of_res hv (hf.le ?_), h5, h6⟩
  by_cases h0 : val ys = 0
  · rw [if_pos h0]; omega
  · rw [if_neg h0]; exact Nat.mod_le _ _

theorem text_v {w : World} {a : Value} {m : Nat} (ha : Hid (NV w a m)) (htab : Hid (Tab w)) : Calls Tryd.prog 63 #[a] w (TextPost m w) := by
  obtain ⟨A, c, xs, rfl, h2, h3, h4, rfl⟩ := ha.out
  exact text_any A c xs w h2 h3 htab

def SubPostV (a b : Nat) (w : World) (e : Ending) (w' : World) : Prop := ∃ A k c u, u = .slice A k c ∧ e = .returned (.tuple #[.slice A k c, .bool (decide (b ≤ a))]) ∧ Res w w' u (a - b) ∧ NV w' u (a - b) ∧ Only [] w w'

def NVs (w : World) : List Value → List Nat → Prop
  | [], [] => True
  | v :: vs, n :: ns => NV w v n ∧ NVs w vs ns
  | _, _ => False

theorem NVs.only {w w' : World} (ho : Only [] w w') : ∀ {vs : List Value} {ns : List Nat}, NVs w vs ns → NVs w' vs ns
  | [], [], h => h
  | [], _ :: _, h => h.elim
  | _ :: _, [], h => h.elim
  | _ :: _, _ :: _, h => ⟨h.1.only ho, NVs.only ho h.2⟩

theorem NVs.items {w : World} : ∀ {vs : List Value} {ns : List Nat}, NVs w vs ns → ∃ L : List Item, L.length = vs.length ∧ sumL L = ns.sum ∧ ∀ (k : Nat) (hk : k < L.length), vs[k]? = some (.slice L[k].a L[k].xs.length L[k].c) ∧ Arg w L[k].a L[k].xs ∧ L[k].xs.length ≤ L[k].c ∧ (L[k].xs.length : Int) ≤ 3999999
  | [], [], _ => ⟨[], rfl, rfl, fun k hk => by simp at hk⟩
  | [], _ :: _, h => h.elim
  | _ :: _, [], h => h.elim
  | v :: vs, n :: ns, h => by
    obtain ⟨L, h1, h2, h3⟩ := NVs.items h.2
    obtain ⟨A, c, xs, rfl, k2, k3, k4, rfl⟩ := h.1
    refine ⟨⟨A, c, xs⟩ :: L, by simp [h1], by rw [List.sum_cons, ← h2]; rfl, ?_⟩
    intro k hk
    cases k with
    | zero => exact ⟨rfl, k2, k3, by simp; omega⟩
    | succ k => simpa using h3 k (by simpa using hk)

theorem few_pow {n : Nat} (h : Few n) (k : Nat) (hk : MX ≤ k) : n < BB ^ k := Nat.lt_of_lt_of_le h (Nat.pow_le_pow_right BB_pos hk)

theorem lt_big {n : Nat} (h : Few n) : n < BB ^ 3999999 := few_pow h 3999999 (by rw [MX_val]; decide)

theorem addL_v {w : World} (vs : List Value) (ns : List Nat) (k : Nat) (hk : Hid (vs.length = k)) (hl : (k : Int) ≤ 1000) (h : Hid (NVs w vs ns)) (hf : Hid (Few ns.sum)) :
    Calls Tryd.prog 49 #[.slice (some ⟨w.heap.size, 0, none⟩) k k] (w.alloc (Obj.cells vs.toArray 42)) (NPostV ns.sum w w) := by
  have ho : Only [] w (w.alloc (Obj.cells vs.toArray 42)) := (Only.refl [] w).alloc _
  have hb : Blk (w.alloc (Obj.cells vs.toArray 42)) w.heap.size 42 vs := Blk.new w 42 vs
  obtain ⟨L, h1, h2, h3⟩ := NVs.items (h.out.only ho)
  have hr : Hid (NsRead (w.alloc (Obj.cells vs.toArray 42)) (some ⟨w.heap.size, 0, none⟩) L) := fun j hj => by
    obtain ⟨h4, h5⟩ := h3 j hj
    exact ⟨_, 0, rfl, by rw [hb.cell, Nat.zero_add]; exact h4, h5⟩
  have hc := add_any (some ⟨w.heap.size, 0, none⟩) k L _ hr (by have := hk.out; omega) (lt_big (by rw [h2]; exact hf.out))
  rw [h1, hk.out, h2] at hc
  exact hc.mono fun e w' ⟨u, g1, g2, g3⟩ => NPostV.of ⟨u, g1, g2.pre ho.size, ho.nil_trans g3⟩ hf.out

theorem add2_v {w : World} {a b : Value} {m n : Nat} (ha : Hid (NV w a m)) (hb : Hid (NV w b n)) (hf : Hid (Few (m + n))) :
    Calls Tryd.prog 49 #[.slice (some ⟨w.heap.size, 0, none⟩) 2 2] (w.alloc (Obj.cells #[a, b] 42)) (NPostV (m + n) w w) := by
  have h := addL_v (w := w) [a, b] [m, n] 2 rfl (by omega) ⟨ha.out, hb.out, trivial⟩ (by show Few _; simp; exact hf.out)
  simp only [List.sum_cons, List.sum_nil, Nat.add_zero] at h
  exact h

theorem few_add {a b : Nat} {i : Nat} (ha : a < BB ^ i) (hb : b < BB ^ i) : a + b < BB ^ (i + 1) := by
  rw [Nat.pow_succ]
  have h1 := Nat.mul_le_mul_left (BB ^ i) BB_two
  omega

end Go.Proofs.YtigpnopeacicpaaDoor
/-
  compasslaw1: alive, Light.
-/
namespace Go.Proofs.YtigpnopeacicpaaDoor
open Go.RowKit

theorem few_small {n : Nat} (h : n < BB) : Few n := Few.of_pow (k := 1) (by rw [Nat.pow_one]; exact h) (by omega)

structure Sl where
  a : Option Addr
  n : Nat
  c : Nat

def SlRead (w : World) (A : Option Addr) (L : List Sl) : Prop :=
  ∀ (k : Nat) (hk : k < L.length), ∃ b o, A = some ⟨b, o, none⟩ ∧ w.cell? ⟨b, o + k, none⟩ = some (.slice L[k].a L[k].n L[k].c)

def lightB (L : List Sl) : Bool := L.all fun x => decide (x.n ≤ 40)

set_option maxHeartbeats 800000 in
theorem light_any (A : Option Addr) (c : Nat) (L : List Sl) (w : World) (h : Hid (SlRead w A L)) (hl : (L.length : Int) ≤ 9223372036854775800) :
    Calls Tryd.prog 11 #[.slice A L.length c] w fun e w' => e = .returned (.bool (lightB L)) ∧ Only [] w w' := by
  go_enter Tryd.func11, Tryd.ntmps11
  go_wp2_with fail
  go_loopw [3] (fun i wr => ∃ k : Nat, k ≤ L.length ∧ i = .int .i64 (k : Int) ∧ lightB (L.take k) = true ∧ Only [] w wr) (fun i _ => L.length - (intOf i).toNat)
  case atStart => exact ⟨0, Nat.zero_le _, rfl, rfl, Only.refl _ _⟩
  case round =>
    obtain ⟨k, hk, rfl, hl, ho⟩ := hrel
    have HL := Lib.hid hl
    have HO := Lib.hid ho
    clear hl ho
    by_cases hlt : k < L.length
    · obtain ⟨b, o, rfl, h1⟩ := h.out k hlt
      have h2 := HO.out.cell h1 (by simp)
      have HK : Hid (lightB (L.take (k + 1)) = (lightB (L.take k) && decide (L[k].n ≤ 40))) := by
        show _ = _
        unfold lightB
        rw [List.take_succ_eq_append_getElem hlt, List.all_append]
        simp only [List.all_cons, List.all_nil, Bool.and_true]
      have HM : Hid (40 < L[k].n → lightB L = false) := fun hn => by
        unfold lightB
        rw [List.all_eq_false]
        exact ⟨L[k], List.getElem_mem hlt, by simp; exact hn⟩
      have hk' : (k : Int) < (L.length : Int) := by omega
      generalize L[k] = x at h2 HK HM
      obtain ⟨xa, xn, xc⟩ := x
      simp only at h2 HK HM
      clear h1 hlt
      by_cases hx : 40 < xn
      · have hxi : (40 : Int) < (xn : Int) := by omega
        have HF := Lib.hid (HM.out hx)
        clear hx
        go_wp2_with fail
        go_ret
        exact ⟨by rw [HF.out]; rfl, HO.out⟩
      · have hxi : ¬ (40 : Int) < (xn : Int) := by omega
        have HT : Hid (lightB (L.take (k + 1)) = true) := by
          show _ = _
          rw [HK.out, HL.out, decide_eq_true (by omega)]
          rfl
        clear hx
        go_wp2_with fail
        go_roundw
        case rel => exact ⟨k + 1, by omega, by go_num, HT.out, HO.out⟩
        case measure => simp [intOf]; omega
    · have hnl : ¬ (k : Int) < (L.length : Int) := by omega
      have HF : Hid (lightB L = true) := by
        have h1 := HL.out
        rw [List.take_of_length_le (by omega)] at h1
        exact h1
      clear hlt
      go_wp2_with fail
      go_ret
      exact ⟨by rw [HF.out]; rfl, HO.out⟩

theorem light_v {w : World} (L : List Sl) (k : Nat) (hk : Hid (L.length = k)) (hl : (k : Int) ≤ 1000) :
    Calls Tryd.prog 11 #[.slice (some ⟨w.heap.size, 0, none⟩) k k] (w.alloc (Obj.cells (L.map fun x => Value.slice x.a x.n x.c).toArray 39)) fun e w' => e = .returned (.bool (lightB L)) ∧ Only [] w w' := by
  have hb : Blk (w.alloc (Obj.cells (L.map fun x => Value.slice x.a x.n x.c).toArray 39)) w.heap.size 39 (L.map fun x => Value.slice x.a x.n x.c) := Blk.new w _ _
  have h := light_any (some ⟨w.heap.size, 0, none⟩) k L _ (Lib.hid (fun j hj => ⟨_, 0, rfl, by rw [hb.cell, Nat.zero_add]; simp [hj]⟩)) (by have := hk.out; omega)
  rw [hk.out] at h
  exact h.mono fun e w' ⟨h1, h2⟩ => ⟨h1, ((Only.refl [] w).alloc _).nil_trans h2⟩

end Go.Proofs.YtigpnopeacicpaaDoor
/-
  nat.Sub, Shl, Shr, Low, over numbers as values.
-/
namespace Go.Proofs.YtigpnopeacicpaaDoor
open Go.RowKit

theorem sub_v {w : World} {a b : Value} {m n : Nat} (ha : Hid (NV w a m)) (hb : Hid (NV w b n)) : Calls Tryd.prog 85 #[a, b] w (SubPostV m n w) := by
  have hf := ha.out.few
  obtain ⟨A, c, xs, rfl, h2, h3, h4, rfl⟩ := ha.out
  obtain ⟨B, d, ys, rfl, k2, k3, k4, rfl⟩ := hb.out
  refine (sub_any A B c d xs ys w h2 k2 h3 k3).mono fun e w' ⟨u, h1, hu, h6⟩ => ?_
  obtain ⟨A1, c1, rfl⟩ := hu.form
  exact ⟨A1, _, c1, _, rfl, h1, hu, NV.of_res hu (hf.le (Nat.sub_le _ _)), h6⟩

def lowN (n : Nat) : Nat := if _h : n = 0 then 0 else if n % 2 = 1 then 0 else 1 + lowN (n / 2)
termination_by n
decreasing_by omega

theorem lowN_zero : lowN 0 = 0 := by rw [lowN]; rfl

theorem lowN_odd {n : Nat} (h : n % 2 = 1) : lowN n = 0 := by rw [lowN, dif_neg (by omega), if_pos h]

theorem lowN_even {n : Nat} (h0 : n ≠ 0) (h : n % 2 = 0) : lowN n = 1 + lowN (n / 2) := by rw [lowN, dif_neg h0, if_neg (by omega)]

theorem lowN_is : ∀ (k m : Nat), lowN (2 ^ k * (2 * m + 1)) = k
  | 0, m => by rw [Nat.pow_zero, Nat.one_mul]; exact lowN_odd (by omega)
  | k + 1, m => by
    have hp : 0 < 2 ^ k := Nat.pow_pos (by omega)
    have h1 : 0 < 2 ^ k * (2 * m + 1) := Nat.mul_pos hp (by omega)
    have e : 2 ^ (k + 1) * (2 * m + 1) = 2 * (2 ^ k * (2 * m + 1)) := by rw [Nat.pow_succ, Nat.mul_comm (2 ^ k) 2, Nat.mul_assoc]
    rw [e, lowN_even (by omega) (by omega), Nat.mul_div_cancel_left _ (by omega), lowN_is k m]
    omega

theorem lowN_spec {n : Nat} (h : n ≠ 0) : ∃ m, n = 2 ^ lowN n * (2 * m + 1) := by
  induction n using Nat.strongRecOn with
  | ind n ih =>
    by_cases h1 : n % 2 = 1
    · exact ⟨n / 2, by rw [lowN_odd h1]; omega⟩
    · obtain ⟨m, hm⟩ := ih (n / 2) (by omega) (by omega)
      refine ⟨m, ?_⟩
      rw [lowN_even h (by omega), Nat.pow_add, Nat.pow_one, Nat.mul_assoc, ← hm]
      omega

end Go.Proofs.YtigpnopeacicpaaDoor
/-
  A walk's numbers: the values at hand and what they read as.
-/
namespace Go.Proofs.YtigpnopeacicpaaDoor
open Go.RowKit

structure Env (w0 w : World) (vs : List Value) (ns : List Nat) : Prop where
  only : Only [] w0 w
  all : NVs w vs ns
theorem Env.step {w0 w w' : World} {vs : List Value} {ns : List Nat} (h : Env w0 w vs ns) (ho : Only [] w w') : Env w0 w' vs ns := ⟨h.only.nil_trans ho, NVs.only ho h.all⟩
theorem Env.push {w0 w : World} {vs : List Value} {ns : List Nat} (h : Env w0 w vs ns) {v : Value} {n : Nat} (hv : NV w v n) : Env w0 w (v :: vs) (n :: ns) := ⟨h.only, hv, h.all⟩
theorem NVs.get {w : World} : ∀ {vs : List Value} {ns : List Nat} (i : Nat) {v : Value} {n : Nat}, NVs w vs ns → vs[i]? = some v → ns[i]? = some n → NV w v n
  | [], [], i, v, n, _, h1, _ => by simp at h1
  | [], _ :: _, _, _, _, h, _, _ => h.elim
  | _ :: _, [], _, _, _, h, _, _ => h.elim
  | v :: vs, n :: ns, 0, _, _, h, h1, h2 => by
    simp only [List.getElem?_cons_zero, Option.some.injEq] at h1 h2
    subst h1 h2
    exact h.1
  | v :: vs, n :: ns, i + 1, _, _, h, h1, h2 => NVs.get i h.2 (by simpa using h1) (by simpa using h2)
theorem Env.at {w0 w : World} {vs : List Value} {ns : List Nat} (h : Hid (Env w0 w vs ns)) (i : Nat) {v : Value} {n : Nat} (h1 : vs[i]? = some v) (h2 : ns[i]? = some n) : Hid (NV w v n) := NVs.get i h.out.all h1 h2
def Lim (n k : Nat) : Prop := n < BB ^ k
theorem Lim.le {a b i : Nat} (hb : Lim b i) (h : a ≤ b) : Lim a i := Nat.lt_of_le_of_lt h hb
theorem Lim.mono {a i j : Nat} (ha : Lim a i) (h : i ≤ j) : Lim a j := Nat.lt_of_lt_of_le ha (Nat.pow_le_pow_right BB_pos h)
theorem Lim.add {a b i j : Nat} (ha : Lim a i) (hb : Lim b j) : Lim (a + b) (i + j + 1) := few_add (ha.mono (by omega)) (hb.mono (by omega))
theorem Lim.val {xs : List Nat} (h : Limb xs) {k : Nat} (hk : xs.length ≤ k) : Lim (val xs) k := Nat.lt_of_lt_of_le (val_lt h) (Nat.pow_le_pow_right BB_pos hk)
end Go.Proofs.YtigpnopeacicpaaDoor

/-
  An argument that is a slice of limbs, opened: it reads as L.
-/
namespace Go.Proofs.YtigpnopeacicpaaDoor
open Go.ChangeShapes Go.WideShapes Go.ChangeAt Go.RowKit Go.Deep

def LimbsIn (w : World) (A : Option Addr) (L : List Nat) : Prop := LRead w A L ∧ Limb L
theorem LimbsIn.only {w w' : World} {A : Option Addr} {L : List Nat} (h : LimbsIn w A L) (ho : Only [] w w') : LimbsIn w' A L := ⟨h.1.only ho, h.2⟩

theorem limbs_in {H : Type} {enc : TypeId × Value → H} {w : World} {base : Nat} {spare : Nat → Bool} {held : Bool} {fuel : Nat} {cs : List Value} {x : DataW H × List MemPlace} {t : TypeId} (ht : Tryd.prog.underlying t = some (.slice 90))
    (h : DataW.trod enc Tryd.prog w base spare held fuel t cs = some x) :
    ∃ A c L, cs = [.slice A (List.length L) c] ∧ List.length L ≤ c ∧ c ≤ maxLen ∧ LimbsIn w A L := by
  rcases open_slice ht h with ⟨rfl, _⟩ | ⟨a, len, cap, m, n, D, Pl, rfl, _, hl, hcm, hm, _, hi⟩
  · exact ⟨none, 0, [], rfl, Nat.le_refl _, Nat.zero_le _, LRead.nil, limb_nil⟩
  · have hC : Tryd.prog.cellsOf 90 = 1 := by kernel_rfl
    have hlm : len ≤ m := by rw [hm]; split <;> omega
    have key : ∀ i, i < len → ∃ z : Nat, w.cell? (a.add i) = some (.int .u64 (z : Int)) ∧ z < BB := by
      intro i hil
      obtain ⟨cs', hc, ht⟩ := hi i (by omega)
      rw [hC] at hc
      obtain ⟨_, _, hat⟩ := World.cells?_some hc
      obtain ⟨z, rfl, _, hwf⟩ := DataW.trod_int Tryd.underlying90 ht
      have hwf' : 0 ≤ z ∧ z < 18446744073709551616 := by
        have e1 : IntKind.u64.min = 0 := by kernel_rfl
        have e2 : IntKind.u64.max = 18446744073709551615 := by kernel_rfl
        simp only [Lit.wf, e1, e2, Bool.and_eq_true, decide_eq_true_eq] at hwf
        omega
      have h0 := hat 0 (by omega)
      refine ⟨z.toNat, ?_, by rw [BB_val]; omega⟩
      rw [Int.toNat_of_nonneg hwf'.1]
      simpa [Addr.add] using h0
    have choose : ∀ len : Nat, (∀ i, i < len → ∃ z : Nat, w.cell? (a.add i) = some (.int .u64 (z : Int)) ∧ z < BB) → ∃ L : List Nat, L.length = len ∧ ∀ i, i < len → w.cell? (a.add i) = some (.int .u64 ((L[i]?.getD 0 : Nat) : Int)) ∧ L[i]?.getD 0 < BB := by
      intro len
      induction len with
      | zero => exact fun _ => ⟨[], rfl, fun i hi => by omega⟩
      | succ len ih =>
        intro key
        obtain ⟨L, hL, hall⟩ := ih (fun i hi => key i (by omega))
        obtain ⟨z, hz⟩ := key len (by omega)
        refine ⟨L ++ [z], by simp [hL], fun i hi => ?_⟩
        by_cases e : i = len
        · subst e
          rw [List.getElem?_append_right (by omega), hL]
          simpa using hz
        · rw [List.getElem?_append_left (by omega)]
          exact hall i (by omega)
    obtain ⟨L, hL, hall⟩ := choose len key
    refine ⟨some a, cap, L, by rw [hL], by omega, hcm, fun k hk => ?_, fun x hx => ?_⟩
    · have h0 := (hall k (by omega)).1
      obtain ⟨b, o, sp⟩ := a
      obtain rfl : sp = none := by
        have h1 := (hall 0 (by omega)).1
        simpa [Addr.add] using World.cell?_spot h1
      refine ⟨b, o, rfl, ?_⟩
      rwa [addr_plus] at h0
    · obtain ⟨i, hi, rfl⟩ := List.getElem_of_mem hx
      have := (hall i (by omega)).2
      rwa [List.getElem?_eq_getElem hi] at this
end Go.Proofs.YtigpnopeacicpaaDoor
