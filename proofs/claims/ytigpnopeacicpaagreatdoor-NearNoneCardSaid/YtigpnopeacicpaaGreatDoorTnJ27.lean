/-
  Joined texts.
-/
import Derived.Test.YtigpnopeacicpaaGreatDoorTnJ26
import Derived.Test.YtigpnopeacicpaaGreatDoorTnJ24
import Derived.Test.YtigpnopeacicpaaGreatDoorTnJ22
import Derived.Test.YtigpnopeacicpaaGreatDoorTnJ21
import Derived.Test.YtigpnopeacicpaaGreatDoorTnJ25
import Derived.Test.YtigpnopeacicpaaGreatDoorTnJ23
/-
  near.Of and near.Close, as functions of what eval tells.
-/
namespace Go.Proofs.YtigpnopeacicpaaGreatDoor
set_option linter.unusedSimpArgs false
open Go.RowKit
attribute [local go_sem] run_store_float

/-- What eval leaves. -/
def EvYes (id : Int) (x y : Dy) (w : World) (e : Ending) (w' : World) : Prop := ∃ m n B, e = .returned (.tuple #[.map (some m), .bool true]) ∧ BallsAt w' m n B ∧ getB B id = (x, y) ∧ Only [] w w'
def EvNo (w : World) (e : Ending) (w' : World) : Prop := e = .returned (.tuple #[.map none, .bool false]) ∧ Only [] w w'
/-- What Of leaves. -/
def OfYes (x y : Dy) (w : World) (e : Ending) (w' : World) : Prop := ∃ s A k c t B m d, e = .returned (.tuple #[.agg #[.bool s, .slice A k c, .int .i64 x.e, .bool t, .slice B m d, .int .i64 y.e], .bool true]) ∧ Cn s k x.z ∧ IV w' (.agg #[.bool s, .slice A k c]) x.z ∧ Cn t m y.z ∧ IV w' (.agg #[.bool t, .slice B m d]) y.z ∧ Only [] w w'
def OfNo (w : World) (e : Ending) (w' : World) : Prop := e = .returned (.tuple #[.agg #[.bool false, .slice none 0 0, .int .i64 0, .bool false, .slice none 0 0, .int .i64 0], .bool false]) ∧ Only [] w w'

set_option maxHeartbeats 1600000 in
theorem nof_yes (d : Nat) (id p : Int) (w : World) (x y : Dy) (hid : Hid (Small id)) (HE : Hid (∀ W : World, Only [] w W → Calls Tryz.prog 74 #[.pointer (some ⟨d, 0, none⟩), .int .i64 id, .int .i64 p, .bool false] W (EvYes id x y W))) :
    Calls Tryz.prog 38 #[.pointer (some ⟨d, 0, none⟩), .int .i64 id, .int .i64 p] w (OfYes x y w) := by
  have hk := (GB.start w).new 34 [.bool false, .slice none 0 0, .int .i64 0, .bool false, .slice none 0 0, .int .i64 0] (noLimb6 _ _ _ _ _ _ _ _ _ _)
  have HK := Lib.hid hk
  clear hk
  go_enter Tryz.func38, Tryz.ntmps38
  go_wp2_with fail
  refine (HE.out _ HK.out.only).mono ?_
  rintro e w1 ⟨m, n, B, rfl, hM, hg, ho⟩
  obtain ⟨v, hl, hv⟩ := hM.look hid.out
  rw [hg] at hv
  obtain ⟨s5, A5, k5, c5, s6, A6, k6, c6, rfl, hc5, hv5, hc6, hv6⟩ := hv
  simp only at hc5 hc6 hv5 hv6 hl
  have HC5 := Lib.hid hc5
  have HC6 := Lib.hid hc6
  have HV5 := Lib.hid hv5
  have HV6 := Lib.hid hv6
  replace HK := Lib.hid (HK.out.step ho)
  clear ho hM hg hv5 hv6 hc5 hc6 HE hid
  obtain ⟨q0, q1, q2, q3, q4, q5⟩ := GB.c6 HK 0 rfl
  obtain ⟨f0, f1, f2, f3, f4, f5⟩ := GB.f6 HK 0 rfl
  go_wp2_with fail
  refine bodyPost_ret (v := .tuple #[.agg #[.bool s5, .slice A5 k5 c5, .int .i64 x.e, .bool s6, .slice A6 k6 c6, .int .i64 y.e], .bool true]) (by simp [results, Tryz.results38, go_sem, q0, q1, q2, q3, q4, q5]) rfl ?_
  exact ⟨s5, A5, k5, c5, s6, A6, k6, c6, rfl, HC5.out, HV5.out.farS (only_set6 _ _ _ _ _ _ _ _) (fun g hg => by rw [List.mem_singleton] at hg; subst hg; exact HV5.out.far_blk (GB.blk HK 0 rfl) (noLimb6 _ _ _ _ _ _ _ _ _ _)), HC6.out, HV6.out.farS (only_set6 _ _ _ _ _ _ _ _) (fun g hg => by rw [List.mem_singleton] at hg; subst hg; exact HV6.out.far_blk (GB.blk HK 0 rfl) (noLimb6 _ _ _ _ _ _ _ _ _ _)), HK.out.only.trans (only_set6 _ _ _ _ _ _ _ _) (fun k hk => .inr (by simp at hk; omega))⟩
set_option maxHeartbeats 1600000 in
theorem nof_no (d : Nat) (id p : Int) (w : World) (HE : Hid (∀ W : World, Only [] w W → Calls Tryz.prog 74 #[.pointer (some ⟨d, 0, none⟩), .int .i64 id, .int .i64 p, .bool false] W (EvNo W))) :
    Calls Tryz.prog 38 #[.pointer (some ⟨d, 0, none⟩), .int .i64 id, .int .i64 p] w (OfNo w) := by
  have hk := (GB.start w).new 34 [.bool false, .slice none 0 0, .int .i64 0, .bool false, .slice none 0 0, .int .i64 0] (noLimb6 _ _ _ _ _ _ _ _ _ _)
  have HK := Lib.hid hk
  clear hk
  go_enter Tryz.func38, Tryz.ntmps38
  go_wp2_with fail
  refine (HE.out _ HK.out.only).mono ?_
  rintro e w1 ⟨rfl, ho⟩
  replace HK := Lib.hid (HK.out.step ho)
  clear ho HE
  obtain ⟨q0, q1, q2, q3, q4, q5⟩ := GB.c6 HK 0 rfl
  obtain ⟨f0, f1, f2, f3, f4, f5⟩ := GB.f6 HK 0 rfl
  go_wp2_with fail
  refine bodyPost_ret (v := .tuple #[.agg #[.bool false, .slice none 0 0, .int .i64 0, .bool false, .slice none 0 0, .int .i64 0], .bool false]) (by simp [results, Tryz.results38, go_sem, q0, q1, q2, q3, q4, q5]) rfl ?_
  exact ⟨rfl, HK.out.only.trans (only_set6 _ _ _ _ _ _ _ _) (fun k hk => .inr (by simp at hk; omega))⟩

set_option maxHeartbeats 3200000 in
theorem nclose_no (d : Nat) (id bits : Int) (w : World) (HO : Hid (∀ (p : Int) (W : World), (p = 32 ∨ p = 64 ∨ p = 128 ∨ p = 256) → Only [] w W → Calls Tryz.prog 38 #[.pointer (some ⟨d, 0, none⟩), .int .i64 id, .int .i64 p] W (OfNo W))) :
    Calls Tryz.prog 46 #[.pointer (some ⟨d, 0, none⟩), .int .i64 id, .int .i64 bits, .int .i64 256] w (OfNo w) := by
  have hk := (GB.start w).new 34 [.bool false, .slice none 0 0, .int .i64 0, .bool false, .slice none 0 0, .int .i64 0] (noLimb6 _ _ _ _ _ _ _ _ _ _)
  have HK := Lib.hid hk
  clear hk
  go_enter Tryz.func46, Tryz.ntmps46
  go_wp2_with fail
  generalize hg : w.heap.size = g at *
  generalize w.alloc _ = w0 at *
  go_loopw [10] (fun pv wr => ∃ p : Int, (p = 32 ∨ p = 64 ∨ p = 128 ∨ p = 256 ∨ p = 512) ∧ pv = .int .i64 p ∧ GB w wr [⟨g, 34, [.bool false, .slice none 0 0, .int .i64 0, .bool false, .slice none 0 0, .int .i64 0]⟩]) (fun pv _ => (512 - intOf pv).toNat)
  case atStart => exact ⟨32, .inl rfl, rfl, HK.out⟩
  case round =>
    obtain ⟨p, hp, rfl, hS⟩ := hrel
    clear HK
    have HK := Lib.hid hS
    clear hS
    by_cases h5 : p = 512
    · subst h5
      obtain ⟨q0, q1, q2, q3, q4, q5⟩ := GB.c6 HK 0 rfl
      obtain ⟨f0, f1, f2, f3, f4, f5⟩ := GB.f6 HK 0 rfl
      go_wp2_with fail
      refine bodyPost_ret (v := .tuple #[.agg #[.bool false, .slice none 0 0, .int .i64 0, .bool false, .slice none 0 0, .int .i64 0], .bool false]) (by simp [results, Tryz.results46, go_sem, q0, q1, q2, q3, q4, q5]) rfl ?_
      exact ⟨rfl, HK.out.only.trans (only_set6 _ _ _ _ _ _ _ _) (fun k hk => .inr (by simp at hk; omega))⟩
    · have hp4 : p = 32 ∨ p = 64 ∨ p = 128 ∨ p = 256 := by omega
      have hle : p ≤ 256 := by omega
      have hw2 : IntKind.i64.wrap (p * 2) = p * 2 := wrap_i64 (by omega)
      have HC := Lib.hid (HO.out p wr hp4 HK.out.only)
      have HP := Lib.hid hp4
      clear hp hp4 h5
      go_wp2_with fail
      refine HC.out.mono ?_
      rintro e w5 ⟨rfl, ho⟩
      replace HK := Lib.hid (HK.out.step ho)
      clear ho HC
      go_wp2_with fail
      go_roundw
      case rel => exact ⟨p * 2, by have := HP.out; omega, by go_num, HK.out.step ((Only.refl [] _).alloc _)⟩
      case measure => have := HP.out; simp [intOf] <;> omega
end Go.Proofs.YtigpnopeacicpaaGreatDoor

/-
  compasslaw10.Load: a dag of nodes that are right, each its own.
-/
namespace Go.Proofs.YtigpnopeacicpaaGreatDoor
open Go.RowKit
attribute [local go_sem] run_store_float

def idsN (n : Nat) : List Int := (List.range n).map fun (i : Nat) => (i : Int)
theorem idsN_succ (n : Nat) : idsN (n + 1) = idsN n ++ [(n : Int)] := by simp [idsN, List.range_succ]
theorem idsN_get (n i : Nat) (h : i < n) : (idsN n)[i]?.getD 0 = (i : Int) := by simp [idsN, h]
theorem reNd_ids {k : Nat} {n : Nd} (hn : takesB k n.k n.f n.a n.b = true) : reNd (idsN k) n = n := by
  obtain ⟨nk, nf, na, nb⟩ := n
  simp only at hn
  have hfine := fine_of _ _ _ _ _ hn
  unfold Fine at hfine
  have e : ∀ x : Int, 0 ≤ x → x < (k : Int) → (idsN k)[x.toNat]?.getD 0 = x := fun x h0 h1 => by
    rw [idsN_get _ _ (by omega)]
    omega
  rcases hfine with ⟨hv, h0, hf⟩ | ⟨hv, h5, ha⟩ | ⟨hv, h0, h5, ha, hb⟩
  · simp [reNd, h0]
  · simp only [validB, decide_eq_true_eq] at hv
    simp only [reNd, h5]
    rw [e na (by omega) (by omega)]
    simp
  · simp only [validB, decide_eq_true_eq] at hv
    simp only [reNd]
    rw [if_neg h0, if_neg (by omega), e na (by omega) (by omega), e nb (by omega) (by omega)]
theorem ld_none {L : List Nd} (hok : AllOk L) : ∀ k, k ≤ L.length → ld none (L.take k) = (L.take k, idsN k)
  | 0, _ => by simp [ld, idsN]
  | k + 1, h => by
    have ho : takesB k (L[k]?.getD nd0).k (L[k]?.getD nd0).f (L[k]?.getD nd0).a (L[k]?.getD nd0).b = true := hok k (by omega)
    rw [ld_take none L (by omega), ld_none hok k (by omega), ldStep, reNd_ids ho]
    have hl : (L.take k).length = k := by rw [List.length_take]; omega
    have e : L.take (k + 1) = L.take k ++ [L[k]?.getD nd0] := by
      rw [List.take_succ_eq_append_getElem (by omega), List.getElem?_eq_getElem (by omega)]
      rfl
    simp only [putNs, putId, hl, ho, if_true, ne_eq, not_true_eq_false, false_and, if_false]
    rw [e, idsN_succ]
theorem ok_dag {L : List Nd} (hok : AllOk L) : OkDag L := by
  intro x h0 h1 c hc
  have h := hok x.toNat (by omega)
  unfold okB at h
  have hfine := fine_of _ _ _ _ _ h
  have hn : nodeAt L x = L[x.toNat]?.getD nd0 := rfl
  rw [hn] at hc
  generalize L[x.toNat]?.getD nd0 = n at hfine hc
  unfold Fine at hfine
  unfold kids at hc
  rcases hfine with ⟨hv, h0', hf⟩ | ⟨hv, h5, ha⟩ | ⟨hv, h0', h5, ha, hb⟩
  · rw [if_pos h0'] at hc
    simp at hc
  · simp only [validB, decide_eq_true_eq] at hv
    rw [if_neg (by omega), if_pos h5] at hc
    have : c = n.a := by simpa using hc
    omega
  · simp only [validB, decide_eq_true_eq] at hv
    rw [if_neg h0', if_neg h5] at hc
    have : c = n.a ∨ c = n.b := by simpa using hc
    omega

def L10 (L : List Nd) (w : World) (e : Ending) (w' : World) : Prop := ∃ d v, e = .returned (.pointer (some ⟨d, 0, none⟩)) ∧ Own w w' d v none L

set_option maxHeartbeats 1600000 in
theorem load10_any (A : Option Addr) (c : Nat) (L : List Nd) (w : World) (hA : Hid (NRead w A L)) (hf : Hid (∀ k, k < L.length → (L[k]?.getD nd0).f < 2 ^ 64)) (hl : (L.length : Int) ≤ 1000) (hok : Hid (AllOk L)) :
    Calls Tryz.prog 70 #[.slice A L.length c] w (L10 L w) := by
  go_enter Tryz.func70, Tryz.ntmps70
  go_wp2_with fail
  refine (load_good false A c L w hA hf hl hok).mono ?_
  rintro e w1 ⟨d, r, v, u, rfl, hr, hrel⟩
  obtain rfl : r = none := hr.2 rfl
  have e1 : ld none L = (L, idsN L.length) := by
    have := ld_none hok.out L.length (Nat.le_refl _)
    rwa [List.take_length] at this
  rw [e1] at hrel
  have HOwn := Lib.hid hrel.own
  have hids := hrel.ids
  simp only at hids
  obtain ⟨Au, cu, rfl, hread⟩ := hids.shape
  have hlen : (idsN L.length).length = L.length := by simp [idsN]
  have HR := Lib.hid hread
  clear hrel hread hids hr
  rw [hlen]
  have HLen := Lib.hid hlen
  clear hlen e1
  go_wp2_with fail
  go_loopw [6] (fun i wr => ∃ k : Nat, k ≤ L.length ∧ i = .int .i64 (k : Int) ∧ Only [] w1 wr) (fun i _ => L.length - (intOf i).toNat)
  case atStart => exact ⟨0, Nat.zero_le _, rfl, Only.refl _ _⟩
  case round =>
    obtain ⟨k, hk, rfl, ho⟩ := hrel
    have Ho := Lib.hid ho
    clear ho
    by_cases hlt : k < L.length
    · obtain ⟨b, o, rfl, h1⟩ := HR.out k (by rw [HLen.out]; exact hlt)
      rw [idsN_get _ _ hlt] at h1
      have p0 := Ho.out.cell h1 (by simp)
      clear h1
      have hk' : (k : Int) < (L.length : Int) := by omega
      go_wp2_with fail
      go_roundw
      case rel => exact ⟨k + 1, by omega, by go_num, Ho.out⟩
      case measure => simp [intOf]; omega
    · have hnl : ¬ (k : Int) < (L.length : Int) := by omega
      go_wp2_with fail
      go_ret
      exact ⟨d, v, rfl, HOwn.out.other Ho.out (by simp) (by simp)⟩

end Go.Proofs.YtigpnopeacicpaaGreatDoor

/-
  float64(n) of a whole number, as a dyad; what a root is made of, of small dags.
-/
namespace Go.Proofs.YtigpnopeacicpaaGreatDoor
set_option linter.unusedSimpArgs false
open Go.RowKit

open Fl in
theorem rung_int {n : Nat} (h0 : n ≠ 0) (h : n < 9007199254740992) : ∃ r, r < INF ∧ Fl.NR r = n * 2 ^ 1074 := by
  have h1 := Nat.log2_self_le h0
  have h2 := Nat.lt_log2_self (n := n)
  have hb : Nat.log2 n ≤ 52 := by
    have : Nat.log2 n < 53 := (Nat.log2_lt h0).2 (by omega)
    omega
  obtain ⟨b, hbe⟩ : ∃ b, Nat.log2 n = b := ⟨_, rfl⟩
  rw [hbe] at h1 h2 hb
  have e1 : 2 ^ b * 2 ^ (52 - b) = 4503599627370496 := by rw [← Nat.pow_add, show b + (52 - b) = 52 by omega]
  have e2 : 2 ^ (b + 1) * 2 ^ (52 - b) = 9007199254740992 := by rw [← Nat.pow_add, show b + 1 + (52 - b) = 53 by omega]
  obtain ⟨k, hk⟩ : ∃ k, n * 2 ^ (52 - b) = k := ⟨_, rfl⟩
  have k1 : 4503599627370496 ≤ k := by rw [← e1, ← hk]; exact Nat.mul_le_mul_right _ h1
  have k2 : k < 9007199254740992 := by rw [← e2, ← hk]; exact Nat.mul_lt_mul_of_pos_right h2 (Nat.pow_pos (by omega))
  refine ⟨(1022 + b) * 4503599627370496 + k, ?_, ?_⟩
  · show _ < 9218868437227405312
    have : (1022 + b) * 4503599627370496 ≤ 1074 * 4503599627370496 := Nat.mul_le_mul_right _ (by omega)
    omega
  · rw [NR_base _ _ k1 (by omega), ← hk, Nat.mul_assoc, ← Nat.pow_add, show 52 - b + (1022 + b) = 1074 by omega]
open Fl in
/-- float64 of a whole number. -/
theorem float_int (s : Bool) {n : Nat} (h0 : n ≠ 0) (h : n < 9007199254740992) : ∃ r, r < INF ∧ floatOfInt .f64 (sg s n) = wordB s r ∧ fD s r = nrm (sg s n) 0 := by
  obtain ⟨r, hr, hn⟩ := rung_int h0 h
  refine ⟨r, hr, ?_, Can.ext (fD_can _ _) (nrm_can _ _) ?_⟩
  · obtain ⟨f, rr, h1, h2, h3, h4⟩ := nearest_rung s 0 h0
    have hs : (decide (sg s n < 0)) = s := by
      cases s <;> simp [sg] <;> omega
    have ha : (sg s n).natAbs = n := by cases s <;> simp [sg]
    have e : floatOfInt .f64 (sg s n) = Ieee.double.nearest s n 0 := by
      show Ieee.double.nearest (decide (sg s n < 0)) (sg s n).natAbs 0 = _
      rw [hs, ha]
    rw [e, h1]
    rw [show ((-1074 : Int) - 0).toNat = 0 by decide, show ((0 : Int) + 1074).toNat = 1074 by decide, Nat.pow_zero, Nat.mul_one, ← hn] at h2
    rw [show ((-1074 : Int) - 0).toNat = 0 by decide, show ((0 : Int) + 1074).toNat = 1074 by decide, Nat.pow_zero, Nat.mul_one, ← hn] at h3
    rw [show ((-1074 : Int) - 0).toNat = 0 by decide, show ((0 : Int) + 1074).toNat = 1074 by decide, Nat.pow_zero, Nat.mul_one, ← hn] at h4
    have hf : f = r := by
      have g1 : f ≤ r := by
        rcases Nat.lt_or_ge r f with hc | hc
        · have := NR_lt_iff.2 hc; omega
        · exact hc
      have g2 : r < f + 1 := NR_lt_iff.1 h3
      omega
    subst hf
    have : rr = f := by
      rcases h4 with h4 | ⟨_, h4⟩
      · exact h4
      · omega
    subst this
    rw [Nat.min_eq_left (Nat.le_of_lt hr)]
  · rw [fD_q, nrm_q, hn]
    have e : (sg s (n * 2 ^ 1074) : Int) = sg s n * 2 ^ 1074 := (sg_pow s n 1074).symm
    rw [e]
    have h2 : ((2 ^ 1074 : Int) : Rat) = p2 1074 := (p2_nat 1074).symm
    rw [Rat.intCast_mul, h2, Rat.mul_assoc, ← p2_add]
    rfl

/-- What a root is made of: a set that holds it and the operands of each of its own, and of which each is reached. -/
theorem below_is {ns : List Nd} (ok : OkDag ns) {root : Int} (S : Nat → Bool) (hroot : ∀ x : Nat, (x : Int) = root → S x = true) (hkid : ∀ x : Nat, x < ns.length → S x = true → ∀ c ∈ kids (nodeAt ns (x : Int)), ∀ y : Nat, (y : Int) = c → S y = true)
    (hreach : ∀ x : Nat, x < ns.length → S x = true → Reach ns (· ∈ [root]) (x : Int)) : belowOf ns root = ((List.range ns.length).filter S).map fun (i : Nat) => (i : Int) := by
  have hin : ∀ z : Int, Reach ns (· ∈ [root]) z → ∀ x : Nat, (x : Int) = z → S x = true := by
    intro z hz
    induction hz with
    | root z h h0 h1 =>
      intro x hx
      have e : z = root := by simpa using h
      exact hroot x (hx.trans e)
    | kid z c h hc ih =>
      intro x hx
      have hr := h.range ok
      have hz0 : (z.toNat : Int) = z := by omega
      exact hkid z.toNat (by omega) (ih z.toNat hz0) c (by rw [hz0]; exact hc) x hx
  unfold belowOf belowL
  congr 1
  apply List.filter_congr
  intro x hx
  rw [List.mem_range] at hx
  by_cases h : S x = true
  · rw [h]
    exact @decide_eq_true _ (Classical.propDecidable _) (hreach x hx h)
  · rw [Bool.not_eq_true] at h
    rw [h]
    exact @decide_eq_false _ (Classical.propDecidable _) (fun hc => by
      have := hin _ hc x rfl
      rw [h] at this
      cases this)
end Go.Proofs.YtigpnopeacicpaaGreatDoor

/-
  near.eval of what is not there; combine at the numbers of a dag; eval's two ends.
-/
namespace Go.Proofs.YtigpnopeacicpaaGreatDoor
set_option linter.unusedSimpArgs false
open Go.RowKit
attribute [local go_sem] run_store_float

set_option maxHeartbeats 1600000 in
theorem nev_out (d : Nat) (v : Value) (r : Option Nat) (ns : List Nd) (id p : Int) (w : World) (hd : Hid (DagIs w d v r ns)) (hk : Hid (hasB ns.length id = false)) :
    Calls Tryz.prog 74 #[.pointer (some ⟨d, 0, none⟩), .int .i64 id, .int .i64 p, .bool false] w (EvNo w) := by
  go_enter Tryz.func74, Tryz.ntmps74
  go_wp2_with fail
  refine (dnode_out d v r ns id w hd.out hk.out).mono ?_
  rintro e w1 ⟨rfl, ho1⟩
  have HO := Lib.hid ho1
  clear ho1
  simp only [nd0, Nd.val]
  go_upto_region 2 with fail
  have HO2 : Hid (Only [] w (w1.alloc (.cells #[.int .i64 0, .float .f64 0, .int .i64 0, .int .i64 0] 95))) := HO.out.alloc _
  clear HO
  generalize w1.alloc _ = w2 at *
  go_wp2_with fail
  go_returns
  exact ⟨rfl, HO2.out⟩
set_option maxHeartbeats 1600000 in
theorem nev_low (p : Int) (hp : p < 1)
    (d : Nat) (v : Value) (r : Option Nat) (ns : List Nd) (k : Nat) (w : World) (hd : Hid (DagIs w d v r ns)) (hk : Hid (k < ns.length)) :
    Calls Tryz.prog 74 #[.pointer (some ⟨d, 0, none⟩), .int .i64 (k : Int), .int .i64 p, .bool false] w (EvNo w) := by
  go_enter Tryz.func74, Tryz.ntmps74
  go_wp2_with fail
  refine (dnode_in d v r ns k w hd.out hk.out).mono ?_
  rintro e w1 ⟨rfl, ho1⟩
  have HO := Lib.hid ho1
  clear ho1
  obtain ⟨nk, nf, na, nb⟩ := ns[k]?.getD nd0
  simp only [Nd.val]
  go_upto_region 2 with fail
  have HO2 : Hid (Only [] w (w1.alloc (.cells #[.int .i64 nk, .float .f64 nf, .int .i64 na, .int .i64 nb] 95))) := HO.out.alloc _
  clear HO
  generalize w1.alloc _ = w2 at *
  go_wp2_with fail
  go_returns
  exact ⟨rfl, HO2.out⟩

set_option maxHeartbeats 1600000 in
theorem nev_high (p : Int) (hp1 : ¬ p < 1) (hp : 65536 < p)
    (d : Nat) (v : Value) (r : Option Nat) (ns : List Nd) (k : Nat) (w : World) (hd : Hid (DagIs w d v r ns)) (hk : Hid (k < ns.length)) :
    Calls Tryz.prog 74 #[.pointer (some ⟨d, 0, none⟩), .int .i64 (k : Int), .int .i64 p, .bool false] w (EvNo w) := by
  go_enter Tryz.func74, Tryz.ntmps74
  go_wp2_with fail
  refine (dnode_in d v r ns k w hd.out hk.out).mono ?_
  rintro e w1 ⟨rfl, ho1⟩
  have HO := Lib.hid ho1
  clear ho1
  obtain ⟨nk, nf, na, nb⟩ := ns[k]?.getD nd0
  simp only [Nd.val]
  go_upto_region 2 with fail
  have HO2 : Hid (Only [] w (w1.alloc (.cells #[.int .i64 nk, .float .f64 nf, .int .i64 na, .int .i64 nb] 95))) := HO.out.alloc _
  clear HO
  generalize w1.alloc _ = w2 at *
  go_wp2_with fail
  go_returns
  exact ⟨rfl, HO2.out⟩

theorem nev_yes (d : Nat) (v : Value) (r : Option Nat) (ns : List Nd) (root : Nat) (p : Int) (w : World) (L : List Int) (g : Int → Dy × Dy) (x y : Dy) (hd : DagIs w d v r ns) (ok : OkDag ns) (hns : ns.length ≤ 20000) (hroot : root < ns.length) (hp : 1 ≤ p ∧ p ≤ 65536)
    (hL : belowOf ns (root : Int) = L) (hsm : Hid (∀ x : Nat, x < ns.length → Small (nodeAt ns (x : Int)).a ∧ Small (nodeAt ns (x : Int)).b)) (hkd : Hid (∀ x : Nat, x < ns.length → 0 ≤ (nodeAt ns (x : Int)).k ∧ (nodeAt ns (x : Int)).k ≤ 5))
    (HC : ∀ k, k < L.length → CombN ns L g p k (g (L[k]?.getD 0)).1 (g (L[k]?.getD 0)).2 true ∧ NFits (g (L[k]?.getD 0))) (hg : getB (runN ns g (useF ns L) L).1 (root : Int) = (x, y)) (hT : Hid (Tab6 w)) :
    Calls Tryz.prog 74 #[.pointer (some ⟨d, 0, none⟩), .int .i64 (root : Int), .int .i64 p, .bool false] w (EvYes (root : Int) x y w) :=
  (neval_any d v r ns root p w L g L.length hd ok hns hroot (decide_eq_false (by omega)) (decide_eq_false (by omega)) hL (Nat.le_refl _) hsm hkd (Lib.hid HC) (Lib.hid fun h => absurd h (by omega)) hT).mono fun e w' ⟨m, he, hB, ho⟩ => ⟨m, L.length, _, by rw [he]; simp, hB rfl, hg, ho⟩
theorem nev_no (d : Nat) (v : Value) (r : Option Nat) (ns : List Nd) (root : Nat) (p : Int) (w : World) (L : List Int) (g : Int → Dy × Dy) (K : Nat) (hd : DagIs w d v r ns) (ok : OkDag ns) (hns : ns.length ≤ 20000) (hroot : root < ns.length) (hp : 1 ≤ p ∧ p ≤ 65536)
    (hL : belowOf ns (root : Int) = L) (hK : K < L.length) (hsm : Hid (∀ x : Nat, x < ns.length → Small (nodeAt ns (x : Int)).a ∧ Small (nodeAt ns (x : Int)).b)) (hkd : Hid (∀ x : Nat, x < ns.length → 0 ≤ (nodeAt ns (x : Int)).k ∧ (nodeAt ns (x : Int)).k ≤ 5))
    (HC : ∀ k, k < K → CombN ns L g p k (g (L[k]?.getD 0)).1 (g (L[k]?.getD 0)).2 true ∧ NFits (g (L[k]?.getD 0))) (HX : CombN ns L g p K ⟨0, 0⟩ ⟨0, 0⟩ false) (hT : Hid (Tab6 w)) :
    Calls Tryz.prog 74 #[.pointer (some ⟨d, 0, none⟩), .int .i64 (root : Int), .int .i64 p, .bool false] w (EvNo w) :=
  (neval_any d v r ns root p w L g K hd ok hns hroot (decide_eq_false (by omega)) (decide_eq_false (by omega)) hL (by omega) hsm hkd (Lib.hid HC) (Lib.hid fun _ => HX) hT).mono fun e w' ⟨m, he, hB, ho⟩ => ⟨by rw [he, if_neg (by omega), decide_eq_false (by omega)], ho⟩

section
variable {ns : List Nd} {L : List Int} {g : Int → Dy × Dy} {p : Int} {k : Nat}
theorem combN_leaf (i : Int) (nf : Nat) (a b : Int) {z r : Dy} {N : Nat} (hi : L[k]?.getD 0 = i) (hn : nodeAt ns i = ⟨0, nf, a, b⟩) (hf : Hid (∀ W : World, Tab6 W → Calls Tryz.prog 144 #[.float .f64 nf] W (QDPost z true W))) (bz : Bnd N z) (hN : N ≤ 8000000) (hr : nrm z.z z.e = r) : CombN ns L g p k r r true := by
  intro W va vb hT ha hb
  rw [hi, hn] at *
  exact ncomb_leaf nf a b p r hr hf (Lib.hid bz) hN (Lib.hid ha) (Lib.hid hb) (Lib.hid hT)
theorem combN_sub (i : Int) (nf : Nat) (a b : Int) {x y u v lo hi : Dy} {N : Nat} (hi_ : L[k]?.getD 0 = i) (hn : nodeAt ns i = ⟨2, nf, a, b⟩) (ga : getB (runN ns g (useF ns L) (L.take k)).1 a = (x, y)) (gb : getB (runN ns g (useF ns L) (L.take k)).1 b = (u, v))
    (hlo : rndD (widthP p) false (dAdd x (dNot v)) = lo) (hhi : rndD (widthP p) true (dAdd y (dNot u)) = hi) (bx : Bnd N x) (by_ : Bnd N y) (bu : Bnd N u) (bv : Bnd N v) (bnu : Bnd N (dNot u)) (bnv : Bnd N (dNot v)) (hN : N ≤ 100000) : CombN ns L g p k lo hi true := by
  intro W va vb hT ha hb
  rw [hi_, hn] at *
  simp only at ha hb
  rw [ga] at ha
  rw [gb] at hb
  exact ncomb_sub nf a b p _ _ lo hi rfl rfl hlo hhi (Lib.hid ha) (Lib.hid hb) (Lib.hid bx) (Lib.hid by_) (Lib.hid bu) (Lib.hid bv) (Lib.hid bnu) (Lib.hid bnv) hN (Lib.hid hT)
theorem combN_divno (i : Int) (nf : Nat) (a b : Int) {u v : Dy} (hi_ : L[k]?.getD 0 = i) (hn : nodeAt ns i = ⟨4, nf, a, b⟩) (gb : getB (runN ns g (useF ns L) (L.take k)).1 b = (u, v)) (h : u.z.sign = v.z.sign → u.z.sign = 0) : CombN ns L g p k ⟨0, 0⟩ ⟨0, 0⟩ false := by
  intro W va vb hT ha hb
  rw [hi_, hn] at *
  simp only at ha hb
  rw [gb] at hb
  exact ncomb_divno nf a b p h (Lib.hid ha) (Lib.hid hb)
theorem combN_rootno (i : Int) (nf : Nat) (a b : Int) {x y : Dy} (hi_ : L[k]?.getD 0 = i) (hn : nodeAt ns i = ⟨5, nf, a, b⟩) (ga : getB (runN ns g (useF ns L) (L.take k)).1 a = (x, y)) (h : y.z.sign < 0) : CombN ns L g p k ⟨0, 0⟩ ⟨0, 0⟩ false := by
  intro W va vb hT ha hb
  rw [hi_, hn] at *
  simp only at ha hb
  rw [ga] at ha
  exact ncomb_rootno nf a b p _ (Lib.hid rfl) h (Lib.hid ha) (Lib.hid hb)
theorem combN_root (i : Int) (nf : Nat) (a b : Int) {x y lo hi : Dy} {N : Nat} (hi_ : L[k]?.getD 0 = i) (hn : nodeAt ns i = ⟨5, nf, a, b⟩) (ga : getB (runN ns g (useF ns L) (L.take k)).1 a = (x, y)) (hy0 : 0 ≤ y.z) (hlo : sqrtQ (widthP p) false (if x.z < 0 then ⟨0, 0⟩ else x) = lo) (hhi : sqrtQ (widthP p) true y = hi) (bx : Bnd N x) (by_ : Bnd N y) (hN : N ≤ 100000) : CombN ns L g p k lo hi true := by
  intro W va vb hT ha hb
  rw [hi_, hn] at *
  simp only at ha hb
  rw [ga] at ha
  exact ncomb_root nf a b p hy0 hlo hhi (Lib.hid bx) (Lib.hid by_) hN (Lib.hid hT) (Lib.hid ha) (Lib.hid hb)
end
end Go.Proofs.YtigpnopeacicpaaGreatDoor

/-
  The dags of compasslaw13: their nodes, what each is made of, the balls; dag.Int.
-/
namespace Go.Proofs.YtigpnopeacicpaaGreatDoor
set_option linter.unusedSimpArgs false
open Go.RowKit
attribute [local go_sem] run_store_float

/-- float64 of a whole number is a leaf that is this number. -/
def LeafIs (f : Nat) (z : Int) : Prop := f < 2 ^ 64 ∧ finB f = true ∧ ∀ W : World, Tab6 W → Calls Tryz.prog 144 #[.float .f64 f] W (QDPost (nrm z 0) true W)
theorem leaf_int {z : Int} (h : z.natAbs < 9007199254740992) : LeafIs (floatOfInt .f64 z) z := by
  by_cases h0 : z = 0
  · subst h0
    refine ⟨by decide, by decide, fun W hT => ?_⟩
    exact Fl.fl_dyadV _ false (nrm 0 0) (r := 0) (by decide) (by decide) (by unfold Fl.fD; rw [show Fl.mantW 0 = 0 by decide]; rfl) W (Lib.hid hT)
  · obtain ⟨r, h1, h2, h3⟩ := float_int (decide (z < 0)) (n := z.natAbs) (by omega) h
    have hz : sg (decide (z < 0)) z.natAbs = z := by
      by_cases hn : z < 0
      · rw [decide_eq_true hn]; simp [sg]; omega
      · rw [decide_eq_false hn]; simp [sg]; omega
    rw [hz] at h2 h3
    rw [h2]
    have hr : r < 9223372036854775808 := Nat.lt_trans h1 (by decide)
    refine ⟨?_, Fl.finN _ h1, fun W hT => Fl.fl_dyadV _ _ (nrm z 0) h1 rfl h3 W (Lib.hid hT)⟩
    unfold Fl.wordB
    split <;> omega
set_option maxHeartbeats 1600000 in
theorem dintr_any (d : Nat) (v : Value) (r : Option Nat) (ns : List Nd) (x : Int) (f : Nat) (w : World) (hf : Hid (floatOfInt .f64 x = f)) (hf2 : Hid (f < 2 ^ 64)) (h1 : ¬ x < -9007199254740992) (h2 : ¬ 9007199254740992 < x) (hd : Hid (DagIs w d v r ns)) (hlen : Hid (ns.length < 20000)) :
    Calls Tryz.prog 37 #[.pointer (some ⟨d, 0, none⟩), .int .i64 x] w (PPost d v r ns ⟨0, f, 0, 0⟩ w) := by
  go_enter Tryz.func37, Tryz.ntmps37
  go_wp2_with fail
  rw [hf.out]
  (with_reducible refine (dleaf_any d v r ns f _ hf2 hd.out hlen).mono ?_)
  rintro e w1 ⟨v1, rfl, hd1, hst⟩
  have hst' := Lib.hid hst
  clear hst
  go_wp2_with fail
  go_ret
  exact ⟨v1, rfl, hd1, hst'.out⟩

/-- The dag of NearNone. -/
def ns5 (f h : Nat) : List Nd := [⟨0, f, 0, 0⟩, ⟨2, 0, 0, 0⟩, ⟨4, 0, 0, 1⟩, ⟨0, h, 0, 0⟩, ⟨5, 0, 3, 0⟩]
def g5 (x : Int) : Dy × Dy := if x = 0 then (⟨3, 0⟩, ⟨3, 0⟩) else if x = 3 then (⟨-3, 0⟩, ⟨-3, 0⟩) else (⟨0, 0⟩, ⟨0, 0⟩)
section
variable (f h : Nat)
theorem okd5 : OkDag (ns5 f h) := by
  intro x h0 h1 c hc
  have : x = 0 ∨ x = 1 ∨ x = 2 ∨ x = 3 ∨ x = 4 := by simp [ns5] at h1; omega
  rcases this with rfl | rfl | rfl | rfl | rfl <;> simp [kids, nodeAt, ns5] at hc <;> omega
theorem kinds5 : Hid (∀ x : Nat, x < (ns5 f h).length → 0 ≤ (nodeAt (ns5 f h) (x : Int)).k ∧ (nodeAt (ns5 f h) (x : Int)).k ≤ 5) := by
  intro x hx
  have : x = 0 ∨ x = 1 ∨ x = 2 ∨ x = 3 ∨ x = 4 := by simp [ns5] at hx; omega
  rcases this with rfl | rfl | rfl | rfl | rfl <;> simp [nodeAt, ns5]
theorem small5 : Hid (∀ x : Nat, x < (ns5 f h).length → Small (nodeAt (ns5 f h) (x : Int)).a ∧ Small (nodeAt (ns5 f h) (x : Int)).b) := by
  intro x hx
  have : x = 0 ∨ x = 1 ∨ x = 2 ∨ x = 3 ∨ x = 4 := by simp [ns5] at hx; omega
  unfold Small
  rcases this with rfl | rfl | rfl | rfl | rfl <;> simp [nodeAt, ns5]
theorem bel5_0 : belowOf (ns5 f h) ((0 : Nat) : Int) = [0] := by
  refine (below_is (okd5 f h) (fun x => decide (x = 0)) (fun x hx => ?_) (fun x hx hS c hc y hy => ?_) (fun x hx hS => ?_)).trans rfl
  · simpa using hx
  · obtain rfl : x = 0 := by simpa using hS
    simp [kids, nodeAt, ns5] at hc
  · obtain rfl : x = 0 := by simpa using hS
    exact .root _ (by simp) (by simp) (by simp [ns5])
theorem bel5_3 : belowOf (ns5 f h) ((3 : Nat) : Int) = [3] := by
  refine (below_is (okd5 f h) (fun x => decide (x = 3)) (fun x hx => ?_) (fun x hx hS c hc y hy => ?_) (fun x hx hS => ?_)).trans rfl
  · simp; omega
  · obtain rfl : x = 3 := by simpa using hS
    simp [kids, nodeAt, ns5] at hc
  · obtain rfl : x = 3 := by simpa using hS
    exact .root _ (by simp) (by simp) (by simp [ns5])
theorem bel5_1 : belowOf (ns5 f h) ((1 : Nat) : Int) = [0, 1] := by
  have r1 : Reach (ns5 f h) (· ∈ [((1 : Nat) : Int)]) 1 := .root _ (by simp) (by simp) (by simp [ns5])
  refine (below_is (okd5 f h) (fun x => decide (x = 0 ∨ x = 1)) (fun x hx => ?_) (fun x hx hS c hc y hy => ?_) (fun x hx hS => ?_)).trans rfl
  · simp; omega
  · have : x = 0 ∨ x = 1 := by simpa using hS
    rcases this with rfl | rfl <;> simp [kids, nodeAt, ns5] at hc <;> (simp; omega)
  · have : x = 0 ∨ x = 1 := by simpa using hS
    rcases this with rfl | rfl
    · exact .kid 1 _ r1 (by simp [kids, nodeAt, ns5])
    · exact r1
theorem bel5_2 : belowOf (ns5 f h) ((2 : Nat) : Int) = [0, 1, 2] := by
  have r2 : Reach (ns5 f h) (· ∈ [((2 : Nat) : Int)]) 2 := .root _ (by simp) (by simp) (by simp [ns5])
  refine (below_is (okd5 f h) (fun x => decide (x = 0 ∨ x = 1 ∨ x = 2)) (fun x hx => ?_) (fun x hx hS c hc y hy => ?_) (fun x hx hS => ?_)).trans rfl
  · simp; omega
  · have : x = 0 ∨ x = 1 ∨ x = 2 := by simpa using hS
    rcases this with rfl | rfl | rfl <;> simp [kids, nodeAt, ns5] at hc <;> (simp; omega)
  · have : x = 0 ∨ x = 1 ∨ x = 2 := by simpa using hS
    rcases this with rfl | rfl | rfl
    · exact .kid 2 _ r2 (by simp [kids, nodeAt, ns5])
    · exact .kid 2 _ r2 (by simp [kids, nodeAt, ns5])
    · exact r2
theorem bel5_4 : belowOf (ns5 f h) ((4 : Nat) : Int) = [3, 4] := by
  have r4 : Reach (ns5 f h) (· ∈ [((4 : Nat) : Int)]) 4 := .root _ (by simp) (by simp) (by simp [ns5])
  refine (below_is (okd5 f h) (fun x => decide (x = 3 ∨ x = 4)) (fun x hx => ?_) (fun x hx hS c hc y hy => ?_) (fun x hx hS => ?_)).trans rfl
  · simp; omega
  · have : x = 3 ∨ x = 4 := by simpa using hS
    rcases this with rfl | rfl <;> simp [kids, nodeAt, ns5] at hc <;> (simp; omega)
  · have : x = 3 ∨ x = 4 := by simpa using hS
    rcases this with rfl | rfl
    · exact .kid 4 _ r4 (by simp [kids, nodeAt, ns5])
    · exact r4
end
theorem bnd_m3 : Bnd 4 ⟨-3, 0⟩ := bnd_s (by decide) (by decide) (by decide)
theorem nfits5 (x : Int) : NFits (g5 x) := by
  unfold g5
  split
  · exact ⟨by decide +kernel, by decide +kernel, bnd_3.mono (by omega), bnd_3.mono (by omega)⟩
  · split
    · exact ⟨by decide +kernel, by decide +kernel, bnd_m3.mono (by omega), bnd_m3.mono (by omega)⟩
    · exact ⟨by decide +kernel, by decide +kernel, bnd_zero _, bnd_zero _⟩
theorem nrm_m3 : nrm (-3) 0 = ⟨-3, 0⟩ := by rw [nrm_eval 0 1 (by decide)]; rfl
section
variable {f h : Nat} {L : List Int} {p : Int} {k : Nat}
theorem c5_0 (hf : LeafIs f 3) (hL : L[k]?.getD 0 = 0) : CombN (ns5 f h) L g5 p k ⟨3, 0⟩ ⟨3, 0⟩ true :=
  combN_leaf (z := ⟨3, 0⟩) 0 f 0 0 hL rfl (Lib.hid fun W hT => nrm_3 ▸ hf.2.2 W hT) bnd_3 (by omega) nrm_3
theorem c5_3 (hh : LeafIs h (-3)) (hL : L[k]?.getD 0 = 3) : CombN (ns5 f h) L g5 p k ⟨-3, 0⟩ ⟨-3, 0⟩ true :=
  combN_leaf (z := ⟨-3, 0⟩) 3 h 0 0 hL rfl (Lib.hid fun W hT => nrm_m3 ▸ hh.2.2 W hT) bnd_m3 (by omega) nrm_m3
theorem rnd_0 (P : Nat) (up : Bool) : rndD P up ⟨0, 0⟩ = ⟨0, 0⟩ := by
  unfold rndD
  rw [if_pos (by simp [nrm_zero, bitsN])]
  rfl
theorem dnot_3 : dNot ⟨3, 0⟩ = ⟨-3, 0⟩ := nrm_m3
theorem c5_1 {P : Nat} (up : Bool) : rndD P up (dAdd ⟨3, 0⟩ (dNot ⟨3, 0⟩)) = ⟨0, 0⟩ := by
  rw [dnot_3, show dAdd ⟨3, 0⟩ ⟨-3, 0⟩ = ⟨0, 0⟩ from rfl]
  exact rnd_0 P up
theorem cn5_1 (hL : L[k]?.getD 0 = 1) (hg : getB (runN (ns5 f h) g5 (useF (ns5 f h) L) (L.take k)).1 0 = (⟨3, 0⟩, ⟨3, 0⟩)) : CombN (ns5 f h) L g5 p k ⟨0, 0⟩ ⟨0, 0⟩ true :=
  combN_sub 1 0 0 0 hL rfl hg hg (c5_1 false) (c5_1 true) bnd_3 bnd_3 bnd_3 bnd_3 (dnot_3 ▸ bnd_m3) (dnot_3 ▸ bnd_m3) (by omega)
/-- What eval tells at each number of this dag. -/
theorem ev5 (hf : LeafIs f 3) (hh : LeafIs h (-3)) (hp : 1 ≤ p ∧ p ≤ 65536) (d : Nat) (v : Value) (r : Option Nat) (id : Nat) (hid : id < 5) (w : World) (hd : DagIs w d v r (ns5 f h)) (hT : Hid (Tab6 w)) :
    Calls Tryz.prog 74 #[.pointer (some ⟨d, 0, none⟩), .int .i64 (id : Int), .int .i64 p, .bool false] w fun e w' => (id = 0 ∧ EvYes (id : Int) ⟨3, 0⟩ ⟨3, 0⟩ w e w') ∨ (id = 1 ∧ EvYes (id : Int) ⟨0, 0⟩ ⟨0, 0⟩ w e w') ∨ (id = 3 ∧ EvYes (id : Int) ⟨-3, 0⟩ ⟨-3, 0⟩ w e w') ∨ ((id = 2 ∨ id = 4) ∧ EvNo w e w') := by
  have hc : id = 0 ∨ id = 1 ∨ id = 2 ∨ id = 3 ∨ id = 4 := by omega
  have hl : (ns5 f h).length ≤ 20000 := by simp [ns5]
  rcases hc with rfl | rfl | rfl | rfl | rfl
  · refine (nev_yes d v r (ns5 f h) 0 p w [0] g5 ⟨3, 0⟩ ⟨3, 0⟩ hd (okd5 f h) hl (by simp [ns5]) hp (bel5_0 f h) (small5 f h) (kinds5 f h) (fun k hk => ?_) rfl hT).mono fun e w' he => .inl ⟨rfl, he⟩
    obtain rfl : k = 0 := by simpa using hk
    exact ⟨c5_0 hf rfl, nfits5 _⟩
  · refine (nev_yes d v r (ns5 f h) 1 p w [0, 1] g5 ⟨0, 0⟩ ⟨0, 0⟩ hd (okd5 f h) hl (by simp [ns5]) hp (bel5_1 f h) (small5 f h) (kinds5 f h) (fun k hk => ?_) rfl hT).mono fun e w' he => .inr (.inl ⟨rfl, he⟩)
    have : k = 0 ∨ k = 1 := by simp at hk; omega
    rcases this with rfl | rfl
    · exact ⟨c5_0 hf rfl, nfits5 _⟩
    · exact ⟨cn5_1 rfl rfl, nfits5 _⟩
  · refine (nev_no d v r (ns5 f h) 2 p w [0, 1, 2] g5 2 hd (okd5 f h) hl (by simp [ns5]) hp (bel5_2 f h) (by decide) (small5 f h) (kinds5 f h) (fun k hk => ?_) ?_ hT).mono fun e w' he => .inr (.inr (.inr ⟨.inl rfl, he⟩))
    · have : k = 0 ∨ k = 1 := by omega
      rcases this with rfl | rfl
      · exact ⟨c5_0 hf rfl, nfits5 _⟩
      · exact ⟨cn5_1 rfl rfl, nfits5 _⟩
    · exact combN_divno 2 0 0 1 (u := ⟨0, 0⟩) (v := ⟨0, 0⟩) rfl rfl rfl (fun _ => rfl)
  · refine (nev_yes d v r (ns5 f h) 3 p w [3] g5 ⟨-3, 0⟩ ⟨-3, 0⟩ hd (okd5 f h) hl (by simp [ns5]) hp (bel5_3 f h) (small5 f h) (kinds5 f h) (fun k hk => ?_) rfl hT).mono fun e w' he => .inr (.inr (.inl ⟨rfl, he⟩))
    obtain rfl : k = 0 := by simpa using hk
    exact ⟨c5_3 hh rfl, nfits5 _⟩
  · refine (nev_no d v r (ns5 f h) 4 p w [3, 4] g5 1 hd (okd5 f h) hl (by simp [ns5]) hp (bel5_4 f h) (by decide) (small5 f h) (kinds5 f h) (fun k hk => ?_) ?_ hT).mono fun e w' he => .inr (.inr (.inr ⟨.inr rfl, he⟩))
    · obtain rfl : k = 0 := by omega
      exact ⟨c5_3 hh rfl, nfits5 _⟩
    · exact combN_rootno 4 0 3 0 (x := ⟨-3, 0⟩) (y := ⟨-3, 0⟩) rfl rfl rfl (by decide)
end
end Go.Proofs.YtigpnopeacicpaaGreatDoor
