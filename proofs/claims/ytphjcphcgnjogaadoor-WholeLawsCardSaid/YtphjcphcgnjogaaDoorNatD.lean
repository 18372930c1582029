/-
  nat: Sub, gap, Add of several.
-/
import Derived.Test.YtphjcphcgnjogaaDoorNatC
namespace Go.Proofs.YtphjcphcgnjogaaDoor
open Go.RowKit

/-- A difference, and whether there is one. -/
def SubPost (a b : Nat) (w : World) (e : Ending) (w' : World) : Prop :=
  ∃ u, e = .returned (.tuple #[u, .bool (decide (b ≤ a))]) ∧ Res w w' u (a - b) ∧ Only [] w w'
theorem res_nil (w w' : World) : Res w w' (.slice none 0 0) 0 := ⟨by rw [limbsOf_zero]; exact limbsAt_nil w', by simp [Value.ownBlock]⟩
theorem cmp_self (n : Nat) (m : Nat) : cmpZ (val (limbsOf n)) (val (limbsOf m)) = cmpZ n m := by rw [val_limbsOf, val_limbsOf]

set_option maxHeartbeats 800000 in
theorem sub_any (A B : Option Addr) (c d : Nat) (xs ys : List Nat) (w : World) (hA : Hid (Arg w A xs)) (hB : Hid (Arg w B ys)) (hc : xs.length ≤ c) (hd : ys.length ≤ d) :
    Calls Tryd.prog 59 #[.slice A xs.length c, .slice B ys.length d] w (SubPost (val xs) (val ys) w) := by
  have HA := Lib.hid hA.out.trim
  have HB := Lib.hid hB.out.trim
  have HLx : Hid ((limbsOf (val xs)).length ≤ c) := Nat.le_trans (limbsOf_len hA.out.limb) hc
  have HLy : Hid ((limbsOf (val ys)).length ≤ d) := Nat.le_trans (limbsOf_len hB.out.limb) hd
  by_cases hlt : val xs < val ys
  · have HCmp : Hid (cmpZ (val xs) (val ys) = -1) := cmp_le hlt
    have HE : Hid (decide (val ys ≤ val xs) = false ∧ val xs - val ys = 0) := ⟨by simp; omega, by omega⟩
    clear hlt
    go_enter Tryd.func59, Tryd.ntmps59
    go_wp2_with fail
    (with_reducible refine (trim_any A c xs _ hA hc).mono ?_)
    rintro e w' ⟨rfl, rfl⟩
    go_wp2_with fail
    (with_reducible refine (trim_any B d ys _ hB hd).mono ?_)
    rintro e w' ⟨rfl, rfl⟩
    go_wp2_with fail
    (with_reducible refine (ncmp_any A B c d (limbsOf (val xs)) (limbsOf (val ys)) _ HA HB HLx.out HLy.out).mono ?_)
    rintro e w1 ⟨rfl, ho1⟩
    rw [cmp_self, HCmp.out]
    have HO1 := Lib.hid ho1
    clear ho1
    go_wp2_with fail
    go_ret2
    exact ⟨_, by rw [HE.out.1]; rfl, by rw [HE.out.2]; exact res_nil _ _, HO1.out⟩
  · have hcmp : cmpZ (val xs) (val ys) = 0 ∨ cmpZ (val xs) (val ys) = 1 := by
      by_cases e : val xs = val ys
      · exact .inl (cmp_eq e)
      · exact .inr (cmp_gt (by omega))
    have HE : Hid (decide (val ys ≤ val xs) = true) := by show _ = _; simp; omega
    have HSub := fun wx (h1 : Hid (Arg wx A (limbsOf (val xs)))) (h2 : Hid (Arg wx B (limbsOf (val ys)))) => nsub_any A B c d (limbsOf (val xs)) (limbsOf (val ys)) wx h1 h2 (by have := limbsOf_len_mono (m := val ys) (n := val xs) (by omega); omega) HA.out.len (by show _ ≤ _; rw [val_limbsOf, val_limbsOf]; omega)
    rw [val_limbsOf, val_limbsOf] at HSub
    have HS := Lib.hid HSub
    clear hlt HSub
    rcases hcmp with hcmp | hcmp
    all_goals
      have HCmp := Lib.hid hcmp
      clear hcmp
      go_enter Tryd.func59, Tryd.ntmps59
      go_wp2_with fail
      (with_reducible refine (trim_any A c xs _ hA hc).mono ?_)
      rintro e w' ⟨rfl, rfl⟩
      go_wp2_with fail
      (with_reducible refine (trim_any B d ys _ hB hd).mono ?_)
      rintro e w' ⟨rfl, rfl⟩
      go_wp2_with fail
      (with_reducible refine (ncmp_any A B c d (limbsOf (val xs)) (limbsOf (val ys)) _ HA HB HLx.out HLy.out).mono ?_)
      rintro e w1 ⟨rfl, ho1⟩
      rw [cmp_self, HCmp.out]
      have HO1 := Lib.hid ho1
      clear ho1
      go_wp2_with fail
      refine (HS.out w1 (HA.out.only HO1.out) (HB.out.only HO1.out)).mono ?_
      rintro e w2 ⟨u, rfl, hr, ho2⟩
      have HR := Lib.hid hr
      have HO2 := Lib.hid ho2
      clear hr ho2
      go_wp2_with fail
      go_ret2
      exact ⟨u, by rw [HE.out]; rfl, HR.out.pre HO1.out.size, HO1.out.nil_trans HO2.out⟩

/-- The amount of a difference, and whether it is below 0. -/
def GapPost (a b : Nat) (w : World) (e : Ending) (w' : World) : Prop :=
  ∃ u, e = .returned (.tuple #[u, .bool (decide (a < b))]) ∧ Res w w' u (if a < b then b - a else a - b) ∧ Only [] w w'
set_option maxHeartbeats 800000 in
theorem gap_any (A B : Option Addr) (c d : Nat) (xs ys : List Nat) (w : World) (hA : Hid (Arg w A xs)) (hB : Hid (Arg w B ys)) (hc : xs.length ≤ c) (hd : ys.length ≤ d) :
    Calls Tryd.prog 79 #[.slice A xs.length c, .slice B ys.length d] w (GapPost (val xs) (val ys) w) := by
  have HA := Lib.hid hA.out.trim
  have HB := Lib.hid hB.out.trim
  have HLx : Hid ((limbsOf (val xs)).length ≤ c) := Nat.le_trans (limbsOf_len hA.out.limb) hc
  have HLy : Hid ((limbsOf (val ys)).length ≤ d) := Nat.le_trans (limbsOf_len hB.out.limb) hd
  by_cases hlt : val xs < val ys
  · have HCmp : Hid (cmpZ (val xs) (val ys) = -1) := cmp_le hlt
    have HE : Hid (decide (val xs < val ys) = true ∧ (if val xs < val ys then val ys - val xs else val xs - val ys) = val ys - val xs) := ⟨by simp; omega, by rw [if_pos hlt]⟩
    have HSub := fun wx (h1 : Hid (Arg wx B (limbsOf (val ys)))) (h2 : Hid (Arg wx A (limbsOf (val xs)))) => nsub_any B A d c (limbsOf (val ys)) (limbsOf (val xs)) wx h1 h2 (by have := limbsOf_len_mono (m := val xs) (n := val ys) (by omega); omega) HB.out.len (by show _ ≤ _; rw [val_limbsOf, val_limbsOf]; omega)
    rw [val_limbsOf, val_limbsOf] at HSub
    have HS := Lib.hid HSub
    clear hlt HSub
    go_enter Tryd.func79, Tryd.ntmps79
    go_wp2_with fail
    (with_reducible refine (trim_any A c xs _ hA hc).mono ?_)
    rintro e w' ⟨rfl, rfl⟩
    go_wp2_with fail
    (with_reducible refine (trim_any B d ys _ hB hd).mono ?_)
    rintro e w' ⟨rfl, rfl⟩
    go_wp2_with fail
    (with_reducible refine (ncmp_any A B c d (limbsOf (val xs)) (limbsOf (val ys)) _ HA HB HLx.out HLy.out).mono ?_)
    rintro e w1 ⟨rfl, ho1⟩
    rw [cmp_self, HCmp.out]
    have HO1 := Lib.hid ho1
    clear ho1
    go_wp2_with fail
    refine (HS.out w1 (HB.out.only HO1.out) (HA.out.only HO1.out)).mono ?_
    rintro e w2 ⟨u, rfl, hr, ho2⟩
    have HR := Lib.hid hr
    have HO2 := Lib.hid ho2
    clear hr ho2
    go_wp2_with fail
    go_ret2
    exact ⟨u, by rw [HE.out.1]; rfl, by rw [HE.out.2]; exact HR.out.pre HO1.out.size, HO1.out.nil_trans HO2.out⟩
  · have hcmp : cmpZ (val xs) (val ys) = 0 ∨ cmpZ (val xs) (val ys) = 1 := by
      by_cases e : val xs = val ys
      · exact .inl (cmp_eq e)
      · exact .inr (cmp_gt (by omega))
    have HE : Hid (decide (val xs < val ys) = false ∧ (if val xs < val ys then val ys - val xs else val xs - val ys) = val xs - val ys) := ⟨by simp; omega, by rw [if_neg hlt]⟩
    have HSub := fun wx (h1 : Hid (Arg wx A (limbsOf (val xs)))) (h2 : Hid (Arg wx B (limbsOf (val ys)))) => nsub_any A B c d (limbsOf (val xs)) (limbsOf (val ys)) wx h1 h2 (by have := limbsOf_len_mono (m := val ys) (n := val xs) (by omega); omega) HA.out.len (by show _ ≤ _; rw [val_limbsOf, val_limbsOf]; omega)
    rw [val_limbsOf, val_limbsOf] at HSub
    have HS := Lib.hid HSub
    clear hlt HSub
    rcases hcmp with hcmp | hcmp
    all_goals
      have HCmp := Lib.hid hcmp
      clear hcmp
      go_enter Tryd.func79, Tryd.ntmps79
      go_wp2_with fail
      (with_reducible refine (trim_any A c xs _ hA hc).mono ?_)
      rintro e w' ⟨rfl, rfl⟩
      go_wp2_with fail
      (with_reducible refine (trim_any B d ys _ hB hd).mono ?_)
      rintro e w' ⟨rfl, rfl⟩
      go_wp2_with fail
      (with_reducible refine (ncmp_any A B c d (limbsOf (val xs)) (limbsOf (val ys)) _ HA HB HLx.out HLy.out).mono ?_)
      rintro e w1 ⟨rfl, ho1⟩
      rw [cmp_self, HCmp.out]
      have HO1 := Lib.hid ho1
      clear ho1
      go_wp2_with fail
      refine (HS.out w1 (HA.out.only HO1.out) (HB.out.only HO1.out)).mono ?_
      rintro e w2 ⟨u, rfl, hr, ho2⟩
      have HR := Lib.hid hr
      have HO2 := Lib.hid ho2
      clear hr ho2
      go_wp2_with fail
      go_ret2
      exact ⟨u, by rw [HE.out.1]; rfl, by rw [HE.out.2]; exact HR.out.pre HO1.out.size, HO1.out.nil_trans HO2.out⟩

/-- Numbers in a row: their slices, capacities, limbs. -/
structure Item where
  a : Option Addr
  c : Nat
  xs : List Nat
def sumL (L : List Item) : Nat := (L.map fun i => val i.xs).sum
theorem sumL_append (L M : List Item) : sumL (L ++ M) = sumL L + sumL M := by
  unfold sumL
  rw [List.map_append, List.sum_append]
theorem sumL_take (L : List Item) (k : Nat) (hk : k < L.length) : sumL (L.take (k + 1)) = sumL (L.take k) + val L[k].xs := by
  rw [List.take_succ_eq_append_getElem hk, sumL_append]
  simp [sumL]
theorem sumL_le (L : List Item) (k : Nat) : sumL (L.take k) ≤ sumL L := by
  have h := sumL_append (L.take k) (L.drop k)
  rw [List.take_append_drop] at h
  omega
/-- A slice of numbers reads as L. -/
def NsRead (w : World) (A : Option Addr) (L : List Item) : Prop :=
  ∀ (k : Nat) (hk : k < L.length), ∃ b o, A = some ⟨b, o, none⟩ ∧ w.cell? ⟨b, o + k, none⟩ = some (.slice L[k].a L[k].xs.length L[k].c) ∧ Arg w L[k].a L[k].xs ∧ L[k].xs.length ≤ L[k].c ∧ (L[k].xs.length : Int) ≤ 3999999
theorem NsRead.only {w w' : World} {A : Option Addr} {L : List Item} (h : NsRead w A L) (ho : Only [] w w') : NsRead w' A L := fun k hk => by
  obtain ⟨b, o, h1, h2, h3, h4⟩ := h k hk
  exact ⟨b, o, h1, ho.cell h2 (by simp), h3.only ho, h4⟩
set_option maxHeartbeats 800000 in
theorem add_any (A : Option Addr) (c : Nat) (L : List Item) (w : World) (hA : Hid (NsRead w A L)) (hl : (L.length : Int) ≤ 1000) (hs : Hid (sumL L < BB ^ 3999999)) :
    Calls Tryd.prog 42 #[.slice A L.length c] w (NPost (sumL L) w) := by
  go_enter Tryd.func42, Tryd.ntmps42
  go_wp2_with fail
  go_loopw [3, 8] (fun u kv wr => ∃ k : Nat, k ≤ L.length ∧ kv = .int .i64 (k : Int) ∧ Res w wr u (sumL (L.take k)) ∧ Only [] w wr) (fun _ kv _ => L.length - (intOf kv).toNat)
  case atStart => exact ⟨0, Nat.zero_le _, rfl, res_nil _ _, Only.refl _ _⟩
  case round =>
    obtain ⟨k, hk, rfl, hr, ho⟩ := hrel
    have hbd : sumL (L.take k) < BB ^ 3999999 := Nat.lt_of_le_of_lt (sumL_le L k) hs.out
    have hlb : ((limbsOf (sumL (L.take k))).length : Int) ≤ 3999999 := by have := limbsOf_len_le hbd; omega
    obtain ⟨Au, cu, rfl, harg, hab⟩ := hr.shape (by omega)
    have HArg := Lib.hid harg
    have HRs := Lib.hid hr
    have HO := Lib.hid ho
    have hcu : (limbsOf (sumL (L.take k))).length ≤ cu := by
      obtain ⟨A', c', e, _, h1, _⟩ := hr.at_.shape
      injection e with _ _ e
      omega
    clear hr ho harg hab hbd
    by_cases hlt : k < L.length
    · obtain ⟨b, o, rfl, hc0, hit, hic, hil⟩ := (hA.out.only HO.out) k hlt
      have HIt := Lib.hid hit
      have HSum := Lib.hid (sumL_take L k hlt)
      generalize L[k] = it at hc0 HIt hic hil HSum
      obtain ⟨ia, ic, ixs⟩ := it
      simp only at hc0 HIt hic hil HSum
      have hk' : (k : Int) < (L.length : Int) := by omega
      have HItT := Lib.hid HIt.out.trim
      have hil2 : ((limbsOf (val ixs)).length : Int) ≤ 3999999 := by have := limbsOf_len HIt.out.limb; omega
      clear hlt hit
      go_wp2_with fail
      (with_reducible refine (trim_any ia ic ixs _ HIt hic).mono ?_)
      rintro e w' ⟨rfl, rfl⟩
      go_wp2_with fail
      (with_reducible refine (nadd_any Au ia cu ic (limbsOf (sumL (L.take k))) (limbsOf (val ixs)) _ HArg HItT hlb hil2).mono ?_)
      rintro e w2 ⟨u, rfl, hr2, ho2⟩
      rw [val_limbsOf, val_limbsOf, ← HSum.out] at hr2
      have HR2 := Lib.hid (hr2.pre HO.out.size)
      have HO2 : Hid (Only [] w w2) := HO.out.nil_trans ho2
      clear hr2 ho2
      go_wp2_with fail
      go_roundw
      case rel => exact ⟨k + 1, by omega, by go_num, HR2.out, HO2.out⟩
      case measure => simp [intOf]; omega
    · have hnl : ¬ (k : Int) < (L.length : Int) := by omega
      have e : k = L.length := by omega
      have HE : Hid (sumL (L.take k) = sumL L) := by show _ = _; rw [e, List.take_length]
      rw [HE.out] at HArg HRs hcu
      rw [HE.out]
      clear e hlt
      go_wp2_with fail
      (with_reducible refine (trim_any Au cu (limbsOf (sumL L)) _ HArg hcu).mono ?_)
      rintro e w' ⟨rfl, rfl⟩
      rw [val_limbsOf]
      go_wp2_with fail
      go_ret
      exact ⟨_, rfl, HRs.out, HO.out⟩
end Go.Proofs.YtphjcphcgnjogaaDoor
