/-
  Joined texts.
-/
import Derived.Test.YtkibkmdgibemkaaGreatDoorTbLawDn
import Derived.Test.YtkibkmdgibemkaaGreatDoorTbLawDo
import Derived.Test.YtkibkmdgibemkaaGreatDoorTbLawDp
import Derived.Test.YtkibkmdgibemkaaGreatDoorTbOwn
import Derived.Test.YtkibkmdgibemkaaGreatDoorTbDoorN
import Derived.Test.YtkibkmdgibemkaaGreatDoorTbLimbsIn
import Derived.Test.YtkibkmdgibemkaaGreatDoorTie
import Derived.Test.YtkibkmdgibemkaaGreatDoorCards
import Derived.ChangeVars
import Derived.Test.YtkibkmdgibemkaaGreatDoorTbNumIn
import Derived.ProofKit
import Derived.OpenShut
import Derived.ShutString
import Derived.ChangeOld
import Derived.Below
import Derived.Deep.Slices
import Derived.Deep.Fields
import Derived.ChangeSame
/-
  DyadRounds: the walk, closed.
-/
namespace Go.Proofs.YtkibkmdgibemkaaGreatDoor
set_option linter.unusedSimpArgs false
open Go.RowKit

theorem sqrtQ_congr {P : Nat} {up : Bool} {x x' : Dy} (hP : 1 ≤ P) (h : x.q = x'.q) : sqrtQ P up x = sqrtQ P up x' := by
  have hpos : ∀ {u : Dy}, ¬ u.z ≤ 0 ↔ 0 < u.q := fun {u} => by rw [q_pos (x := u)]; omega
  unfold sqrtQ
  by_cases h1 : x.z ≤ 0
  · rw [if_pos h1, if_pos]
    refine Decidable.byContradiction fun hc => ?_
    have := hpos.1 hc
    rw [← h] at this
    exact (hpos.2 this) h1
  · have h2 : ¬ x'.z ≤ 0 := hpos.2 (by rw [← h]; exact hpos.1 h1)
    rw [if_neg h1, if_neg h2]
    have a := sqrt_rd (P := P) (up := up) (x := x) hP (by omega)
    have b := sqrt_rd (P := P) (up := up) (x := x') hP (by omega)
    rw [h] at a
    exact a.unique b
theorem sqrtQ_can (P : Nat) (up : Bool) (x : Dy) (hP : 1 ≤ P) : Can (sqrtQ P up x) := by
  unfold sqrtQ
  by_cases h1 : x.z ≤ 0
  · rw [if_pos h1]; exact .inl ⟨rfl, rfl⟩
  · rw [if_neg h1]; exact (sqrt_rd hP (by omega)).can
theorem rndD_congr {P : Nat} {up : Bool} {x x' : Dy} (hP : 1 ≤ P) (h : x.q = x'.q) : rndD P up x = rndD P up x' := by
  have a := rnd_rd P up x hP
  have b := rnd_rd P up x' hP
  rw [h] at a
  exact a.unique b
theorem dyadRounds_any (n1 : Bool) (A1 : Option Addr) (c1 : Nat) (L1 : List Nat) (e1 : Int) (n2 : Bool) (A2 : Option Addr) (c2 : Nat) (L2 : List Nat) (e2 : Int) (p dir : Int) (w : World)
    (h1 : LimbsIn w A1 L1) (_ : L1.length ≤ c1) (_ : c1 ≤ maxLen) (_ : -9223372036854775808 ≤ e1 ∧ e1 ≤ 9223372036854775807) (h2 : LimbsIn w A2 L2) (_ : L2.length ≤ c2) (_ : c2 ≤ maxLen) (_ : -9223372036854775808 ≤ e2 ∧ e2 ≤ 9223372036854775807) (_ : (Lit.int .i64 p).wf = true) (_ : (Lit.int .i64 dir).wf = true) (htab : Tab w) (hT : Tab6 w) :
    Calls Tryz.prog 5 #[.agg #[.bool n1, .slice A1 L1.length c1, .int .i64 e1], .agg #[.bool n2, .slice A2 L2.length c2, .int .i64 e2], .int .i64 p, .int .i64 dir] w fun e w' => e = .returned (.bool true) ∧ Only [] w w' := by
  cases hl : lightN [⟨n1, A1, L1.length, c1, e1⟩, ⟨n2, A2, L2.length, c2, e2⟩] with
  | false => exact drnd_out1 n1 n2 A1 A2 L1 L2 c1 c2 e1 e2 p dir w (Lib.hid htab) (Lib.hid hT) hl
  | true =>
    by_cases hp : 400 < p
    · exact drnd_out2 n1 n2 A1 A2 L1 L2 c1 c2 e1 e2 p dir w (Lib.hid htab) (Lib.hid hT) hl hp
    simp only [lightN, List.all_cons, List.all_nil, NR.ok, Bool.and_true, Bool.and_eq_true, decide_eq_true_eq] at hl
    obtain ⟨x, hx⟩ : ∃ x : Dy, x = ⟨sg n1 (val L1), e1⟩ := ⟨_, rfl⟩
    obtain ⟨y, hy⟩ : ∃ y : Dy, y = ⟨sg n2 (val L2), e2⟩ := ⟨_, rfl⟩
    have hxe : x.e = e1 := by rw [hx]
    have hye : y.e = e2 := by rw [hy]
    have hxz : sg n1 (val L1) = x.z := by rw [hx]
    have hyz : sg n2 (val L2) = y.z := by rw [hy]
    obtain ⟨K, hK⟩ : ∃ K : Nat, K = 3000 := ⟨_, rfl⟩
    have BX : Bnd K x := num_bnd (by omega) (by omega) h1.2 hxz (by omega) (by omega)
    have BY : Bnd K y := num_bnd (by omega) (by omega) h2.2 hyz (by omega) (by omega)
    obtain ⟨rx, hrx⟩ : ∃ d, nrm x.z x.e = d := ⟨_, rfl⟩
    obtain ⟨ry, hry⟩ : ∃ d, nrm y.z y.e = d := ⟨_, rfl⟩
    have BRX : Bnd (2 * K) rx := by rw [← hrx]; exact BX.norm (Nat.le_refl _)
    have BRY : Bnd (2 * K) ry := by rw [← hry]; exact BY.norm (Nat.le_refl _)
    have qx : rx.q = x.q := by rw [← hrx]; exact nrm_q _ _
    have qy : ry.q = y.q := by rw [← hry]; exact nrm_q _ _
    have sgx : rx.z.sign = x.z.sign := by rw [← hrx, nrm_sign]
    have sgy : ry.z.sign = y.z.sign := by rw [← hry, nrm_sign]
    obtain ⟨M, hM⟩ : ∃ M : Nat, M = 100 * K := ⟨_, rfl⟩
    obtain ⟨P, hP⟩ : ∃ P, widthP p = P := ⟨_, rfl⟩
    have hw := widthP_range p
    have hw4 : P ≤ 400 := by rw [← hP]; unfold widthP; omega
    rw [hP] at hw
    obtain ⟨up, hup⟩ : ∃ b, decide (0 ≤ dir) = b := ⟨_, rfl⟩
    have bn : Bnd M (rndD P up x) := rnd_bnd BX (by omega)
    have bq : Bnd M (quoQ P up x y) := quoQ_bnd BX BY (by omega)
    have br : Bnd M (sqrtQ P up x) := sqrtQ_bnd BX (by omega)
    have hz0 : (0 : Int).sign = 0 := rfl
    rw [← hxe, ← hye]
    by_cases hy0 : y.z = 0
    · have hsy : ry.z.sign = 0 := by rw [sgy, hy0]; rfl
      have hvq : quoQ P up x y = ⟨0, 0⟩ := by unfold quoQ; rw [if_pos hy0]
      by_cases hx0 : 0 ≤ x.z
      · have hx1 : 0 ≤ rx.z := by have := Int.sign_nonneg_iff (x := rx.z); have := Int.sign_nonneg_iff (x := x.z); omega
        exact drnd_in_ft (N := K) (M := M) n1 n2 A1 A2 L1 L2 c1 c2 x y rx ry _ _ _ _ _ p dir w (by omega) (by omega) hp (Lib.hid hxz) (Lib.hid h1) (by omega) (by omega) (Lib.hid BX) (Lib.hid hyz) (Lib.hid h2) (by omega) (by omega) (Lib.hid BY)
          (Lib.hid hrx) (Lib.hid hry) (Lib.hid (BRX.mono (by omega))) (Lib.hid (BRY.mono (by omega))) (Lib.hid rfl) (Lib.hid rfl) (Lib.hid (by rw [hP, hup])) (Lib.hid (by rw [hP, hup]; exact rndD_congr hw.1 qx)) (Lib.hid (by rw [hP, hup])) (Lib.hid (by rw [hP, hup])) (Lib.hid (decide_eq_false (by omega))) (Lib.hid (decide_eq_true hx0)) (Lib.hid (rnd_rd P up x hw.1).can) (Lib.hid bn)
          (Lib.hid hvq) hsy (Lib.hid (by rw [hP, hup]; exact sqrtQ_congr hw.1 qx)) (Lib.hid hx1) (Int.sign_nonneg_iff.2 hx1) (Lib.hid (sqrtQ_can P up x hw.1)) (Lib.hid br) (Lib.hid htab) (Lib.hid hT)
      · have hx1 : rx.z < 0 := by have := Int.sign_nonneg_iff (x := rx.z); have := Int.sign_nonneg_iff (x := x.z); omega
        exact drnd_in_ff (N := K) (M := M) n1 n2 A1 A2 L1 L2 c1 c2 x y rx ry _ _ _ _ _ p dir w (by omega) (by omega) hp (Lib.hid hxz) (Lib.hid h1) (by omega) (by omega) (Lib.hid BX) (Lib.hid hyz) (Lib.hid h2) (by omega) (by omega) (Lib.hid BY)
          (Lib.hid hrx) (Lib.hid hry) (Lib.hid (BRX.mono (by omega))) (Lib.hid (BRY.mono (by omega))) (Lib.hid rfl) (Lib.hid rfl) (Lib.hid (by rw [hP, hup])) (Lib.hid (by rw [hP, hup]; exact rndD_congr hw.1 qx)) (Lib.hid (by rw [hP, hup])) (Lib.hid (by rw [hP, hup])) (Lib.hid (decide_eq_false (by omega))) (Lib.hid (decide_eq_false hx0)) (Lib.hid (rnd_rd P up x hw.1).can) (Lib.hid bn)
          (Lib.hid hvq) hsy (Lib.hid (by unfold sqrtQ; rw [if_pos (by omega)])) (by rw [Int.sign_eq_neg_one_of_neg hx1]; omega) (Lib.hid htab) (Lib.hid hT)
    · have hry0 : ry.z ≠ 0 := fun hc => hy0 (q_zero.1 (by rw [← qy]; exact q_zero.2 hc))
      have hsy : (ry.z.sign == 0) = false := by rw [beq_eq_false_iff_ne]; exact fun hc => hry0 (Int.sign_eq_zero_iff_zero.1 hc)
      have cq : Can (quoQ P up x y) := (quoQ_rd hw.1 hy0 (quo_exists hy0)).can
      by_cases hx0 : 0 ≤ x.z
      · have hx1 : 0 ≤ rx.z := by have := Int.sign_nonneg_iff (x := rx.z); have := Int.sign_nonneg_iff (x := x.z); omega
        exact drnd_in_tt (N := K) (M := M) n1 n2 A1 A2 L1 L2 c1 c2 x y rx ry _ _ _ _ _ p dir w (by omega) (by omega) hp (Lib.hid hxz) (Lib.hid h1) (by omega) (by omega) (Lib.hid BX) (Lib.hid hyz) (Lib.hid h2) (by omega) (by omega) (Lib.hid BY)
          (Lib.hid hrx) (Lib.hid hry) (Lib.hid (BRX.mono (by omega))) (Lib.hid (BRY.mono (by omega))) (Lib.hid rfl) (Lib.hid rfl) (Lib.hid (by rw [hP, hup])) (Lib.hid (by rw [hP, hup]; exact rndD_congr hw.1 qx)) (Lib.hid (by rw [hP, hup])) (Lib.hid (by rw [hP, hup])) (Lib.hid (decide_eq_true hy0)) (Lib.hid (decide_eq_true hx0)) (Lib.hid (rnd_rd P up x hw.1).can) (Lib.hid bn)
          (Lib.hid (by rw [hP, hup]; exact quoQ_congr hw.1 hry0 qx qy)) (Lib.hid hry0) hsy (by rw [bne, hsy]; rfl) (Lib.hid cq) (Lib.hid bq) (Lib.hid (by rw [hP, hup]; exact sqrtQ_congr hw.1 qx)) (Lib.hid hx1) (Int.sign_nonneg_iff.2 hx1) (Lib.hid (sqrtQ_can P up x hw.1)) (Lib.hid br) (Lib.hid htab) (Lib.hid hT)
      · have hx1 : rx.z < 0 := by have := Int.sign_nonneg_iff (x := rx.z); have := Int.sign_nonneg_iff (x := x.z); omega
        exact drnd_in_tf (N := K) (M := M) n1 n2 A1 A2 L1 L2 c1 c2 x y rx ry _ _ _ _ _ p dir w (by omega) (by omega) hp (Lib.hid hxz) (Lib.hid h1) (by omega) (by omega) (Lib.hid BX) (Lib.hid hyz) (Lib.hid h2) (by omega) (by omega) (Lib.hid BY)
          (Lib.hid hrx) (Lib.hid hry) (Lib.hid (BRX.mono (by omega))) (Lib.hid (BRY.mono (by omega))) (Lib.hid rfl) (Lib.hid rfl) (Lib.hid (by rw [hP, hup])) (Lib.hid (by rw [hP, hup]; exact rndD_congr hw.1 qx)) (Lib.hid (by rw [hP, hup])) (Lib.hid (by rw [hP, hup])) (Lib.hid (decide_eq_true hy0)) (Lib.hid (decide_eq_false hx0)) (Lib.hid (rnd_rd P up x hw.1).can) (Lib.hid bn)
          (Lib.hid (by rw [hP, hup]; exact quoQ_congr hw.1 hry0 qx qy)) (Lib.hid hry0) hsy (by rw [bne, hsy]; rfl) (Lib.hid cq) (Lib.hid bq) (Lib.hid (by unfold sqrtQ; rw [if_pos (by omega)])) (by rw [Int.sign_eq_neg_one_of_neg hx1]; omega) (Lib.hid htab) (Lib.hid hT)

end Go.Proofs.YtkibkmdgibemkaaGreatDoor

/-
  DyadRounds returns true for every two numbers, every width and every direction; no condition.
-/
namespace Go.Proofs.YtkibkmdgibemkaaGreatDoor
open Go.ChangeShapes Go.WideShapes Go.ChangeAt Go.RowKit

set_option maxRecDepth 100000 in
theorem dyadRounds_lifted (os : Os) (started : os.Started) (H : Type) (enc : TypeId × Value → H) :
    ReturnsInHanded {} Tryz.checked os 5 .any (fun w args => (Rows.dyadRoundsSpec.pre enc Tryz.prog Tryz.f5 [] false w args ∧ laidMetH Tryz.prog Rows.dyadRoundsRow.laid w) ∧ sizedMet enc Tryz.prog Tryz.f5 (OpenSpec.ofChange Rows.dyadRoundsSpec) false w args)
      (Rows.dyadRoundsSpec.post enc Tryz.prog Tryz.f5 false true false false) := by
  refine returnsInHanded_of_change_and (C := Tryz.checked) (X := fun w _ => laidMetH Tryz.prog Rows.dyadRoundsRow.laid w) (fun _ _ _ hh h => h.of_heap hh) own started (by kernel_rfl) Tryz.func5
    (ChangeSpec.witness_at (enc := enc) (C := Tryz.checked) (os := os) (X := fun w _ => laidMetH Tryz.prog Rows.dyadRoundsRow.laid w) false (laidWorld os) #[.agg #[.bool false, .slice none 0 0, .int .i64 0], .agg #[.bool false, .slice none 0 0, .int .i64 0], .int .i64 0, .int .i64 0] 8 rfl (by kernel_rfl) (by kernel_rfl) (by kernel_rfl) (by kernel_rfl) (by kernel_rfl) (laidWorld_met os _)) ?_
  intro W base args ds gs before hval0 hW _ _ hL _
  have hval : ∀ (j : Nat) t v, Tryz.f5.params[j]? = some t → args[j]? = some v → Value.okWide Tryz.prog W .any base t v := hval0
  have hW' := hW
  obtain ⟨p, q, hA0, hV, rfl, hfz, hnd⟩ := hW
  have hA : DataW.TrodAll enc Tryz.prog W 0 (fun _ => true) true Tryz.f5.params.toList args.toList ds p := hA0
  rw [Tryz.params5] at hA hval
  obtain ⟨htab, htab6⟩ := tabs_of_laid hL
  obtain ⟨v0, vs0, d0, ds0, p0, q0, hargs, rfl, rfl, h0, r0⟩ := trodAll_cons hA
  obtain ⟨v1, vs1, d1, ds1, p1, q1, rfl, rfl, rfl, h1, r1⟩ := trodAll_cons r0
  obtain ⟨v2, vs2, d2, ds2, p2, q2, rfl, rfl, rfl, h2, r2⟩ := trodAll_cons r1
  obtain ⟨v3, vs3, d3, ds3, p3, q3, rfl, rfl, rfl, h3, r3⟩ := trodAll_cons r2
  obtain ⟨rfl, rfl, rfl⟩ := trodAll_nil r3
  obtain rfl : args = #[v0, v1, v2, v3] := by cases args; simp_all
  obtain ⟨rfl, rfl⟩ := trodVars_none hV
  have k0 := h0
  have lt0 : ∀ x ∈ p0, x.block < W.heap.size := by obtain ⟨m, hm⟩ := k0; exact DataW.trod_lt m _ _ _ hm
  obtain ⟨n0, a0, L0, cap0, e0, rfl, w0, hc0, hm0, hw0⟩ := num_in (hval 0 54 v0 rfl rfl) h0
  have k1 := h1
  have lt1 : ∀ x ∈ p1, x.block < W.heap.size := by obtain ⟨m, hm⟩ := k1; exact DataW.trod_lt m _ _ _ hm
  obtain ⟨n1, a1, L1, cap1, e1, rfl, w1, hc1, hm1, hw1⟩ := num_in (hval 1 54 v1 rfl rfl) h1
  obtain ⟨x2, rfl, rfl, rfl, hw2⟩ := open_int Tryz.underlying3 (hval 2 3 v2 rfl rfl) h2
  obtain ⟨x3, rfl, rfl, rfl, hw3⟩ := open_int Tryz.underlying3 (hval 3 3 v3 rfl rfl) h3
  clear hA0 hval0
  have walk : Calls Tryz.prog 5 #[.agg #[.bool n0, .slice a0 L0.length cap0, .int .i64 e0], .agg #[.bool n1, .slice a1 L1.length cap1, .int .i64 e1], .int .i64 x2, .int .i64 x3] W fun e w' => e = .returned (.bool true) ∧ Only [] W w' := dyadRounds_any n0 a0 cap0 L0 e0 n1 a1 cap1 L1 e1 x2 x3 W w0 hc0 hm0 hw0 w1 hc1 hm1 hw1 hw2 hw3 htab htab6
  refine walk.mono fun e W' ⟨he, bel0⟩ => ?_
  have bel := bel0.nil_below
  subst he
  exact ⟨_, rfl, _, _, _, [], _, [], hW', trodAll_mk1 (shut_bool Tryz.underlying4 _), (trodAll_cons_mk (Below.trod laidOut (by kernel_rfl) (of_decide_eq_true (by kernel_rfl)) k0 bel lt0) (trodAll_cons_mk (Below.trod laidOut (by kernel_rfl) (of_decide_eq_true (by kernel_rfl)) k1 bel lt1) (trodAll_cons_mk (shut_int Tryz.underlying3 hw2) (trodAll_cons_mk (shut_int Tryz.underlying3 hw3) (trodAll_mk0))))), rfl, bel.frame _, fun h => by cases h⟩

theorem dyadRounds_row : Rows.DyadRoundsSaid :=
  OpenClaim.holds_of_wide 5 Tryz.f5 rfl rfl rfl rfl rfl rfl rfl ⟨rfl, rfl, rfl, rfl, rfl⟩ rfl rfl rfl rfl rfl (by kernel_rfl) Tryz.func5 (by kernel_rfl)
    (of_decide_eq_true (by kernel_rfl)) (by unfold Func.isWrapper; first | (rw [if_pos (by decide +kernel)]; kernel_rfl) | (rw [if_neg (by decide +kernel)]; exact ⟨rfl, rfl⟩))
    (fun os started H enc _ => dyadRounds_lifted os started H enc)

/-- THE STATEMENT. -/
theorem dyadRounds_holds : Rows.DyadRoundsCardSaid :=
  Claim7.holds_tied_plain_at .later [] [.data, .data, .data] true _ false
    dyadRounds_row (fun _ h => by cases h) (by kernel_rfl) (fun _ h => by cases h) dyadRounds_row_tie rfl ⟨rfl, rfl⟩ (by kernel_rfl) rfl
    (fun f fn hf hfn => by
      obtain rfl : f = 5 := Option.some.inj ((show Tryz.prog.funcNamed "compass/compasslaw3.DyadRounds" = some 5 by kernel_rfl).symm.trans hf) |>.symm
      obtain rfl : fn = Tryz.f5 := (Option.some.inj (Tryz.func5.symm.trans hfn)).symm
      exact ⟨by kernel_rfl, fun j t ht => by
        rw [Tryz.params5] at ht
        have h3 : t = 54 ∨ t = 54 ∨ t = 3 ∨ t = 3 := by
          rcases j with _ | _ | _ | _ | j
          · left; simpa using ht.symm
          · right; left; simpa using ht.symm
          · right; right; left; simpa using ht.symm
          · right; right; right; simpa using ht.symm
          · simp at ht
        rcases h3 with rfl | rfl | rfl | rfl
        · exact (show Tryz.prog.wantsStandIn 54 = false by kernel_rfl)
        · exact (show Tryz.prog.wantsStandIn 54 = false by kernel_rfl)
        · exact (show Tryz.prog.wantsStandIn 3 = false by kernel_rfl)
        · exact (show Tryz.prog.wantsStandIn 3 = false by kernel_rfl)⟩)
    (by kernel_rfl)
#print axioms dyadRounds_holds
end Go.Proofs.YtkibkmdgibemkaaGreatDoor
