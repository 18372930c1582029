/-
  BallHolds: the walk, closed.
-/
import Derived.Test.YtgiejjpemhceiaaDoorTdLawBi
import Derived.Test.YtgiejjpemhceiaaDoorTdNumsIn
namespace Go.Proofs.YtgiejjpemhceiaaDoor
set_option linter.unusedSimpArgs false
open Go.RowKit

theorem lohi {N : Nat} {x y : Dy} (BX : Bnd N x) (BY : Bnd N y) : ∃ lo hi : Dy, ((0 < cmpQ x.q y.q → y = lo ∧ x = hi) ∧ (¬ 0 < cmpQ x.q y.q → x = lo ∧ y = hi)) ∧ lo.q ≤ hi.q ∧ Bnd N lo ∧ Bnd N hi := by
  by_cases h : 0 < cmpQ x.q y.q
  · exact ⟨y, x, ⟨fun _ => ⟨rfl, rfl⟩, fun hc => absurd h hc⟩, by have := cmpQ_gt0.1 h; grind, BY, BX⟩
  · exact ⟨x, y, ⟨fun hc => absurd hc h, fun _ => ⟨rfl, rfl⟩⟩, by have : ¬ y.q < x.q := fun hc => h (cmpQ_gt0.2 hc); grind, BX, BY⟩
theorem midd_q (x y : Dy) : (nrm (dAdd x y).z ((dAdd x y).e - 1)).q = (x.q + y.q) / 2 := by
  have h : (nrm (dAdd x y).z ((dAdd x y).e - 1)).q = ((dAdd x y).z : Rat) * p2 ((dAdd x y).e - 1) := nrm_q _ _
  have h2 : (dAdd x y).q = ((dAdd x y).z : Rat) * p2 (dAdd x y).e := rfl
  have h3 : p2 (dAdd x y).e = p2 ((dAdd x y).e - 1) * 2 := by
    have := p2_add ((dAdd x y).e - 1) 1
    rw [show (dAdd x y).e - 1 + 1 = (dAdd x y).e by omega] at this
    rw [this]
    rfl
  rw [dAdd_q] at h2
  rw [h, h2, h3]
  grind
structure HoldsOf (P : Nat) (la ha lb hb x y : Dy) : Prop where
  ax : la.q ≤ x.q ∧ x.q ≤ ha.q
  by_ : lb.q ≤ y.q ∧ y.q ≤ hb.q
theorem has_true {a b c : Rat} (h : a ≤ b ∧ b ≤ c) : (decide (a ≤ b) && decide (b ≤ c)) = true := by
  rw [Bool.and_eq_true]; exact ⟨decide_eq_true h.1, decide_eq_true h.2⟩
theorem hold_add {P : Nat} {la ha lb hb x y : Dy} (h1 : 1 ≤ P) (h : HoldsOf P la ha lb hb x y) : (rndD P false (dAdd la lb)).q ≤ (dAdd x y).q ∧ (dAdd x y).q ≤ (rndD P true (dAdd ha hb)).q := by
  have e1 := rnd_down_le (x := dAdd la lb) h1
  have e2 := rnd_up_ge (x := dAdd ha hb) h1
  rw [dAdd_q] at e1 e2
  rw [dAdd_q]
  have := h.ax; have := h.by_
  grind
theorem hold_sub {P : Nat} {la ha lb hb x y : Dy} (h1 : 1 ≤ P) (h : HoldsOf P la ha lb hb x y) : (rndD P false (dSub la hb)).q ≤ (dSub x y).q ∧ (dSub x y).q ≤ (rndD P true (dSub ha lb)).q := by
  have e1 := rnd_down_le (x := dSub la hb) h1
  have e2 := rnd_up_ge (x := dSub ha lb) h1
  rw [dSub_q] at e1 e2
  rw [dSub_q]
  have := h.ax; have := h.by_
  grind
theorem hold_mul {P : Nat} {la ha lb hb x y : Dy} (h1 : 1 ≤ P) (h : HoldsOf P la ha lb hb x y) : (rndD P false (mulLo la ha lb hb)).q ≤ (dMul x y).q ∧ (dMul x y).q ≤ (rndD P true (mulHi la ha lb hb)).q := by
  rw [dMul_q]
  exact ⟨Rat.le_trans (rnd_down_le h1) (box_lo h.ax h.by_ (mulLo_le la ha lb hb)), Rat.le_trans (box_hi h.ax h.by_ (mulHi_ge la ha lb hb)) (rnd_up_ge h1)⟩
theorem sgn_same {u v : Dy} (hs : u.z.sign = v.z.sign) (h0 : u.z ≠ 0) : 0 < u.q ∨ v.q < 0 := by
  rcases Int.lt_trichotomy u.z 0 with h | h | h
  · right
    refine q_neg.2 ?_
    rw [Int.sign_eq_neg_one_of_neg h] at hs
    exact Int.sign_eq_neg_one_iff_neg.1 hs.symm
  · exact absurd h h0
  · exact .inl (q_pos.2 h)
theorem quo_down_le {P : Nat} {x y : Dy} (h1 : 1 ≤ P) (hy : y.z ≠ 0) : (quoQ P false x y).q ≤ x.q / y.q := ((quoQ_rd h1 hy (quo_exists hy)).dn rfl).1
theorem quo_up_ge {P : Nat} {x y : Dy} (h1 : 1 ≤ P) (hy : y.z ≠ 0) : x.q / y.q ≤ (quoQ P true x y).q := ((quoQ_rd h1 hy (quo_exists hy)).upw rfl).1
theorem hold_quo {P R : Nat} {la ha lb hb x y : Dy} (h1 : 1 ≤ P) (h2 : 1 ≤ R) (h : HoldsOf P la ha lb hb x y) (hs : lb.z.sign = hb.z.sign) (h0 : lb.z ≠ 0) :
    y.z ≠ 0 ∧ (qLo P la ha lb hb).q ≤ (quoQ R true x y).q ∧ (quoQ R false x y).q ≤ (qHi P la ha lb hb).q := by
  have hv0 : hb.z ≠ 0 := fun hc => by rw [hc] at hs; exact h0 (Int.sign_eq_zero_iff_zero.1 hs)
  have hss := sgn_same hs h0
  have hy : y.z ≠ 0 := fun hc => by
    have e0 : y.q = 0 := q_zero.2 hc
    have := h.by_
    rcases hss with h | h <;> grind
  have k1 := qLo_le P la ha lb hb
  have k2 := qHi_ge P la ha lb hb
  have d := fun (a b : Dy) (hb : b.z ≠ 0) => quo_down_le (x := a) h1 hb
  have u := fun (a b : Dy) (hb : b.z ≠ 0) => quo_up_ge (x := a) h1 hb
  refine ⟨hy, Rat.le_trans (qbox_lo h.ax h.by_ hss ⟨?_, ?_, ?_, ?_⟩) (quo_up_ge h2 hy), Rat.le_trans (quo_down_le h2 hy) (qbox_hi h.ax h.by_ hss ⟨?_, ?_, ?_, ?_⟩)⟩
  · exact Rat.le_trans k1.1 (d _ _ h0)
  · exact Rat.le_trans k1.2.1 (d _ _ hv0)
  · exact Rat.le_trans k1.2.2.1 (d _ _ h0)
  · exact Rat.le_trans k1.2.2.2 (d _ _ hv0)
  · exact Rat.le_trans (u _ _ h0) k2.1
  · exact Rat.le_trans (u _ _ hv0) k2.2.1
  · exact Rat.le_trans (u _ _ h0) k2.2.2.1
  · exact Rat.le_trans (u _ _ hv0) k2.2.2.2
theorem hold_sqrt {P : Nat} {la ha lb hb x y : Dy} (h1 : 1 ≤ P) (h : HoldsOf P la ha lb hb x y) (hx : 0 ≤ x.z) (hh : 0 ≤ ha.z) :
    0 ≤ (sqrtQ P false (if la.z < 0 then ⟨0, 0⟩ else la)).z.sign ∧ cmpQ (dMul (sqrtQ P false (if la.z < 0 then ⟨0, 0⟩ else la)) (sqrtQ P false (if la.z < 0 then ⟨0, 0⟩ else la))).q x.q ≤ 0 ∧ 0 ≤ cmpQ (dMul (sqrtQ P true ha) (sqrtQ P true ha)).q x.q := by
  obtain ⟨l, hl⟩ : ∃ l : Dy, (if la.z < 0 then ⟨0, 0⟩ else la) = l := ⟨_, rfl⟩
  have hxq : 0 ≤ x.q := by
    refine Decidable.byContradiction fun hc => ?_
    have := q_neg.1 (show x.q < 0 by grind)
    omega
  have hlz : 0 ≤ l.z ∧ l.q ≤ x.q := by
    rw [← hl]
    split
    · exact ⟨by decide, by rw [show Dy.q ⟨0, 0⟩ = 0 from zero_q]; exact hxq⟩
    · exact ⟨by omega, h.ax.1⟩
  rw [hl]
  have e1 := sqrtQ_lo h1 hlz.1
  have e2 := sqrtQ_hi h1 hh
  refine ⟨?_, ?_, ?_⟩
  · rcases Int.lt_or_le (sqrtQ P false l).z 0 with hc | hc
    · have := q_neg.2 hc; grind
    · have := Int.sign_nonneg_iff.2 hc; omega
  · refine cmpQ_le.2 ?_
    rw [dMul_q]
    exact Rat.le_trans e1.2 hlz.2
  · have : ¬ cmpQ (dMul (sqrtQ P true ha) (sqrtQ P true ha)).q x.q < 0 := fun hc => by
      have h3 := cmpQ_lt0.1 hc
      rw [dMul_q] at h3
      have := h.ax
      grind
    omega
set_option maxRecDepth 100000 in
theorem ballHolds_any (n1 : Bool) (A1 : Option Addr) (c1 : Nat) (L1 : List Nat) (e1 : Int) (n2 : Bool) (A2 : Option Addr) (c2 : Nat) (L2 : List Nat) (e2 : Int) (n3 : Bool) (A3 : Option Addr) (c3 : Nat) (L3 : List Nat) (e3 : Int) (n4 : Bool) (A4 : Option Addr) (c4 : Nat) (L4 : List Nat) (e4 : Int) (p k : Int) (w : World)
    (g1 : NumIn4 w A1 L1 c1 e1) (g2 : NumIn4 w A2 L2 c2 e2) (g3 : NumIn4 w A3 L3 c3 e3) (g4 : NumIn4 w A4 L4 c4 e4) (_ : (Lit.int .i64 p).wf = true) (_ : (Lit.int .i64 k).wf = true) (hT : Tab6 w) :
    Calls Tryd.prog 7 #[.agg #[.bool n1, .slice A1 L1.length c1, .int .i64 e1, .bool n2, .slice A2 L2.length c2, .int .i64 e2, .bool n3, .slice A3 L3.length c3, .int .i64 e3, .bool n4, .slice A4 L4.length c4, .int .i64 e4], .int .i64 p, .int .i64 k] w fun e w' => e = .returned (.bool true) ∧ Only [] w w' := by
  cases hl : lightN [⟨n1, A1, L1.length, c1, e1⟩, ⟨n2, A2, L2.length, c2, e2⟩, ⟨n3, A3, L3.length, c3, e3⟩, ⟨n4, A4, L4.length, c4, e4⟩] with
  | false => exact bhol_out1 n1 n2 n3 n4 A1 A2 A3 A4 L1 L2 L3 L4 c1 c2 c3 c4 e1 e2 e3 e4 p k w (Lib.hid hT) hl
  | true =>
    by_cases hp : p < 1
    · exact bhol_out2 n1 n2 n3 n4 A1 A2 A3 A4 L1 L2 L3 L4 c1 c2 c3 c4 e1 e2 e3 e4 p k w (Lib.hid hT) hl hp
    by_cases hp2 : 200 < p
    · exact bhol_out3 n1 n2 n3 n4 A1 A2 A3 A4 L1 L2 L3 L4 c1 c2 c3 c4 e1 e2 e3 e4 p k w (Lib.hid hT) hl hp hp2
    simp only [lightN, List.all_cons, List.all_nil, NR.ok, Bool.and_true, Bool.and_eq_true, decide_eq_true_eq] at hl
    obtain ⟨P, hP⟩ : ∃ P, widthP p = P := ⟨_, rfl⟩
    obtain ⟨R, hR⟩ : ∃ R, widthP 400 = R := ⟨_, rfl⟩
    have hPr := widthP_range p
    have hRr : R = 400 := by rw [← hR]; rfl
    have hPq : P ≤ 300 := by rw [← hP]; unfold widthP; omega
    rw [hP] at hPr
    obtain ⟨x1, hx1⟩ : ∃ x : Dy, x = ⟨sg n1 (val L1), e1⟩ := ⟨_, rfl⟩
    have he1 : x1.e = e1 := by rw [hx1]
    have hz1 : sg n1 (val L1) = x1.z := by rw [hx1]
    obtain ⟨x2, hx2⟩ : ∃ x : Dy, x = ⟨sg n2 (val L2), e2⟩ := ⟨_, rfl⟩
    have he2 : x2.e = e2 := by rw [hx2]
    have hz2 : sg n2 (val L2) = x2.z := by rw [hx2]
    obtain ⟨x3, hx3⟩ : ∃ x : Dy, x = ⟨sg n3 (val L3), e3⟩ := ⟨_, rfl⟩
    have he3 : x3.e = e3 := by rw [hx3]
    have hz3 : sg n3 (val L3) = x3.z := by rw [hx3]
    obtain ⟨x4, hx4⟩ : ∃ x : Dy, x = ⟨sg n4 (val L4), e4⟩ := ⟨_, rfl⟩
    have he4 : x4.e = e4 := by rw [hx4]
    have hz4 : sg n4 (val L4) = x4.z := by rw [hx4]
    obtain ⟨K, hK⟩ : ∃ K : Nat, K = 3000 := ⟨_, rfl⟩
    obtain ⟨N, hN⟩ : ∃ N : Nat, N = 24100 := ⟨_, rfl⟩
    obtain ⟨M, hM⟩ : ∃ M : Nat, M = 900000 := ⟨_, rfl⟩
    have BX1 : Bnd K x1 := num_bnd (by omega) (by omega) g1.1.2 hz1 (by omega) (by omega)
    have BX2 : Bnd K x2 := num_bnd (by omega) (by omega) g2.1.2 hz2 (by omega) (by omega)
    have BX3 : Bnd K x3 := num_bnd (by omega) (by omega) g3.1.2 hz3 (by omega) (by omega)
    have BX4 : Bnd K x4 := num_bnd (by omega) (by omega) g4.1.2 hz4 (by omega) (by omega)
    obtain ⟨la, ha, hLHa, hlea, BLa, BHa⟩ := lohi BX1 BX2
    obtain ⟨lb, hb, hLHb, hleb, BLb, BHb⟩ := lohi BX3 BX4
    have hps : 1 ≤ p ∧ p ≤ 200 := by omega
    have bmid : ∀ {u v : Dy}, Bnd K u → Bnd K v → Bnd (2 * K) (nrm (dAdd u v).z ((dAdd u v).e - 1)) ∨ True := fun _ _ => .inr trivial
    clear bmid
    have bA : ∀ {u v : Dy}, Bnd K u → Bnd K v → Bnd (4 * K + 1) (dAdd u v) := fun hu hv => hu.add hv (Nat.le_refl _)
    rw [← he1, ← he2, ← he3, ← he4]
    obtain ⟨okq, hok⟩ : ∃ b : Bool, decide (lb.z.sign = hb.z.sign ∧ lb.z ≠ 0) = b := ⟨_, rfl⟩
    have hNB : okq = false → lb.z.sign = hb.z.sign → lb.z.sign = 0 := fun h he => by
      rw [h] at hok
      have h2 : ¬ (lb.z.sign = hb.z.sign ∧ lb.z ≠ 0) := of_decide_eq_false hok
      have h0 : lb.z = 0 := by
        rcases Int.lt_trichotomy lb.z 0 with h | h | h
        · exact absurd ⟨he, by omega⟩ h2
        · exact h
        · exact absurd ⟨he, by omega⟩ h2
      rw [h0]; rfl
    have hYB : okq = true → lb.z.sign = hb.z.sign ∧ lb.z ≠ 0 := fun h => by
      rw [h] at hok
      exact of_decide_eq_true hok
    have lA := hlea
    have lB := hleb
    have hq2 : ∀ {u v : Rat}, u ≤ v → u ≤ (u + v) / 2 ∧ (u + v) / 2 ≤ v := fun h => by constructor <;> grind
    -- what holds of numbers x, y of the two balls
    have main : ∀ x y : Dy, HoldsOf P la ha lb hb x y →
        (okq = true → lb.z.sign = hb.z.sign ∧ lb.z ≠ 0 ∧ y.z ≠ 0 ∧ cmpQ (qLo P la ha lb hb).q (quoQ R true x y).q ≤ 0 ∧ 0 ≤ cmpQ (qHi P la ha lb hb).q (quoQ R false x y).q) ∧
        ((ha.z.sign < 0 ∧ True) ∨ (ha.z.sign = ha.z.sign ∧ 0 ≤ ha.z ∧ x.z.sign < 0) ∨ (0 ≤ x.z.sign ∧ 0 ≤ ha.z ∧ 0 ≤ (sqrtQ P false (if la.z < 0 then ⟨0, 0⟩ else la)).z.sign ∧ cmpQ (dMul (sqrtQ P false (if la.z < 0 then ⟨0, 0⟩ else la)) (sqrtQ P false (if la.z < 0 then ⟨0, 0⟩ else la))).q x.q ≤ 0 ∧ 0 ≤ cmpQ (dMul (sqrtQ P true ha) (sqrtQ P true ha)).q x.q)) := fun x y h => by
      constructor
      · intro hk
        obtain ⟨hs, h0⟩ := hYB hk
        obtain ⟨k1, k2, k3⟩ := hold_quo (R := R) hPr.1 (by omega) h hs h0
        refine ⟨hs, h0, k1, cmpQ_le.2 k2, ?_⟩
        have : ¬ cmpQ (qHi P la ha lb hb).q (quoQ R false x y).q < 0 := fun hc => by have := cmpQ_lt0.1 hc; grind
        omega
      · have s1 := sign_of ha.z
        have s2 := sign_of x.z
        by_cases h1 : ha.z < 0
        · left; exact ⟨by omega, trivial⟩
        · by_cases h2 : x.z < 0
          · right; left; exact ⟨rfl, by omega, by omega⟩
          · right; right
            obtain ⟨k1, k2, k3⟩ := hold_sqrt hPr.1 h (by omega) (by omega)
            exact ⟨by omega, by omega, k1, k2, k3⟩
    have Bla := BLa.mono (show K ≤ N by omega)
    have Bha := BHa.mono (show K ≤ N by omega)
    have Blb := BLb.mono (show K ≤ N by omega)
    have Bhb := BHb.mono (show K ≤ N by omega)
    have Cla := BLa.mono (show K ≤ 40000 by omega)
    have rA : ∀ {up : Bool} {u v : Dy}, Bnd N u → Bnd N v → Bnd M (rndD P up (dAdd u v)) := fun hu hv => rnd_bnd (hu.add hv (Nat.le_refl _)) (by omega)
    have rS : ∀ {up : Bool} {u v : Dy}, Bnd N u → Bnd N v → Bnd M (rndD P up (dSub u v)) := fun hu hv => rnd_bnd (hu.sub hv (Nat.le_refl _)) (by omega)
    have rMl : Bnd M (rndD P false (mulLo la ha lb hb)) := rnd_bnd (N := 4 * N) (minD_bnd (minD_bnd (minD_bnd (Bla.mul Blb (Nat.le_refl _)) (Bla.mul Bhb (Nat.le_refl _))) (Bha.mul Blb (Nat.le_refl _))) (Bha.mul Bhb (Nat.le_refl _))) (by omega)
    have rMh : Bnd M (rndD P true (mulHi la ha lb hb)) := rnd_bnd (N := 4 * N) (maxD_bnd (maxD_bnd (maxD_bnd (Bla.mul Blb (Nat.le_refl _)) (Bla.mul Bhb (Nat.le_refl _))) (Bha.mul Blb (Nat.le_refl _))) (Bha.mul Bhb (Nat.le_refl _))) (by omega)
    have bq : ∀ {up : Bool} {u v : Dy}, Bnd N u → Bnd N v → Bnd M (quoQ P up u v) := fun hu hv => quoQ_bnd hu hv (by omega)
    have bql : Bnd M (qLo P la ha lb hb) := minD_bnd (minD_bnd (minD_bnd (bq Bla Blb) (bq Bla Bhb)) (bq Bha Blb)) (bq Bha Bhb)
    have bqh : Bnd M (qHi P la ha lb hb) := maxD_bnd (maxD_bnd (maxD_bnd (bq Bla Blb) (bq Bla Bhb)) (bq Bha Blb)) (bq Bha Bhb)
    have bqr : ∀ {up : Bool} {u v : Dy}, Bnd N u → Bnd N v → Bnd M (quoQ R up u v) := fun hu hv => quoQ_bnd hu hv (by omega)
    have Bl0 : Bnd K (if la.z < 0 then (⟨0, 0⟩ : Dy) else la) := by split; exact bnd_zero _; exact BLa
    have bsl : Bnd (9 * K + 16 * P + 60) (sqrtQ P false (if la.z < 0 then ⟨0, 0⟩ else la)) := sqrtQ_bnd Bl0 (Nat.le_refl _)
    have bsr : Bnd (9 * K + 16 * P + 60) (sqrtQ P true ha) := sqrtQ_bnd BHa (Nat.le_refl _)
    have bml : Bnd M (dMul (sqrtQ P false (if la.z < 0 then ⟨0, 0⟩ else la)) (sqrtQ P false (if la.z < 0 then ⟨0, 0⟩ else la))) := bsl.mul bsl (by omega)
    have bmr : Bnd M (dMul (sqrtQ P true ha) (sqrtQ P true ha)) := bsr.mul bsr (by omega)
    have bsl' := bsl.mono (show _ ≤ M by omega)
    have bsr' := bsr.mono (show _ ≤ M by omega)
    have zA : ∀ {u v : Dy}, Bnd N u → Bnd N v → Bnd M (dAdd u v) := fun hu hv => hu.add hv (by omega)
    have zS : ∀ {u v : Dy}, Bnd N u → Bnd N v → Bnd M (dSub u v) := fun hu hv => hu.sub hv (by omega)
    have zM : ∀ {u v : Dy}, Bnd N u → Bnd N v → Bnd M (dMul u v) := fun hu hv => hu.mul hv (by omega)
    have smid : ∀ {u v : Dy}, Bnd K u → Bnd K v → IntKind.i64.wrap ((dAdd u v).e - 1) = (dAdd u v).e - 1 ∧ bitsN (dAdd u v).z.natAbs ≤ 16777216 ∧ -4000000000000000000 ≤ (dAdd u v).e - 1 ∧ (dAdd u v).e - 1 ≤ 4000000000000000000 := fun hu hv => by
      have h := bA hu hv
      have h1 := lim_i64 h (by omega)
      exact ⟨wrap_i64 (by omega), bits_few h.z (by omega), by omega, by omega⟩
    have bm : ∀ {u v : Dy}, Bnd K u → Bnd K v → Bnd N (nrm (dAdd u v).z ((dAdd u v).e - 1)) ∨ True := fun _ _ => .inr trivial
    clear bm
    have emid : ∀ {u v : Dy}, Bnd K u → Bnd K v → Bnd N (nrm (dAdd u v).z ((dAdd u v).e - 1)) := fun hu hv => by
      have h := bA hu hv
      exact bnd_nrm (K := 4 * K + 1) (M := 4 * K + 2) h.z (by have := h.lo; omega) (by have := h.hi; omega) (by omega)
    obtain ⟨ql, qh, hql, hqh, hq0, Bql, Bqh⟩ : ∃ ql qh : Dy, (okq = true → qLo P la ha lb hb = ql) ∧ (okq = true → qHi P la ha lb hb = qh) ∧ (okq = false → ql = ⟨0, 0⟩ ∧ qh = ⟨0, 0⟩) ∧ Bnd M ql ∧ Bnd M qh := by
      cases okq
      · exact ⟨⟨0, 0⟩, ⟨0, 0⟩, fun h => (by cases h), fun h => (by cases h), fun _ => ⟨rfl, rfl⟩, bnd_zero _, bnd_zero _⟩
      · exact ⟨_, _, fun _ => rfl, fun _ => rfl, fun h => (by cases h), bql, bqh⟩
    obtain ⟨b1, hk1⟩ : ∃ b : Bool, (bits BinOp.and IntKind.i64 k 1 == 1) = b := ⟨_, rfl⟩
    obtain ⟨b2, hk2⟩ : ∃ b : Bool, (bits BinOp.and IntKind.i64 k 2 == 2) = b := ⟨_, rfl⟩
    obtain ⟨xx, hXX, Bxx, hax⟩ : ∃ xx : Dy, ((b1 = true → (nrm (dAdd la ha).z ((dAdd la ha).e - 1)) = xx) ∧ (b1 = false → la = xx)) ∧ Bnd N xx ∧ la.q ≤ xx.q ∧ xx.q ≤ ha.q := by
      cases b1
      · exact ⟨la, ⟨fun h => (by cases h), fun _ => rfl⟩, Bla, Rat.le_refl, lA⟩
      · exact ⟨_, ⟨fun _ => rfl, fun h => (by cases h)⟩, emid BLa BHa, by rw [midd_q]; exact hq2 lA⟩
    obtain ⟨yy, hYY, Byy, hby⟩ : ∃ yy : Dy, ((b2 = true → (nrm (dAdd lb hb).z ((dAdd lb hb).e - 1)) = yy) ∧ (b2 = false → hb = yy)) ∧ Bnd N yy ∧ lb.q ≤ yy.q ∧ yy.q ≤ hb.q := by
      cases b2
      · exact ⟨hb, ⟨fun h => (by cases h), fun _ => rfl⟩, Bhb, lB, Rat.le_refl⟩
      · exact ⟨_, ⟨fun _ => rfl, fun h => (by cases h)⟩, emid BLb BHb, by rw [midd_q]; exact hq2 lB⟩
    have hh : HoldsOf P la ha lb hb xx yy := ⟨hax, hby⟩
    exact bhol_in00 (N := N) (M := M) n1 n2 n3 n4 A1 A2 A3 A4 L1 L2 L3 L4 c1 c2 c3 c4 x1 x2 x3 x4 la ha lb hb (nrm (dAdd la ha).z ((dAdd la ha).e - 1)) (dAdd la ha) (nrm (dAdd lb hb).z ((dAdd lb hb).e - 1)) (dAdd lb hb) xx yy (rndD P false (dAdd la lb)) (rndD P true (dAdd ha hb)) (rndD P false (dSub la hb)) (rndD P true (dSub ha lb)) (rndD P false (mulLo la ha lb hb)) (rndD P true (mulHi la ha lb hb)) (dAdd xx yy) (dSub xx yy) (dMul xx yy) ql qh (quoQ R false xx yy) (quoQ R true xx yy) (sqrtQ P false (if la.z < 0 then ⟨0, 0⟩ else la)) (sqrtQ P true ha) (dMul (sqrtQ P false (if la.z < 0 then ⟨0, 0⟩ else la)) (sqrtQ P false (if la.z < 0 then ⟨0, 0⟩ else la))) (dMul (sqrtQ P true ha) (sqrtQ P true ha)) p k _ _ _ _ _ _ _ _ _ ((dAdd la ha).e - 1) ((dAdd lb hb).e - 1) w (by omega) (by omega) (by omega) hps.1 hps.2 (Lib.hid hz1) (Lib.hid g1.1) (by omega) (by omega) (Lib.hid (BX1.mono (by omega))) (Lib.hid hz2) (Lib.hid g2.1) (by omega) (by omega) (Lib.hid (BX2.mono (by omega))) (Lib.hid hz3) (Lib.hid g3.1) (by omega) (by omega) (Lib.hid (BX3.mono (by omega))) (Lib.hid hz4) (Lib.hid g4.1) (by omega) (by omega) (Lib.hid (BX4.mono (by omega))) (Lib.hid rfl) (Lib.hid hLHa) (Lib.hid rfl) (Lib.hid hLHb) (Lib.hid Bla) (Lib.hid Bha) (Lib.hid Blb) (Lib.hid Bhb) (Lib.hid (by rw [hP])) (Lib.hid (by rw [hP])) (Lib.hid (by rw [hP])) (Lib.hid (by rw [hP])) (Lib.hid (by rw [hP])) (Lib.hid (by rw [hP])) (Lib.hid (rA Bla Blb)) (Lib.hid (rA Bha Bhb)) (Lib.hid (rS Bla Bhb)) (Lib.hid (rS Bha Blb)) (Lib.hid rMl) (Lib.hid rMh) (Lib.hid (zA Bxx Byy)) (Lib.hid (zS Bxx Byy)) (Lib.hid (zM Bxx Byy)) (Lib.hid Bql) (Lib.hid Bqh) (Lib.hid (bqr Bxx Byy)) (Lib.hid (bqr Bxx Byy)) (Lib.hid bsl') (Lib.hid bsr') (Lib.hid bml) (Lib.hid bmr) (Lib.hid rfl) (Lib.hid rfl) (Lib.hid rfl) (Lib.hid (has_true hh.ax)) (Lib.hid (has_true hh.by_)) (Lib.hid (has_true (hold_add hPr.1 hh))) (Lib.hid (has_true (hold_sub hPr.1 hh))) (Lib.hid (has_true (hold_mul hPr.1 hh))) (Lib.hid (by rw [hR]; rfl)) (Lib.hid (by rw [hR]; rfl)) (Lib.hid rfl) (Lib.hid rfl) okq (Lib.hid fun h => ⟨hNB h, hq0 h⟩) (Lib.hid fun h => ⟨(hYB h).1, (hYB h).2, by rw [hP]; exact hql h, by rw [hP]; exact hqh h⟩) (Lib.hid fun h => by have := (main _ _ hh).1 h; rw [hql h, hqh h] at this; exact ⟨this.2.2.1, this.2.2.2⟩) (Lib.hid rfl) (Lib.hid rfl) (Lib.hid (by rw [hP])) (Lib.hid (by rw [hP])) (Lib.hid rfl) (Lib.hid rfl) (Lib.hid rfl) (Lib.hid rfl) (Lib.hid rfl) (Lib.hid (main _ _ hh).2) (Lib.hid Bxx) (Lib.hid Byy) b1 b2 (Lib.hid hXX) (Lib.hid hYY) (Lib.hid rfl) (smid BLa BHa).1 (Lib.hid rfl) (Lib.hid (smid BLa BHa).2.1) (smid BLa BHa).2.2.1 (smid BLa BHa).2.2.2 hk1 (Lib.hid rfl) (smid BLb BHb).1 (Lib.hid rfl) (Lib.hid (smid BLb BHb).2.1) (smid BLb BHb).2.2.1 (smid BLb BHb).2.2.2 hk2 (Lib.hid hT)

end Go.Proofs.YtgiejjpemhceiaaDoor
