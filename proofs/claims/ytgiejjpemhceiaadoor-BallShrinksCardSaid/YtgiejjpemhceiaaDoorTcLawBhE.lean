/-
  BallShrinks: the walk, closed.
-/
import Derived.Test.YtgiejjpemhceiaaDoorTcLawBh
import Derived.Test.YtgiejjpemhceiaaDoorTcNumsIn
namespace Go.Proofs.YtgiejjpemhceiaaDoor
set_option linter.unusedSimpArgs false
open Go.RowKit

/-- The lesser and the greater of two numbers, as 'of' picks them. -/
theorem lohi {N : Nat} {x y : Dy} (BX : Bnd N x) (BY : Bnd N y) : ∃ lo hi : Dy, ((0 < cmpQ x.q y.q → y = lo ∧ x = hi) ∧ (¬ 0 < cmpQ x.q y.q → x = lo ∧ y = hi)) ∧ lo.q ≤ hi.q ∧ Bnd N lo ∧ Bnd N hi := by
  by_cases h : 0 < cmpQ x.q y.q
  · exact ⟨y, x, ⟨fun _ => ⟨rfl, rfl⟩, fun hc => absurd h hc⟩, by have := cmpQ_gt0.1 h; grind, BY, BX⟩
  · exact ⟨x, y, ⟨fun hc => absurd hc h, fun _ => ⟨rfl, rfl⟩⟩, by have : ¬ y.q < x.q := fun hc => h (cmpQ_gt0.2 hc); grind, BX, BY⟩
theorem sgn_nrm (z e : Int) : (nrm z e).z.sign = z.sign := by
  have h := q_sign (nrm z e)
  rw [nrm_q] at h
  have h2 := q_sign ⟨z, e⟩
  unfold Dy.q at h2
  simp only at h2
  rw [← h, h2]
theorem nrm_qx (x : Dy) : (nrm x.z x.e).q = x.q := nrm_q _ _
theorem wrap9 {p : Int} (h1 : 1 ≤ p) (h2 : p ≤ 200) : IntKind.i64.wrap (p + 9) = p + 9 := wrap_i64 (by omega)

set_option maxRecDepth 100000 in
theorem ballShrinks_any (n1 : Bool) (A1 : Option Addr) (c1 : Nat) (L1 : List Nat) (e1 : Int) (n2 : Bool) (A2 : Option Addr) (c2 : Nat) (L2 : List Nat) (e2 : Int) (n3 : Bool) (A3 : Option Addr) (c3 : Nat) (L3 : List Nat) (e3 : Int) (n4 : Bool) (A4 : Option Addr) (c4 : Nat) (L4 : List Nat) (e4 : Int) (p : Int) (w : World)
    (g1 : NumIn4 w A1 L1 c1 e1) (g2 : NumIn4 w A2 L2 c2 e2) (g3 : NumIn4 w A3 L3 c3 e3) (g4 : NumIn4 w A4 L4 c4 e4) (_ : (Lit.int .i64 p).wf = true) (hT : Tab6 w) :
    Calls Tryd.prog 5 #[.agg #[.bool n1, .slice A1 L1.length c1, .int .i64 e1, .bool n2, .slice A2 L2.length c2, .int .i64 e2, .bool n3, .slice A3 L3.length c3, .int .i64 e3, .bool n4, .slice A4 L4.length c4, .int .i64 e4], .int .i64 p] w fun e w' => e = .returned (.bool true) ∧ Only [] w w' := by
  cases hl : lightN [⟨n1, A1, L1.length, c1, e1⟩, ⟨n2, A2, L2.length, c2, e2⟩, ⟨n3, A3, L3.length, c3, e3⟩, ⟨n4, A4, L4.length, c4, e4⟩] with
  | false => exact bshr_out1 n1 n2 n3 n4 A1 A2 A3 A4 L1 L2 L3 L4 c1 c2 c3 c4 e1 e2 e3 e4 p w (Lib.hid hT) hl
  | true =>
    by_cases hp : p < 1
    · exact bshr_out2 n1 n2 n3 n4 A1 A2 A3 A4 L1 L2 L3 L4 c1 c2 c3 c4 e1 e2 e3 e4 p w (Lib.hid hT) hl hp
    by_cases hp2 : 200 < p
    · exact bshr_out3 n1 n2 n3 n4 A1 A2 A3 A4 L1 L2 L3 L4 c1 c2 c3 c4 e1 e2 e3 e4 p w (Lib.hid hT) hl hp hp2
    simp only [lightN, List.all_cons, List.all_nil, NR.ok, Bool.and_true, Bool.and_eq_true, decide_eq_true_eq] at hl
    obtain ⟨P, hP⟩ : ∃ P, widthP p = P := ⟨_, rfl⟩
    obtain ⟨P', hP'⟩ : ∃ P', widthP (p + 9) = P' := ⟨_, rfl⟩
    have hPr := widthP_range p
    have hPr' := widthP_range (p + 9)
    have hPP : P ≤ P' := by rw [← hP, ← hP']; unfold widthP; omega
    have hPq : P ≤ 300 := by rw [← hP]; unfold widthP; omega
    have hPq' : P' ≤ 300 := by rw [← hP']; unfold widthP; omega
    rw [hP] at hPr
    rw [hP'] at hPr'
    obtain ⟨x1, hx1⟩ : ∃ x : Dy, x = ⟨sg n1 (val L1), e1⟩ := ⟨_, rfl⟩
    have he1 : x1.e = e1 := by rw [hx1]
    have hz1 : sg n1 (val L1) = x1.z := by rw [hx1]
    obtain ⟨x2, hx2⟩ : ∃ x : Dy, x = ⟨sg n2 (val L2), e2⟩ := ⟨_, rfl⟩
    have he2 : x2.e = e2 := by rw [hx2]
    have hz2 : sg n2 (val L2) = x2.z := by rw [hx2]
    obtain ⟨x3, hx3⟩ : ∃ x : Dy, x = ⟨sg n3 (val L3), e3⟩ := ⟨_, rfl⟩
    have he3 : x3.e = e3 := by rw [hx3]
    have hz3 : sg n3 (val L3) = x3.z := by rw [hx3]
    obtain ⟨x4, hx4⟩ : ∃ x : Dy, x = ⟨sg n4 (val L4), e4⟩ := ⟨_, rfl⟩
    have he4 : x4.e = e4 := by rw [hx4]
    have hz4 : sg n4 (val L4) = x4.z := by rw [hx4]
    obtain ⟨K, hK⟩ : ∃ K : Nat, K = 4000 := ⟨_, rfl⟩
    obtain ⟨M, hM⟩ : ∃ M : Nat, M = 200000 := ⟨_, rfl⟩
    have BX1 : Bnd K x1 := num_bnd (by omega) (by omega) g1.1.2 hz1 (by omega) (by omega)
    have BX2 : Bnd K x2 := num_bnd (by omega) (by omega) g2.1.2 hz2 (by omega) (by omega)
    have BX3 : Bnd K x3 := num_bnd (by omega) (by omega) g3.1.2 hz3 (by omega) (by omega)
    have BX4 : Bnd K x4 := num_bnd (by omega) (by omega) g4.1.2 hz4 (by omega) (by omega)
    obtain ⟨la, ha, hLHa, hlea, BLa, BHa⟩ := lohi BX1 BX2
    obtain ⟨lb, hb, hLHb, hleb, BLb, BHb⟩ := lohi BX3 BX4
    obtain ⟨N, hN⟩ : ∃ N : Nat, N = 2 * K := ⟨_, rfl⟩
    obtain ⟨xa, hxa⟩ : ∃ x, nrm la.z la.e = x := ⟨_, rfl⟩
    obtain ⟨yb, hyb⟩ : ∃ x, nrm hb.z hb.e = x := ⟨_, rfl⟩
    have qxa : xa.q = la.q := by rw [← hxa, nrm_qx]
    have qyb : yb.q = hb.q := by rw [← hyb, nrm_qx]
    have Bxa : Bnd N xa := by rw [← hxa]; exact BLa.norm (by omega)
    have Byb : Bnd N yb := by rw [← hyb]; exact BHb.norm (by omega)
    have Bla := BLa.mono (show K ≤ N by omega)
    have Bha := BHa.mono (show K ≤ N by omega)
    have Blb := BLb.mono (show K ≤ N by omega)
    have Bhb := BHb.mono (show K ≤ N by omega)
    have bA : ∀ {Q : Nat} {up : Bool} {u v : Dy}, Q ≤ 300 → Bnd N u → Bnd N v → Bnd M (rndD Q up (dAdd u v)) := fun hq hu hv => rnd_bnd (hu.add hv (Nat.le_refl _)) (by omega)
    have bS : ∀ {Q : Nat} {up : Bool} {u v : Dy}, Q ≤ 300 → Bnd N u → Bnd N v → Bnd M (rndD Q up (dSub u v)) := fun hq hu hv => rnd_bnd (hu.sub hv (Nat.le_refl _)) (by omega)
    have bMl : ∀ {Q : Nat} {up : Bool} {x y u v : Dy}, Q ≤ 300 → Bnd N x → Bnd N y → Bnd N u → Bnd N v → Bnd M (rndD Q up (mulLo x y u v)) := fun hq hx hy hu hv =>
      rnd_bnd (N := 4 * N) (minD_bnd (minD_bnd (minD_bnd (hx.mul hu (Nat.le_refl _)) (hx.mul hv (Nat.le_refl _))) (hy.mul hu (Nat.le_refl _))) (hy.mul hv (Nat.le_refl _))) (by omega)
    have bMh : ∀ {Q : Nat} {up : Bool} {x y u v : Dy}, Q ≤ 300 → Bnd N x → Bnd N y → Bnd N u → Bnd N v → Bnd M (rndD Q up (mulHi x y u v)) := fun hq hx hy hu hv =>
      rnd_bnd (N := 4 * N) (maxD_bnd (maxD_bnd (maxD_bnd (hx.mul hu (Nat.le_refl _)) (hx.mul hv (Nat.le_refl _))) (hy.mul hu (Nat.le_refl _))) (hy.mul hv (Nat.le_refl _))) (by omega)
    have bq : ∀ {up : Bool} {u v : Dy}, Bnd N u → Bnd N v → Bnd M (quoQ P up u v) := fun hu hv => quoQ_bnd hu hv (by omega)
    have ml := mulLo_le la ha lb hb
    have mh := mulHi_ge la ha lb hb
    have I1 : (rndD P false (dAdd la lb)).q ≤ (rndD P false (dAdd xa yb)).q ∧ (rndD P true (dAdd xa yb)).q ≤ (rndD P true (dAdd ha hb)).q :=
      ⟨rnd_le_down hPr.1 (Nat.le_refl _) (by rw [dAdd_q, dAdd_q, qxa, qyb]; grind), rnd_le_up hPr.1 (Nat.le_refl _) (by rw [dAdd_q, dAdd_q, qxa, qyb]; grind)⟩
    have I2 : (rndD P false (dSub la hb)).q ≤ (rndD P false (dSub xa yb)).q ∧ (rndD P true (dSub xa yb)).q ≤ (rndD P true (dSub ha lb)).q :=
      ⟨rnd_le_down hPr.1 (Nat.le_refl _) (by rw [dSub_q, dSub_q, qxa, qyb]; grind), rnd_le_up hPr.1 (Nat.le_refl _) (by rw [dSub_q, dSub_q, qxa, qyb]; grind)⟩
    have I3 : (rndD P false (mulLo la ha lb hb)).q ≤ (rndD P false (mulLo xa xa yb yb)).q ∧ (rndD P true (mulHi xa xa yb yb)).q ≤ (rndD P true (mulHi la ha lb hb)).q :=
      ⟨rnd_le_down hPr.1 (Nat.le_refl _) (by rw [mulLo_self, dMul_q, qxa, qyb]; exact ml.2.1), rnd_le_up hPr.1 (Nat.le_refl _) (by rw [mulHi_self, dMul_q, qxa, qyb]; exact mh.2.1)⟩
    have I4 : (rndD P false (dAdd la lb)).q ≤ (rndD P' false (dAdd la lb)).q ∧ (rndD P' true (dAdd ha hb)).q ≤ (rndD P true (dAdd ha hb)).q :=
      ⟨rnd_le_down hPr.1 hPP Rat.le_refl, rnd_le_up hPr.1 hPP Rat.le_refl⟩
    have I5 : (rndD P false (mulLo la ha lb hb)).q ≤ (rndD P' false (mulLo la ha lb hb)).q ∧ (rndD P' true (mulHi la ha lb hb)).q ≤ (rndD P true (mulHi la ha lb hb)).q :=
      ⟨rnd_le_down hPr.1 hPP Rat.le_refl, rnd_le_up hPr.1 hPP Rat.le_refl⟩
    have hps : 1 ≤ p ∧ p ≤ 200 := by omega
    have hs : yb.z.sign = hb.z.sign := by rw [← hyb, sgn_nrm]
    rw [← he1, ← he2, ← he3, ← he4]
    have hQ : (lb.z.sign = hb.z.sign ∧ lb.z ≠ 0 ∧ yb.z ≠ 0 ∧ (qLo P la ha lb hb).q ≤ (qLo P xa xa yb yb).q ∧ (qHi P xa xa yb yb).q ≤ (qHi P la ha lb hb).q) ∨ ((lb.z.sign = hb.z.sign → lb.z.sign = 0) ∧ yb.z ≠ 0) ∨ ((lb.z.sign = hb.z.sign → lb.z.sign = 0) ∧ yb.z.sign = 0) := by
      by_cases hok : lb.z.sign = hb.z.sign ∧ lb.z ≠ 0
      · have hzb : hb.z ≠ 0 := fun hc => by rw [hc] at hok; exact hok.2 (Int.sign_eq_zero_iff_zero.1 hok.1)
        have hzy : yb.z ≠ 0 := fun hc => by rw [hc] at hs; exact hzb (Int.sign_eq_zero_iff_zero.1 hs.symm)
        refine .inl ⟨hok.1, hok.2, hzy, ?_⟩
        have ec : ∀ up, quoQ P up xa yb = quoQ P up la hb := fun up => quoQ_congr hPr.1 hzy qxa qyb
        rw [qLo_self, qHi_self, ec, ec]
        exact ⟨(qLo_le P la ha lb hb).2.1, (qHi_ge P la ha lb hb).2.1⟩
      · have hnb : lb.z.sign = hb.z.sign → lb.z.sign = 0 := fun he => by
          have : ¬ lb.z ≠ 0 := fun hc => hok ⟨he, hc⟩
          have h0 : lb.z = 0 := by omega
          rw [h0]; rfl
        by_cases hzy : yb.z = 0
        · exact .inr (.inr ⟨hnb, by rw [hzy]; rfl⟩)
        · exact .inr (.inl ⟨hnb, hzy⟩)
    exact bshr_in (N := N) (M := M) n1 n2 n3 n4 A1 A2 A3 A4 L1 L2 L3 L4 c1 c2 c3 c4 x1 x2 x3 x4 la ha lb hb xa yb (rndD P false (dAdd xa yb)) (rndD P true (dAdd xa yb)) (rndD P false (dAdd la lb)) (rndD P true (dAdd ha hb)) (rndD P false (dSub xa yb)) (rndD P true (dSub xa yb)) (rndD P false (dSub la hb)) (rndD P true (dSub ha lb)) (rndD P false (mulLo xa xa yb yb)) (rndD P true (mulHi xa xa yb yb)) (rndD P false (mulLo la ha lb hb)) (rndD P true (mulHi la ha lb hb)) (rndD P' false (dAdd la lb)) (rndD P' true (dAdd ha hb)) (rndD P' false (mulLo la ha lb hb)) (rndD P' true (mulHi la ha lb hb)) p (p + 9) _ _ w (by omega) (by omega) hps.1 hps.2 (wrap9 hps.1 hps.2) (Lib.hid hz1) (Lib.hid g1.1) (by omega) (by omega) (Lib.hid (BX1.mono (by omega))) (Lib.hid hz2) (Lib.hid g2.1) (by omega) (by omega) (Lib.hid (BX2.mono (by omega))) (Lib.hid hz3) (Lib.hid g3.1) (by omega) (by omega) (Lib.hid (BX3.mono (by omega))) (Lib.hid hz4) (Lib.hid g4.1) (by omega) (by omega) (Lib.hid (BX4.mono (by omega))) (Lib.hid rfl) (Lib.hid hLHa) (Lib.hid rfl) (Lib.hid hLHb) (Lib.hid Bla) (Lib.hid Bha) (Lib.hid Blb) (Lib.hid Bhb) (Lib.hid Bxa) (Lib.hid Byb) (Lib.hid hxa) (Lib.hid hyb) (Lib.hid (by rw [hP])) (Lib.hid (by rw [hP])) (Lib.hid (bA hPq Bxa Byb)) (Lib.hid (bA hPq Bxa Byb)) (Lib.hid (by rw [hP])) (Lib.hid (by rw [hP])) (Lib.hid (bA hPq Bla Blb)) (Lib.hid (bA hPq Bha Bhb)) (Lib.hid (by rw [hP])) (Lib.hid (by rw [hP])) (Lib.hid (bS hPq Bxa Byb)) (Lib.hid (bS hPq Bxa Byb)) (Lib.hid (by rw [hP])) (Lib.hid (by rw [hP])) (Lib.hid (bS hPq Bla Bhb)) (Lib.hid (bS hPq Bha Blb)) (Lib.hid (by rw [hP])) (Lib.hid (by rw [hP])) (Lib.hid (bMl hPq Bxa Bxa Byb Byb)) (Lib.hid (bMh hPq Bxa Bxa Byb Byb)) (Lib.hid (by rw [hP])) (Lib.hid (by rw [hP])) (Lib.hid (bMl hPq Bla Bha Blb Bhb)) (Lib.hid (bMh hPq Bla Bha Blb Bhb)) (Lib.hid (by rw [hP'])) (Lib.hid (by rw [hP'])) (Lib.hid (bA hPq' Bla Blb)) (Lib.hid (bA hPq' Bha Bhb)) (Lib.hid (by rw [hP'])) (Lib.hid (by rw [hP'])) (Lib.hid (bMl hPq' Bla Bha Blb Bhb)) (Lib.hid (bMh hPq' Bla Bha Blb Bhb)) I1 I2 I3 I4 I5 (Lib.hid hT) (qLo P la ha lb hb) (qHi P la ha lb hb) (qLo P xa xa yb yb) (qHi P xa xa yb yb) (Lib.hid (by rw [hP])) (Lib.hid (by rw [hP])) (Lib.hid (by rw [hP])) (Lib.hid (by rw [hP])) (Lib.hid (minD_bnd (minD_bnd (minD_bnd (bq Bla Blb) (bq Bla Bhb)) (bq Bha Blb)) (bq Bha Bhb))) (Lib.hid (maxD_bnd (maxD_bnd (maxD_bnd (bq Bla Blb) (bq Bla Bhb)) (bq Bha Blb)) (bq Bha Bhb))) (Lib.hid (minD_bnd (minD_bnd (minD_bnd (bq Bxa Byb) (bq Bxa Byb)) (bq Bxa Byb)) (bq Bxa Byb))) (Lib.hid (maxD_bnd (maxD_bnd (maxD_bnd (bq Bxa Byb) (bq Bxa Byb)) (bq Bxa Byb)) (bq Bxa Byb))) (Lib.hid hQ)

end Go.Proofs.YtgiejjpemhceiaaDoor
