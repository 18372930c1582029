/-
  WholeTells: for every two numbers.
-/
import Derived.Test.YtigpnopeacicpaaDoorTwLawWt
namespace Go.Proofs.YtigpnopeacicpaaDoor
set_option linter.unusedSimpArgs false
open Go.RowKit

theorem nrm_q0 (z : Int) : (nrm z 0).q = (z : Rat) := by
  rw [nrm_q]
  have : p2 0 = 1 := rfl
  rw [this, Rat.mul_one]
theorem nrm_add0 (x y : Int) : dAdd (nrm x 0) (nrm y 0) = nrm (x + y) 0 := by
  apply Can.ext (dAdd_can _ _) (nrm_can _ _)
  rw [dAdd_q, nrm_q0, nrm_q0, nrm_q0, Rat.intCast_add]
theorem nrm_sub0 (x y : Int) : dSub (nrm x 0) (nrm y 0) = nrm (x - y) 0 := by
  apply Can.ext (dSub_can _ _) (nrm_can _ _)
  rw [dSub_q, nrm_q0, nrm_q0, nrm_q0, Rat.intCast_sub]
theorem nrm_mul0 (x y : Int) : dMul (nrm x 0) (nrm y 0) = nrm (x * y) 0 := by
  apply Can.ext (dMul_can _ _) (nrm_can _ _)
  rw [dMul_q, nrm_q0, nrm_q0, nrm_q0, Rat.intCast_mul]
theorem nrm_neg0 (x : Int) : dNot (nrm x 0) = nrm (-x) 0 := by
  apply Can.ext (dNot_can _) (nrm_can _ _)
  rw [dNot_q, nrm_q0, nrm_q0, Rat.intCast_neg]
theorem nrm_cmp0 (x y : Int) : cmpQ (nrm x 0).q (nrm y 0).q = cmpI x y := by
  rw [nrm_q0, nrm_q0]
  unfold cmpQ cmpI
  by_cases h : x < y
  · rw [if_pos h, if_pos (Rat.intCast_lt_intCast.2 h)]
  · rw [if_neg h, if_neg (fun hc => h (Rat.intCast_lt_intCast.1 hc))]
    by_cases h2 : x = y
    · rw [if_pos h2, if_pos (by rw [h2])]
    · rw [if_neg h2, if_neg (fun hc => h2 (Rat.intCast_inj.1 hc))]
theorem nrm_sgn0 (z : Int) : (nrm z 0).z.sign = z.sign := by
  have h1 := q_neg (x := nrm z 0)
  have h2 := q_zero (x := nrm z 0)
  rw [nrm_q0] at h1 h2
  have h3 : (z : Rat) < 0 ↔ z < 0 := by rw [← Rat.intCast_zero, Rat.intCast_lt_intCast]
  have h4 : (z : Rat) = 0 ↔ z = 0 := by rw [← Rat.intCast_zero, Rat.intCast_inj]
  rw [h3] at h1
  rw [h4] at h2
  have a := sign_of z
  have b := sign_of (nrm z 0).z
  omega
theorem quoI_abs (up : Bool) (x y : Int) (hy : y ≠ 0) : (quoI up x y).natAbs ≤ x.natAbs + 1 := by
  have h := quo_sg up (decide (x < 0)) (decide (y < 0)) x.natAbs y.natAbs (by omega)
  rw [sg_self, sg_self] at h
  rw [← h, sg_abs]
  have := Nat.div_le_self x.natAbs y.natAbs
  split <;> omega
theorem wt_two {n k N : Nat} (h : Lim n k) (hN : N = 64 * k) : n < 2 ^ N := by
  subst hN
  rw [← bb_two_pow]
  exact h
theorem decW_len_le : ∀ (k n : Nat), n < 10 ^ (k + 1) → (Lib.decDigits n).length ≤ k + 1
  | 0, n, h => by rw [dec_small (by simpa using h)]; simp
  | k + 1, n, h => by
    by_cases hs : n < 10
    · rw [dec_small hs]; simp
    · rw [Nat.pow_succ] at h
      have := decW_len_le k (n / 10) (by omega)
      rw [dec_step hs]
      simp
      omega
theorem decW_len {n k : Nat} (h : Lim n k) (hk : k ≤ 1000) : (Lib.decDigits n).length ≤ 20000 := by
  have h1 : BB ≤ 10 ^ 20 := by rw [BB_val]; decide
  have h2 : n < 10 ^ (20 * k) := by
    rw [Nat.pow_mul]
    exact Nat.lt_of_lt_of_le h (Nat.pow_le_pow_left h1 k)
  have h3 : n < 10 ^ (20 * k + 1) := Nat.lt_of_lt_of_le h2 (Nat.pow_le_pow_right (by omega) (by omega))
  have := decW_len_le _ _ h3
  by_cases h0 : k = 0
  · subst h0; omega
  · have h4 := decW_len_le (20 * k - 1) n (by rw [show 20 * k - 1 + 1 = 20 * k by omega]; exact h2)
    omega
theorem powW_split (a b : Nat) {c : Nat} (h : a + b = c) : 2 ^ a * 2 ^ b = 2 ^ c := by rw [← Nat.pow_add, h]
theorem wholeTells_any (n1 n2 : Bool) (A : Option Addr) (c : Nat) (xs : List Nat) (B : Option Addr) (d : Nat) (ys : List Nat) (v : Int) (w : World) (hA : LimbsIn w A xs) (hc : xs.length ≤ c) (_ : c ≤ maxLen) (hB : LimbsIn w B ys) (hd : ys.length ≤ d) (_ : d ≤ maxLen) (hv : (Lit.int .i64 v).wf = true) (htab : Tab w) (_ : Tab6 w) :
    Calls Tryd.prog 4 #[.bool n1, .bool n2, .slice A xs.length c, .slice B ys.length d, .int .i64 v] w fun e w' => e = .returned (.bool true) ∧ Only [] w w' := by
  cases hl : lightB [⟨A, xs.length, c⟩, ⟨B, ys.length, d⟩] with
  | false => exact wtells_out n1 n2 A B _ c _ d v w htab hl
  | true =>
    have h2 : xs.length ≤ 40 ∧ ys.length ≤ 40 := by simpa [lightB] using hl
    obtain ⟨K, hK⟩ : ∃ K, K = 64 * 40 := ⟨_, rfl⟩
    have hx2 := wt_two (Lim.val hA.2 h2.1) hK
    have hy2 := wt_two (Lim.val hB.2 h2.2) hK
    have HA0 : NV w (.slice A xs.length c) (val xs) := NV.mk ⟨hA.1, hA.2, by omega⟩ hc (by omega)
    obtain ⟨x, hxv⟩ : ∃ x, sg n1 (val xs) = x := ⟨_, rfl⟩
    obtain ⟨y, hyv⟩ : ∃ y, sg n2 (val ys) = y := ⟨_, rfl⟩
    have hxa : x.natAbs = val xs := by rw [← hxv, sg_abs]
    have hya : y.natAbs = val ys := by rw [← hyv, sg_abs]
    have hX : x.natAbs < 2 ^ K := by rw [hxa]; exact hx2
    have hY : y.natAbs < 2 ^ K := by rw [hya]; exact hy2
    have hv64 : -9223372036854775808 ≤ v ∧ v ≤ 9223372036854775807 := wf_i64 hv
    have h1 : 2 ^ (K + 1) = 2 * 2 ^ K := by rw [Nat.pow_succ]; omega
    have h2' : 2 ^ (K + 2) = 4 * 2 ^ K := by rw [Nat.pow_succ, Nat.pow_succ]; omega
    have hpos : 0 < 2 ^ K := Nat.pow_pos (by omega)
    have la : (x + y).natAbs < 2 ^ (K + 1) := by omega
    have ls : (x - y).natAbs < 2 ^ (K + 1) := by omega
    have laa : (x + y + x).natAbs < 2 ^ (K + 2) := by omega
    have lm : (x * y).natAbs < 2 ^ (2 * K) := by
      rw [Int.natAbs_mul, Nat.two_mul, ← powW_split K K rfl]
      exact Nat.mul_lt_mul'' hX hY
    have lmm : (x * y * y).natAbs < 2 ^ (3 * K) := by
      rw [Int.natAbs_mul, ← powW_split (2 * K) K (by omega)]
      exact Nat.mul_lt_mul'' lm hY
    have lv : v.natAbs < 2 ^ 64 := by omega
    have lq : ∀ up, y ≠ 0 → (quoI up x y).natAbs < 2 ^ (K + 1) := fun up hy0 => by
      have := quoI_abs up x y hy0
      omega
    have fw : ∀ (z : Int) (k : Nat), z.natAbs < 2 ^ k → k ≤ 10000 → Hid (Few z.natAbs) := fun z k h hk => few_two_pow (N := k) h (by omega)
    have bd : ∀ (z : Int) (k : Nat), z.natAbs < 2 ^ k → k ≤ 100000 → Hid (Bnd 100000 (nrm z 0)) := fun z k h hk => bnd_nrm (K := k) (M := 0) h (by omega) (by omega) (by omega)
    have B0 : Hid (Bnd 100000 ⟨0, 0⟩) := bnd_zero _
    have dn : Hid ((Lib.decDigits (val xs)).length ≤ 1000000) := Nat.le_trans (decW_len (Lim.val hA.2 h2.1) (by omega)) (by omega)
    have dx : Hid ((Lib.decDigits x.natAbs).length ≤ 1000000) := by rw [hxa]; exact dn
    have hfx : Hid (Few (x.natAbs + 1)) := few_two_pow (N := K + 1) (by omega) (by omega)
    have hfn : Hid (Few (val xs)) := few_two_pow (N := K) hx2 (by omega)
    obtain ⟨ok, hok⟩ : ∃ ok, decide (y ≠ 0) = ok := ⟨_, rfl⟩
    have hok1 : ok = true → y ≠ 0 := fun h => of_decide_eq_true (hok.trans h)
    have hok0 : ok = false → y = 0 := fun h => Decidable.byContradiction (fun hc => (of_decide_eq_false (hok.trans h)) hc)
    obtain ⟨dl, hdl⟩ : ∃ dl, (if y = 0 then 0 else quoI false x y) = dl := ⟨_, rfl⟩
    obtain ⟨du, hdu⟩ : ∃ du, (if y = 0 then 0 else quoI true x y) = du := ⟨_, rfl⟩
    have key : ∀ up r, (if y = 0 then 0 else quoI up x y) = r → (ok = false → y = 0 ∧ r = 0) ∧ (ok = true → y ≠ 0 ∧ quoI up x y = r) := fun up r h => by
      constructor
      · intro h0
        rw [if_pos (hok0 h0)] at h
        exact ⟨hok0 h0, h.symm⟩
      · intro h0
        rw [if_neg (hok1 h0)] at h
        exact ⟨hok1 h0, h⟩
    have kdl := key false dl hdl
    have kdu := key true du hdu
    have fl0 : ∀ up r, (if y = 0 then 0 else quoI up x y) = r → ok = true → nrm r 0 = nrm (quoI up (intD (nrm x 0)) (intD (nrm y 0))) 0 := fun up r h h0 => by
      rw [intD_nrm, intD_nrm, ((key up r h).2 h0).2]
    have bfl : ∀ up, Hid (Bnd 100000 (nrm (quoI up (intD (nrm x 0)) (intD (nrm y 0))) 0)) := fun up => by
      rw [intD_nrm, intD_nrm]
      by_cases h0 : y = 0
      · subst h0
        have e : quoI up x 0 = 0 := by unfold quoI floorI; cases up <;> simp
        rw [e]
        exact bnd_zero _
      · exact bd _ (K + 1) (lq up h0) (by omega)
    have hsx := nrm_sgn0 x
    have hsy := nrm_sgn0 y
    have hz : ((nrm y 0).z.sign == 0) = !ok := by
      rw [hsy, ← hok, Bool.eq_iff_iff]
      have := sign_of y
      simp
    have hsg : (x.sign < 0 ∧ (if x < 0 then (⟨#[45]⟩ : ByteArray) else ⟨#[]⟩) = ⟨#[45]⟩) ∨ (¬ x.sign < 0 ∧ (if x < 0 then (⟨#[45]⟩ : ByteArray) else ⟨#[]⟩) = ⟨#[]⟩) := by
      have := sign_of x
      by_cases h0 : x < 0
      · exact .inl ⟨by omega, if_pos h0⟩
      · exact .inr ⟨by omega, if_neg h0⟩
    have hcat : (if x < 0 then (⟨#[45]⟩ : ByteArray) else ⟨#[]⟩) ++ ⟨(Lib.decDigits (val xs)).toArray⟩ = ⟨((if x < 0 then [45] else []) ++ Lib.decDigits x.natAbs).toArray⟩ := by
      rw [hxa]
      by_cases h0 : x < 0
      · rw [if_pos h0, if_pos h0]; apply ByteArray.ext; simp
      · rw [if_neg h0, if_neg h0]; apply ByteArray.ext; simp
    cases ok with
    | false =>
      exact wtells_in0 n1 n2 A B _ c _ d (val xs) 100000 xs ys x y v dl du (-x) (x + y) (x - y) (x * y) (x * y * y) (x + y + x) x.sign (nrm y 0).z.sign (cmpI x y) (nrm x 0) (nrm y 0) _ _ (nrm (-x) 0) (nrm (x + y) 0) (nrm (x - y) 0) (nrm (x * y) 0) (nrm (x * y * y) 0) (nrm (x + y + x) 0) (nrm v 0) _ _ _ w (by omega)
        htab (Lib.hid hl) (Lib.hid hA.1) (Lib.hid hA.2) (Lib.hid rfl) hc h2.1 (Lib.hid hB.1) (Lib.hid hB.2) (Lib.hid rfl) hd h2.2 hxv hyv HA0
        (Lib.hid rfl) (Lib.hid rfl) hsx (Lib.hid rfl) (Lib.hid rfl) hz (Lib.hid rfl)
        kdl kdu hfx (Lib.hid rfl) (Lib.hid rfl) (fl0 false dl hdl) (fl0 true du hdu) (fun h0 => (fun hc => hok1 h0 (Int.sign_eq_zero_iff_zero.1 (hsy ▸ (by rw [hc]; rfl))))) (fun h0 => ⟨by rw [(kdl.1 h0).2]; rfl, by rw [(kdu.1 h0).2]; rfl⟩) (nrm_e0 x) (nrm_e0 y)
        hsg (Lib.hid rfl) (nrm_cmp0 x y)
        (Lib.hid rfl) (nrm_neg0 x) (Lib.hid rfl) (Lib.hid rfl) (nrm_add0 x y) (Lib.hid rfl) (Lib.hid rfl) (nrm_sub0 x y) (Lib.hid rfl) (Lib.hid rfl) (nrm_mul0 x y) (Lib.hid rfl) (Lib.hid rfl) (nrm_mul0 _ y) (Lib.hid rfl) (Lib.hid rfl) (nrm_add0 _ x) (Lib.hid rfl)
        (Lib.hid rfl) hv64
        (fw _ (K + 1) la (by omega)) (fw _ (K + 1) ls (by omega)) (fw _ (2 * K) lm (by omega)) (fw _ (3 * K) lmm (by omega)) (fw _ (K + 2) laa (by omega)) hfn dx dn
        (Lib.hid rfl) (Lib.hid rfl) hcat
        (nrm_can _ _) (nrm_can _ _) (nrm_can _ _) B0 (bd _ K hX (by omega)) (bd _ K hY (by omega)) (bfl false) (bfl true) (bd _ K (by omega) (by omega)) (bd _ (K + 1) la (by omega)) (bd _ (K + 1) ls (by omega)) (bd _ (2 * K) lm (by omega)) (bd _ (3 * K) lmm (by omega)) (bd _ (K + 2) laa (by omega)) (bd _ 64 lv (by omega))
    | true =>
      exact wtells_in1 n1 n2 A B _ c _ d (val xs) 100000 xs ys x y v dl du (-x) (x + y) (x - y) (x * y) (x * y * y) (x + y + x) x.sign (nrm y 0).z.sign (cmpI x y) (nrm x 0) (nrm y 0) _ _ (nrm (-x) 0) (nrm (x + y) 0) (nrm (x - y) 0) (nrm (x * y) 0) (nrm (x * y * y) 0) (nrm (x + y + x) 0) (nrm v 0) _ _ _ w (by omega)
        htab (Lib.hid hl) (Lib.hid hA.1) (Lib.hid hA.2) (Lib.hid rfl) hc h2.1 (Lib.hid hB.1) (Lib.hid hB.2) (Lib.hid rfl) hd h2.2 hxv hyv HA0
        (Lib.hid rfl) (Lib.hid rfl) hsx (Lib.hid rfl) (Lib.hid rfl) hz (Lib.hid rfl)
        kdl kdu hfx (Lib.hid rfl) (Lib.hid rfl) (fl0 false dl hdl) (fl0 true du hdu) (fun h0 => (fun hc => hok1 h0 (Int.sign_eq_zero_iff_zero.1 (hsy ▸ (by rw [hc]; rfl))))) (fun h0 => ⟨by rw [(kdl.1 h0).2]; rfl, by rw [(kdu.1 h0).2]; rfl⟩) (nrm_e0 x) (nrm_e0 y)
        hsg (Lib.hid rfl) (nrm_cmp0 x y)
        (Lib.hid rfl) (nrm_neg0 x) (Lib.hid rfl) (Lib.hid rfl) (nrm_add0 x y) (Lib.hid rfl) (Lib.hid rfl) (nrm_sub0 x y) (Lib.hid rfl) (Lib.hid rfl) (nrm_mul0 x y) (Lib.hid rfl) (Lib.hid rfl) (nrm_mul0 _ y) (Lib.hid rfl) (Lib.hid rfl) (nrm_add0 _ x) (Lib.hid rfl)
        (Lib.hid rfl) hv64
        (fw _ (K + 1) la (by omega)) (fw _ (K + 1) ls (by omega)) (fw _ (2 * K) lm (by omega)) (fw _ (3 * K) lmm (by omega)) (fw _ (K + 2) laa (by omega)) hfn dx dn
        (Lib.hid rfl) (Lib.hid rfl) hcat
        (nrm_can _ _) (nrm_can _ _) (nrm_can _ _) B0 (bd _ K hX (by omega)) (bd _ K hY (by omega)) (bfl false) (bfl true) (bd _ K (by omega) (by omega)) (bd _ (K + 1) la (by omega)) (bd _ (K + 1) ls (by omega)) (bd _ (2 * K) lm (by omega)) (bd _ (3 * K) lmm (by omega)) (bd _ (K + 2) laa (by omega)) (bd _ 64 lv (by omega))
end Go.Proofs.YtigpnopeacicpaaDoor
