/-
  nat.root.
-/
import Derived.Test.YtphjcphcgnjogaaDoorNatM
namespace Go.Proofs.YtphjcphcgnjogaaDoor
open Go.RowKit

theorem rootN_lt {a : Nat} (h : 2 ≤ a) : rootN a < a := by
  have := (rootN_is a).1
  apply Nat.lt_of_not_le
  intro h2
  have h3 := Nat.mul_le_mul h2 h2
  have h4 : 2 * a ≤ a * a := Nat.mul_le_mul_right _ h
  omega
theorem LimbsAt.inj {w : World} {u : Value} {xs ys : List Nat} (h : LimbsAt w u xs) (h' : LimbsAt w u ys) : xs = ys := by
  obtain ⟨A, c, rfl, r1, _, _⟩ := h.shape
  obtain ⟨A', c', e, r2, _, _⟩ := h'.shape
  injection e with e1 e2 _
  subst e1
  apply List.ext_getElem e2
  intro k h1 h2
  obtain ⟨b, o, rfl, c1⟩ := r1 k h1
  obtain ⟨b', o', e', c2⟩ := r2 k h2
  injection e' with e'
  injection e' with e3 e4 _
  subst e3 e4
  rw [c1] at c2
  injection c2 with c2
  injection c2 with _ c2
  have c3 : xs[k]?.getD 0 = ys[k]?.getD 0 := by omega
  rw [List.getElem?_eq_getElem h1, List.getElem?_eq_getElem h2] at c3
  exact c3
open Classical in
/-- The number that a row of its own holds. -/
noncomputable def valAt (w : World) (u : Value) : Nat := if h : ∃ n, LimbsAt w u (limbsOf n) then h.choose else 0
theorem valAt_eq {w : World} {u : Value} {n : Nat} (h : LimbsAt w u (limbsOf n)) : valAt w u = n := by
  have he : ∃ n, LimbsAt w u (limbsOf n) := ⟨n, h⟩
  unfold valAt
  rw [dif_pos he]
  exact limbsOf_inj (he.choose_spec.inj h)
theorem limbsOf_succ_len (a : Nat) : (limbsOf (a + 1)).length ≤ (limbsOf a).length + 1 := by
  apply limbsOf_len_le
  have h1 := lt_limbsOf a
  have h2 : BB ^ (limbsOf a).length * 2 ≤ BB ^ (limbsOf a).length * BB := Nat.mul_le_mul_left _ BB_two
  have h3 := BB_pow_pos (limbsOf a).length
  rw [Nat.pow_succ]
  omega
theorem limbsOf_shl_len (a h : Nat) : (limbsOf (a * 2 ^ h)).length ≤ (limbsOf a).length + (h / 64 + 1) := by
  apply limbsOf_len_le
  have h1 := lt_limbsOf a
  have h2 : a * 2 ^ h < BB ^ (limbsOf a).length * 2 ^ h := Nat.mul_lt_mul_of_pos_right h1 (Nat.pow_pos (by omega))
  have h3 : BB ^ (limbsOf a).length * 2 ^ h ≤ BB ^ (limbsOf a).length * BB ^ (h / 64 + 1) := by
    refine Nat.mul_le_mul_left _ ?_
    rw [BB_pow, ← Nat.pow_mul]
    exact Nat.pow_le_pow_right (by omega) (by omega)
  rw [Nat.pow_add]
  omega
/-- What root is asked for at numbers below N. -/
def RootAll (N : Nat) : Prop := ∀ (A : Option Addr) (c : Nat) (xs : List Nat) (w : World), Hid (Arg w A xs) → xs.length ≤ c → Hid (Canon xs) → val xs < N → (xs.length : Int) ≤ 1000000 → Calls Tryd.prog 75 #[.slice A xs.length c] w (NPost (rootN (val xs)) w)

set_option maxHeartbeats 1600000 in
set_option maxRecDepth 100000 in
theorem root_step (N : Nat) (ih : RootAll N) : RootAll (N + 1) := by
  intro A c xs w hA hc hcan hN hl
  by_cases h2 : xs.length < 2
  · have hi : (xs.length : Int) < 2 := by omega
    have HL : Hid ((xs.length : Int) ≤ 1) := by show (xs.length : Int) ≤ 1; omega
    have HB : Hid (rootN (val xs) < BB) := by
      have h1 := (rootN_is (val xs)).1
      have h2 := val_lt hA.out.limb
      have h3 : BB ^ xs.length ≤ BB ^ 1 := pow_le (by omega)
      rw [Nat.pow_one] at h3
      have h4 := Nat.le_mul_self (rootN (val xs))
      show _ < _
      exact Nat.lt_of_le_of_lt (Nat.le_trans h4 h1) (Nat.lt_of_lt_of_le h2 h3)
    clear h2
    go_enter Tryd.func75, Tryd.ntmps75
    go_wp2_with fail
    refine (limbRoot_any A c xs _ hA HL.out hcan).mono ?_
    rintro e w1 ⟨rfl, ho1⟩
    have HO1 := Lib.hid ho1
    clear ho1
    go_wp2_with fail
    refine (of_one (rootN (val xs)) w1 HB).mono ?_
    rintro e w2 ⟨u, rfl, hu, _, ho2⟩
    have HU := Lib.hid hu
    have HO2 := Lib.hid ho2
    clear hu ho2
    go_wp2_with fail
    go_ret
    exact ⟨u, rfl, HU.out.pre HO1.out.size, HO1.out.nil_trans HO2.out⟩
  · have hi : ¬ (xs.length : Int) < 2 := by omega
    obtain ⟨h, hh⟩ : ∃ h, bitsN (val xs) / 4 = h := ⟨_, rfl⟩
    have hq1 : (bitsN (val xs) : Int) / 4 = (h : Int) := by omega
    have hq2 : (bitsN (val xs) : Int).tdiv 4 = (h : Int) := by rw [Int.tdiv_eq_ediv_of_nonneg (by omega)]; exact hq1
    obtain ⟨k, hk⟩ : ∃ k, xs.length = k + 1 := ⟨xs.length - 1, by omega⟩
    have htop : xs[k]?.getD 0 ≠ 0 := by
      have h := hcan.out (by omega)
      rw [List.getElem?_eq_getElem (by omega)]
      simpa [hk] using h
    have hbt := bitsN_top hA.out.limb hk htop
    have htb := hA.out.limb.get k
    rw [BB_pow] at htb
    have hbl := Lib.bitLen_le _ 64 (by omega) htb
    have hbb : (bitsN (val xs) : Int) ≤ 64000000 := by omega
    have hh16 : 16 ≤ h := by omega
    obtain ⟨n2, hn2⟩ : ∃ n2, 2 * h = n2 := ⟨_, rfl⟩
    have hni : 2 * (h : Int) = (n2 : Int) := by omega
    have HLen := Lib.hid hl
    have HN2 : Hid (n2 = (n2 / 64) * 64 + n2 % 64) := by show _ = _; omega
    have HN3 : Hid (n2 % 64 < 64) := Nat.mod_lt _ (by omega)
    have HN4 : Hid ((((n2 / 64 : Nat)) : Int) ≤ 1000000000) := by show (((n2 / 64 : Nat)) : Int) ≤ _; omega
    have HH2 : Hid (h = (h / 64) * 64 + h % 64) := by show _ = _; omega
    have HH3 : Hid (h % 64 < 64) := Nat.mod_lt _ (by omega)
    have HH4 : Hid ((((h / 64 : Nat)) : Int) ≤ 1000000) := by show (((h / 64 : Nat)) : Int) ≤ _; omega
    have HE2 := Lib.hid hn2
    obtain ⟨V1, hV1⟩ : ∃ V1, val xs / 2 ^ n2 = V1 := ⟨_, rfl⟩
    have HV1 := Lib.hid hV1
    have HV1l : Hid (V1 < N) := by
      have h1 : val xs ≠ 0 := by
        intro h0
        rw [h0] at hbt
        have : bitsN 0 = 0 := rfl
        omega
      have h3 : 2 ≤ 2 ^ n2 := by
        have : 2 ^ 1 ≤ 2 ^ n2 := Nat.pow_le_pow_right (by omega) (by omega)
        omega
      have h4 : val xs / 2 ^ n2 < val xs := Nat.div_lt_self (by omega) h3
      show _ < _
      omega
    have HV1n : Hid (((limbsOf V1).length : Int) ≤ 1000000) := by
      have h1 := limbsOf_len_mono (m := V1) (n := val xs) (by rw [← hV1]; exact Nat.div_le_self _ _)
      have h2 := limbsOf_len hA.out.limb
      show (_ : Int) ≤ _
      omega
    have HIs := Lib.hid (rootN_is (val xs))
    have HGuess : Hid (rootN (val xs) ≤ (rootN V1 + 1) * 2 ^ h) := by
      have := root_guess (h := h) HIs.out
      rw [hn2, hV1] at this
      exact this
    clear hbt htb hbl htop hk hh hn2 hV1 h2
    go_enter Tryd.func75, Tryd.ntmps75
    go_wp2_with fail
    refine (nbits_any A c xs _ hA hc).mono ?_
    rintro e w1 ⟨rfl, rfl⟩
    go_wp2_with fail
    refine (right_any A c n2 (n2 / 64) (n2 % 64) xs _ hA HN2 HN3 HN4.out).mono ?_
    rintro e w1 ⟨ua, rfl, hra, hoa⟩
    rw [HV1.out] at hra
    obtain ⟨A1, c1, q1, rfl, hq1', hqc1, hA1, hf1⟩ := hra.shape2 (by have := HV1n.out; omega)
    have HO1 := Lib.hid hoa
    have HA1 := Lib.hid hA1
    have HQ1 := Lib.hid hq1'
    clear hra hoa hA1 hf1 hq1'
    go_wp2_with fail
    have hrec := ih A1 c1 (limbsOf V1) w1 HA1 (by rw [HQ1.out]; exact hqc1) (canon_limbsOf V1) (by rw [val_limbsOf]; exact HV1l.out) HV1n.out
    rw [HQ1.out, val_limbsOf] at hrec
    refine hrec.mono ?_
    clear hrec
    rintro e w2 ⟨ub, rfl, hrb, hob⟩
    obtain ⟨R1, hR1⟩ : ∃ R1, rootN V1 = R1 := ⟨_, rfl⟩
    rw [hR1] at HGuess hrb
    have HR1l : Hid ((limbsOf R1).length ≤ (limbsOf V1).length) := by
      apply limbsOf_len_mono
      have h1 := (rootN_is V1).1
      rw [hR1] at h1
      exact Nat.le_trans (Nat.le_mul_self R1) h1
    obtain ⟨A2, c2, q2, rfl, hq2', hqc2, hA2, hf2⟩ := hrb.shape2 (by have := HV1n.out; have := HR1l.out; omega)
    have HO2 := Lib.hid hob
    have HA2 := Lib.hid hA2
    have HQ2 := Lib.hid hq2'
    clear hrb hob hA2 hf2 hq2' hR1
    go_wp2_with fail
    obtain ⟨w3, hw3⟩ : ∃ w3, w2.alloc (Obj.cells #[.int .u64 1] 64) = w3 := ⟨_, rfl⟩
    have HOa : Hid (Only [] w2 w3) := by
      show Only [] w2 w3
      rw [← hw3]
      exact (Only.refl [] w2).alloc _
    have HB3 : Hid (Arg w3 (some ⟨w2.heap.size, 0, none⟩) [1]) := by
      show Arg w3 _ _
      rw [← hw3]
      exact ⟨.of_blk (Blk.new w2 64 (limbV [1])), limb_one (by rw [BB_val]; omega), by simp⟩
    have HA3 := Lib.hid (HA2.out.only HOa.out)
    rw [hw3]
    clear hw3
    have hadd := nadd_any A2 (some ⟨w2.heap.size, 0, none⟩) c2 1 (limbsOf R1) [1] w3 HA3 HB3 (by have := HV1n.out; have := HR1l.out; omega) (by simp)
    rw [HQ2.out, val_limbsOf, show val [1] = 1 by simp [val]] at hadd
    refine hadd.mono ?_
    clear hadd
    rintro e w4 ⟨uc, rfl, hrc, hoc⟩
    have HS1 := Lib.hid (limbsOf_succ_len R1)
    obtain ⟨A4, c4, q4, rfl, hq4', hqc4, hA4, hf4⟩ := hrc.shape2 (by have := HS1.out; have := HV1n.out; have := HR1l.out; omega)
    have HO4 := Lib.hid hoc
    have HA4 := Lib.hid hA4
    have HQ4 := Lib.hid hq4'
    clear hrc hoc hA4 hf4 hq4'
    go_wp2_with fail
    have hleft := left_any A4 c4 h (h / 64) (h % 64) (limbsOf (R1 + 1)) w4 HA4 HH2 HH3 (by have := HS1.out; have := HV1n.out; have := HR1l.out; have := HH4.out; omega)
    rw [HQ4.out, val_limbsOf] at hleft
    refine hleft.mono ?_
    clear hleft
    rintro e w5 ⟨ud, rfl, hrd, hod⟩
    have HOd : Hid (Only [] w w5) := (((HO1.out.nil_trans HO2.out).nil_trans HOa.out).nil_trans HO4.out).nil_trans hod
    have HL0 : Hid (((limbsOf ((R1 + 1) * 2 ^ h)).length : Int) ≤ 2100000) := by
      have h1 := limbsOf_shl_len (R1 + 1) h
      have := HS1.out
      have := HV1n.out
      have := HR1l.out
      have := HH4.out
      show (_ : Int) ≤ _
      omega
    have HRd := Lib.hid (hrd.pre (w0 := w) ((((HO1.out.nil_trans HO2.out).nil_trans HOa.out).nil_trans HO4.out)).size)
    obtain ⟨R0, hR0⟩ : ∃ R0, (R1 + 1) * 2 ^ h = R0 := ⟨_, rfl⟩
    rw [hR0] at HL0 HRd HGuess
    obtain ⟨rt, hrt⟩ : ∃ rt, rootN (val xs) = rt := ⟨_, rfl⟩
    rw [hrt] at HIs HGuess
    have HRt := Lib.hid hrt
    clear hrd hod hR0 hrt
    go_wp2_with fail
    have HX0 : Hid (0 < rt) := by
      apply Nat.pos_of_ne_zero
      intro h0
      have h1 := HIs.out.2
      rw [h0] at h1
      have h2 : val xs = 0 := by omega
      rw [h2] at hq1
      have h3 : bitsN 0 = 0 := rfl
      rw [h3] at hq1
      omega
    go_loopw [4] (fun rv wr => ∃ R : Nat, Res w wr rv R ∧ rt ≤ R ∧ R ≤ R0 ∧ Only [] w wr) (fun rv wr => valAt wr rv)
    case atStart => exact ⟨R0, HRd.out, HGuess.out, Nat.le_refl _, HOd.out⟩
    case round =>
      obtain ⟨R, hres, hr1, hr2, hor⟩ := hrel
      have HMe := Lib.hid (valAt_eq hres.at_)
      have HRn : Hid (((limbsOf R).length : Int) ≤ 2100000) := by
        have h1 := limbsOf_len_mono hr2
        have := HL0.out
        show (_ : Int) ≤ _
        omega
      have HRes := Lib.hid hres
      obtain ⟨Ar, cr, qr, rfl, hqr, hqcr, hAr, hfr⟩ := hres.shape2 (by have := HRn.out; omega)
      have HR12 : Hid (rt ≤ R ∧ R ≤ R0) := ⟨hr1, hr2⟩
      have HOr := Lib.hid hor
      have HAr := Lib.hid hAr
      have HQr := Lib.hid hqr
      have HRp : Hid (0 < R) := Nat.lt_of_lt_of_le HX0.out hr1
      have HDone := Lib.hid (newton_done HRp.out HIs.out hr1)
      have HStep := Lib.hid (newton_step HRp.out HIs.out hr1)
      clear hres hr1 hr2 hor hAr hfr hqr
      go_wp2_with fail
      have hdm := divMod_any A Ar c cr xs (limbsOf R) wr (Lib.hid (hA.out.only HOr.out)) HAr hc (by rw [HQr.out]; exact hqcr) (by omega)
      rw [HQr.out] at hdm
      refine hdm.mono ?_
      clear hdm
      rintro e w6 ⟨uq, ur, rfl, hq6, _, _, ho6⟩
      rw [val_limbsOf] at hq6 ⊢
      obtain ⟨Q, hQ⟩ : ∃ Q, val xs / R = Q := ⟨_, rfl⟩
      rw [hQ] at hq6 HDone HStep
      have HQn : Hid (((limbsOf Q).length : Int) ≤ 1000000) := by
        have h1 := limbsOf_len_mono (m := Q) (n := val xs) (by rw [← hQ]; exact Nat.div_le_self _ _)
        have h2 := limbsOf_len hA.out.limb
        show (_ : Int) ≤ _
        omega
      obtain ⟨Aq, cq, qq, rfl, hqq, hqcq, hAq, hfq⟩ := hq6.shape2 (by have := HQn.out; omega)
      have HO6 := Lib.hid ho6
      have HAq := Lib.hid hAq
      have HQq := Lib.hid hqq
      have HAr6 := Lib.hid (HAr.out.only ho6)
      have HR6 := Lib.hid (HRes.out.nil ho6)
      clear hq6 ho6 hAq hfq hqq hQ
      go_wp2_with fail
      have hcm := ncmp_any Aq Ar cq cr (limbsOf Q) (limbsOf R) w6 HAq HAr6 (by rw [HQq.out]; exact hqcq) (by rw [HQr.out]; exact hqcr)
      rw [HQq.out, HQr.out, cmp_self] at hcm
      by_cases hle : R ≤ Q
      · have hcz : (0 : Int) ≤ cmpZ Q R := by
          rcases Nat.lt_or_eq_of_le hle with h | h
          · rw [cmp_gt h]; omega
          · rw [cmp_eq h.symm]; omega
        have HE : Hid (R = rt) := HDone.out hle
        clear hle
        refine hcm.mono ?_
        clear hcm
        rintro e w7 ⟨rfl, ho7⟩
        have HO7 := Lib.hid ho7
        clear ho7
        go_wp2_with fail
        go_ret
        exact ⟨_, rfl, by rw [HRt.out, ← HE.out]; exact HR6.out.nil HO7.out, (HOr.out.nil_trans HO6.out).nil_trans HO7.out⟩
      · have hcz : ¬ (0 : Int) ≤ cmpZ Q R := by rw [cmp_le (by omega)]; omega
        have HG := Lib.hid (HStep.out (by omega))
        clear hle
        refine hcm.mono ?_
        clear hcm
        rintro e w7 ⟨rfl, ho7⟩
        have HO7 := Lib.hid ho7
        have HAr7 := Lib.hid (HAr6.out.only ho7)
        have HAq7 := Lib.hid (HAq.out.only ho7)
        clear ho7
        go_wp2_with fail
        have hadd := nadd_any Ar Aq cr cq (limbsOf R) (limbsOf Q) w7 HAr7 HAq7 (by have := HRn.out; omega) (by have := HQn.out; omega)
        rw [HQr.out, HQq.out, val_limbsOf, val_limbsOf] at hadd
        refine hadd.mono ?_
        clear hadd
        rintro e w8 ⟨us, rfl, hr8, ho8⟩
        have HSn : Hid (((limbsOf (R + Q)).length : Int) ≤ 3200000) := by
          have h1 : (limbsOf (R + Q)).length ≤ (limbsOf R).length + (limbsOf Q).length + 1 := by
            apply limbsOf_len_le
            have a1 := lt_limbsOf R
            have a2 := lt_limbsOf Q
            have a3 : BB ^ (limbsOf R).length ≤ BB ^ ((limbsOf R).length + (limbsOf Q).length) := pow_le (by omega)
            have a4 : BB ^ (limbsOf Q).length ≤ BB ^ ((limbsOf R).length + (limbsOf Q).length) := pow_le (by omega)
            have a5 := Nat.mul_le_mul_left (BB ^ ((limbsOf R).length + (limbsOf Q).length)) BB_two
            rw [Nat.pow_succ]
            omega
          have := HRn.out
          have := HQn.out
          show (_ : Int) ≤ _
          omega
        obtain ⟨As, cs, qs, rfl, hqs, hqcs, hAs, hfs⟩ := hr8.shape2 (by have := HSn.out; omega)
        have HO8 := Lib.hid ho8
        have HAs := Lib.hid hAs
        have HQs := Lib.hid hqs
        clear hr8 ho8 hAs hfs hqs
        go_wp2_with fail
        have hrt := right_any As cs 1 0 1 (limbsOf (R + Q)) w8 HAs (Lib.hid (by omega)) (Lib.hid (by omega)) (by omega)
        rw [HQs.out, val_limbsOf, Nat.pow_one] at hrt
        refine hrt.mono ?_
        clear hrt
        rintro e w9 ⟨u9, rfl, hr9, ho9⟩
        have HR9 := Lib.hid hr9
        have HO9 := Lib.hid ho9
        clear hr9 ho9
        go_wp2_with fail
        have HOall : Hid (Only [] w w9) := (((HOr.out.nil_trans HO6.out).nil_trans HO7.out).nil_trans HO8.out).nil_trans HO9.out
        go_roundw
        case rel => exact ⟨_, HR9.out.pre ((((HOr.out.nil_trans HO6.out).nil_trans HO7.out).nil_trans HO8.out)).size, HG.out.1, by have := HG.out.2; have := HR12.out.2; omega, HOall.out⟩
        case measure => rw [HMe.out, valAt_eq HR9.out.at_]; exact HG.out.2

theorem root_all : ∀ N : Nat, RootAll N
  | 0 => fun _ _ _ _ _ _ _ h _ => absurd h (Nat.not_lt_zero _)
  | N + 1 => root_step N (root_all N)
theorem root_any (A : Option Addr) (c : Nat) (xs : List Nat) (w : World) (hA : Hid (Arg w A xs)) (hc : xs.length ≤ c) (hcan : Hid (Canon xs)) (hl : (xs.length : Int) ≤ 1000000) :
    Calls Tryd.prog 75 #[.slice A xs.length c] w (NPost (rootN (val xs)) w) := root_all (val xs + 1) A c xs w hA hc hcan (Nat.lt_succ_self _) hl
end Go.Proofs.YtphjcphcgnjogaaDoor
