/-
  Joined texts.
-/
import Derived.Test.YtigpnopeacicpaaDoorTwJ16
import Derived.Test.YtigpnopeacicpaaDoorTwJ6
import Derived.Laws.BytesArg
import Derived.Test.YtigpnopeacicpaaDoorTwJ21
import Derived.Test.YtigpnopeacicpaaDoorTwJ12
import Derived.Test.YtigpnopeacicpaaDoorTwJ8
/-
  The reference's numbers: their decimal digits (Text, Digits).
-/
namespace Go.Proofs.YtigpnopeacicpaaDoor
open Go.RowKit Go.Lib

def dg (v : Nat) : List UInt8 := if v = 0 then [] else decDigits v

theorem dg_zero : dg 0 = [] := rfl

theorem dg_pos {v : Nat} (h : v ≠ 0) : dg v = decDigits v := by unfold dg; rw [if_neg h]

def DQ (q k v : Nat) : List UInt8 := if q ≠ 0 then padL (9 - k) v else dg v

theorem DQ_step {q k v : Nat} (hk : k < 9) (h : v ≠ 0 ∨ q ≠ 0) : DQ q k v = DQ q (k + 1) (v / 10) ++ [UInt8.ofNat (48 + v % 10)] := by
  unfold DQ
  by_cases hq : q ≠ 0
  · rw [if_pos hq, if_pos hq, show 9 - k = (9 - (k + 1)) + 1 by omega, padL]
  · rw [if_neg hq, if_neg hq]
    have hv : v ≠ 0 := by rcases h with h | h <;> omega
    rw [dg_pos hv]
    by_cases h10 : v < 10
    · rw [dec_small h10, show v / 10 = 0 by omega, dg_zero, Nat.mod_eq_of_lt h10]
      rfl
    · rw [dec_step h10, dg_pos (by omega)]

theorem DQ_nine {q v : Nat} (hv : v < 1) : DQ q 9 v = [] := by
  unfold DQ
  split
  · rfl
  · rw [show v = 0 by omega]; rfl

theorem DQ_none {k : Nat} : DQ 0 k 0 = [] := rfl

theorem dg_chunk {m : Nat} (h : m ≠ 0) : dg m = dg (m / 1000000000) ++ DQ (m / 1000000000) 0 (m % 1000000000) := by
  have e := Nat.mod_add_div m 1000000000
  have hr := Nat.mod_lt m (show 0 < 1000000000 by omega)
  rw [dg_pos h]
  unfold DQ
  by_cases hq : m / 1000000000 = 0
  · rw [if_neg (by omega), hq, dg_zero, List.nil_append]
    rw [hq] at e
    rw [dg_pos (by omega), show m % 1000000000 = m by omega]
  · rw [if_pos hq, dg_pos hq]
    have := dec_pad 9 (m / 1000000000) (m % 1000000000) hq (by omega)
    rw [show (10 : Nat) ^ 9 = 1000000000 by decide, e] at this
    exact this

theorem dg_len {m n : Nat} {s : List UInt8} (h : dg m ++ s = dg n) : s.length ≤ (dg n).length := by rw [← h, List.length_append]; omega

theorem dg_dec (n : Nat) : (dg n).length ≤ (decDigits n).length := by
  by_cases h : n = 0
  · subst h; simp [dg_zero]
  · rw [dg_pos h]; exact Nat.le_refl _

theorem rdivmod_1 {w : World} {a b : Value} {m n : Nat} (ha : Hid (RV w a m)) (hb : Hid (RV w b n)) (hfa : Hid (Few m)) (hn : 0 < n) (hb1 : n < R.BB) : Calls Tryd.prog 53 #[a, b] w (RDPost m n w) := by
  have hl : (R.limbsOf n).length = 1 := by
    have h1 := R.limbsOf_len_le (n := n) (k := 1) (by rw [Nat.pow_one]; exact hb1)
    have h2 : (R.limbsOf n).length ≠ 0 := fun h => by rw [R.limbsOf_len0] at h; omega
    omega
  have hfb : Hid (Few n) := few_small (by rw [R.BB_val] at hb1; rw [BB_val]; omega)
  by_cases hlt : m < n
  · exact rdivmod_lt ha hb hfa hfb (Lib.hid hlt)
  · exact rdivmod_one ha hb hfa hfb (Lib.hid (by omega)) (Lib.hid hl)

def strSize : Value → Nat
  | .string s => s.size
  | _ => 0

theorem byte_str (w : World) (z : Nat) : (convert 108 9 (.slice (some ⟨w.heap.size, 0, none⟩) 1 1)).run Tryd.prog (w.alloc (.cells #[.int .u8 (z : Int)] 5)) = .ok (.string ⟨#[UInt8.ofNat z]⟩) (w.alloc (.cells #[.int .u8 (z : Int)] 5)) := by
  have hb := Blk.new w 5 [.int .u8 (z : Int)]
  have h := run_convert_bytes_arg (P := Tryd.prog) (w.alloc (.cells #[.int .u8 (z : Int)] 5)) 108 5 Tryd.underlying108 Tryd.underlying5 w.heap.size 0 1 1 [(z : Int)] rfl (fun i hi => by
    obtain rfl : i = 0 := by omega
    simp) 9 Tryd.underlying9
  rw [h]
  rfl

def RTPost (n : Nat) (w : World) (e : Ending) (w' : World) : Prop := e = .returned (.string ⟨(decDigits n).toArray⟩) ∧ Only [] w w'

theorem dg_end {n : Nat} {s : List UInt8} (h : dg 0 ++ s = dg n) : (if s = [] then [48] else s) = decDigits n := by
  rw [dg_zero, List.nil_append] at h
  subst h
  by_cases h0 : n = 0
  · subst h0; rw [dg_zero, if_pos rfl, dec_small (by omega)]; rfl
  · rw [dg_pos h0, if_neg]
    intro hc
    have h1 := decDigits_length n
    rw [hc] at h1
    have := nDigits_pos n
    simp at h1
    omega

theorem DQ_pos {m : Nat} (h : m ≠ 0) : 0 < (DQ (m / 1000000000) 0 (m % 1000000000)).length := by
  unfold DQ
  by_cases hq : m / 1000000000 = 0
  · rw [if_neg (by omega), dg_pos (by omega), decDigits_length]
    exact nDigits_pos _
  · rw [if_pos hq, padL_length]; omega

theorem cat_str (a b : List UInt8) : (⟨a.toArray⟩ : ByteArray) ++ ⟨b.toArray⟩ = ⟨(a ++ b).toArray⟩ := by
  apply ByteArray.ext
  simp

set_option maxHeartbeats 3200000 in
set_option maxRecDepth 100000 in
theorem rtext_v {w : World} {a : Value} {n : Nat} (ha : Hid (RV w a n)) (hf : Hid (Few n)) (hd : Hid ((decDigits n).length ≤ 1000000)) : Calls Tryd.prog 31 #[a] w (RTPost n w) := by
  obtain ⟨A0, c0, rfl, -, -⟩ := id ha.out
  have HDl : Hid ((dg n).length ≤ 1000000) := Nat.le_trans (dg_dec n) hd.out
  go_enter Tryd.func31, Tryd.ntmps31
  go_wp2_with fail
  refine (rsmall_any 1000000000 w (Lib.hid (by rw [BB_val]; decide))).mono ?_
  rintro e w1 ⟨A1, k1, c1, rfl, hv1, -, ho1⟩
  have HV1 := Lib.hid hv1
  have HO1 := Lib.hid ho1
  have HA1 := Lib.hid (ha.out.only ho1)
  clear hv1 ho1 ha
  go_wp2_with fail
  go_loopw [0, 3] (fun av sv wr => ∃ (A : Option Addr) (k c m : Nat) (s : List UInt8), av = .slice A k c ∧ RV wr (.slice A k c) m ∧ sv = .string ⟨s.toArray⟩ ∧ dg m ++ s = dg n ∧ m ≤ n ∧ Only [] w1 wr) (fun _ sv _ => (dg n).length - strSize sv)
  case atStart => exact ⟨A0, _, c0, n, [], rfl, HA1.out, rfl, by simp, Nat.le_refl _, Only.refl _ _⟩
  case round =>
    obtain ⟨A, k, c, m, s, rfl, hv, rfl, hs, hmn, ho⟩ := hrel
    have HV := Lib.hid hv
    have HS := Lib.hid hs
    have HO := Lib.hid ho
    have HM := Lib.hid hmn
    have HK : Hid (k = (R.limbsOf m).length) := by
      obtain ⟨A', c', e, _, _⟩ := hv
      injection e
    clear hv hs ho hmn
    by_cases h0 : m = 0
    · subst h0
      obtain rfl : k = 0 := by rw [HK.out, R.limbsOf_zero]; rfl
      have HE := Lib.hid (dg_end HS.out)
      clear HS
      cases hs0 : s.isEmpty
      · rw [if_neg (by intro hc; subst hc; simp at hs0)] at HE
        go_wp2_with fail
        go_ret
        exact ⟨by rw [← HE.out]; rfl, HO1.out.nil_trans HO.out⟩
      · obtain rfl := List.isEmpty_iff.1 hs0
        rw [if_pos rfl] at HE
        clear hs0
        go_wp2_with fail
        go_ret
        exact ⟨by rw [← HE.out]; rfl, HO1.out.nil_trans HO.out⟩
    · have hk0 : (0 : Int) < (k : Int) := by
        have : (R.limbsOf m).length ≠ 0 := fun h => h0 (R.limbsOf_len0.1 h)
        have := HK.out
        omega
      have HC := Lib.hid (dg_chunk h0)
      have HM0 := Lib.hid h0
      clear h0
      go_wp2_with fail
      refine (rdivmod_1 HV (Lib.hid (HV1.out.only HO.out)) (Lib.hid (hf.out.le HM.out)) (by omega) (by rw [R.BB_val]; omega)).mono ?_
      rintro e w2 ⟨A2, k2, c2, A3, k3, c3, rfl, hv2, hv3, -, ho2⟩
      have HO2 := Lib.hid (HO.out.nil_trans ho2)
      obtain ⟨q, hq⟩ : ∃ q, m / 1000000000 = q := ⟨_, rfl⟩
      obtain ⟨r, hr⟩ : ∃ r, m % 1000000000 = r := ⟨_, rfl⟩
      have hr9 : r < 1000000000 := by omega
      have hqm : q < m := by have := HM0.out; omega
      rw [hq] at hv2
      rw [hr] at hv3
      have HC' := HC.out
      rw [hq, hr] at HC'
      have HDp' := DQ_pos HM0.out
      rw [hq, hr] at HDp'
      have HDp := Lib.hid HDp'
      replace HC := Lib.hid HC'
      have HV2 := Lib.hid hv2
      have HQM := Lib.hid hqm
      have HR9 := Lib.hid hr9
      have HK2 : Hid (k2 = (R.limbsOf q).length) := by
        obtain ⟨A', c', e, _, _⟩ := hv2
        injection e
      have HQ0 : Hid (q ≠ 0 → 0 < k2) := fun h => by
        have : (R.limbsOf q).length ≠ 0 := fun h2 => h (R.limbsOf_len0.1 h2)
        have := HK2.out
        omega
      have HQ1 : Hid (q = 0 → k2 = 0) := fun h => by
        have := HK2.out
        rw [this, h, R.limbsOf_zero]
        rfl
      obtain ⟨A3', c3', e3, hl3, -⟩ := hv3
      injection e3 with e4 e5 e6
      subst e4 e5 e6
      clear hv2 ho2 hq hr hr9 hqm HK2 HC' HDp'
      by_cases hr0 : r = 0
      · subst hr0
        have hz : (R.limbsOf 0).length = 0 := by rw [R.limbsOf_zero]; rfl
        rw [hz]
        clear hz hl3
        go_wp2_with fail
        go_loopw [7, 8, 9] (fun vv pv kv wx => ∃ (j v : Nat) (pt : List UInt8), j ≤ 9 ∧ vv = .int .u64 (v : Int) ∧ pv = .string ⟨pt.toArray⟩ ∧ kv = .int .i64 (j : Int) ∧ DQ q j v ++ pt = DQ q 0 0 ∧ v < 10 ^ (9 - j) ∧ pt.length ≤ j ∧ Only [] w2 wx) (fun _ _ kv _ => 9 - (RowKit.intOf kv).toNat)
        case atStart => exact ⟨0, 0, [], by omega, rfl, rfl, rfl, by simp, HR9.out, by simp, Only.refl _ _⟩
        case round =>
          obtain ⟨j, v, pt, hj, rfl, rfl, rfl, hdq, hv9, hpl, hox⟩ := hrel
          have HDQ := Lib.hid hdq
          have HV9 := Lib.hid hv9
          have HOX := Lib.hid hox
          clear hdq hv9 hox
          by_cases hlt : j < 9
          · have hlti : (j : Int) < 9 := by omega
            by_cases hv0 : v = 0
            · have hvi : ¬ (0 : Int) < (v : Int) := by omega
              by_cases hq0 : q = 0
              · have hk2 : ¬ (0 : Int) < (k2 : Int) := by have := HQ1.out hq0; omega
                have HDE : Hid (DQ q j v = []) := by subst hq0 hv0; exact DQ_none
                clear hlt hv0 hq0
                have HPt : Hid (pt = DQ q 0 0) := by
                  have h := HDQ.out
                  rw [HDE.out, List.nil_append] at h
                  exact h
                have HLs := Lib.hid (dg_len HS.out)
                have HNew : Hid (dg q ++ (pt ++ s) = dg n) := by
                  show _ = _
                  rw [← List.append_assoc, HPt.out, ← HC.out]
                  exact HS.out
                have HLn := Lib.hid (dg_len HNew.out)
                have HPp : Hid (0 < pt.length) := by rw [HPt.out]; exact HDp.out
                have hcat : ¬ (9223372036854775807 : Int) < ((pt.length : Int) + (s.length : Int)) := by have := HLs.out; have := HDl.out; omega
                have hcat2 : ¬ 9223372036854775807 < pt.length + s.length := by have := HLs.out; have := HDl.out; omega
                clear HDQ HV9 HPt HC
                go_wp2_with fail
                go_roundw
                case rel => exact ⟨A2, k2, c2, q, pt ++ s, rfl, HV2.out.only HOX.out, by rw [cat_str], HNew.out, by have := HQM.out; have := HM.out; omega, HO2.out.nil_trans HOX.out⟩
                case measure =>
                  have h1 := HLn.out
                  have h2 := HPp.out
                  rw [List.length_append] at h1
                  rw [cat_str]
                  simp only [strSize, ByteArray.size, List.size_toArray, List.length_append]
                  omega
              · have hk2 : (0 : Int) < (k2 : Int) := by have := HQ0.out hq0; omega
                have HQn := Lib.hid hq0
                clear hq0 hvi
                subst hv0
                have hcv : (convert 108 9 (.slice (some ⟨wr.heap.size, 0, none⟩) 1 1)).run Tryd.prog (wr.alloc (.cells #[.int .u8 48] 5)) = .ok (.string ⟨#[48]⟩) (wr.alloc (.cells #[.int .u8 48] 5)) := byte_str wr 48
                have hcat : ¬ (9223372036854775807 : Int) < (1 + (pt.length : Int)) := by omega
                have hcat2 : ¬ 9223372036854775807 < 1 + pt.length := by omega
                have HSt : Hid (DQ q j 0 = DQ q (j + 1) 0 ++ [48]) := DQ_step (q := q) (k := j) (v := 0) hlt (.inr HQn.out)
                have HLt := Lib.hid hlt
                go_wp2_with fail
                go_roundw
                case rel => exact ⟨j + 1, 0, (48 : UInt8) :: pt, by have := HLt.out; omega, rfl, by rw [show (⟨#[48]⟩ : ByteArray) = ⟨[(48 : UInt8)].toArray⟩ from rfl, cat_str]; rfl, by go_num, by have h := HDQ.out; rw [HSt.out, List.append_assoc] at h; exact h, Nat.pow_pos (by omega), by simp; omega, HOX.out.alloc _⟩
                case measure => have := HLt.out; simp [RowKit.intOf]; omega
            · have hvi : (0 : Int) < (v : Int) := by omega
              have HQn : Hid (v ≠ 0 ∨ q ≠ 0) := .inl hv0
              clear hv0
              obtain ⟨d, hd⟩ : ∃ d, v % 10 = d := ⟨_, rfl⟩
              obtain ⟨v', hv'⟩ : ∃ v', v / 10 = v' := ⟨_, rfl⟩
              obtain ⟨z, hz⟩ : ∃ z, 48 + d = z := ⟨_, rfl⟩
              have HV9' := HV9.out
              have h10 : (10 : Nat) ^ (9 - j) ≤ 10 ^ 9 := Nat.pow_le_pow_right (by omega) (by omega)
              have hvb : v < 1000000000 := by rw [show (10 : Nat) ^ 9 = 1000000000 by decide] at h10; omega
              have hd1 : (v : Int).tmod 10 = (d : Int) := by rw [← hd]; rfl
              have hd2 : (v : Int) % 10 = (d : Int) := by rw [← hd]; rfl
              have hv1 : (v : Int).tdiv 10 = (v' : Int) := by rw [← hv']; rfl
              have hv2 : (v : Int) / 10 = (v' : Int) := by rw [← hv']; rfl
              have hw0 : IntKind.u64.wrap (d : Int) = (d : Int) := u64_wrap (by rw [BB_val]; omega)
              have hw1 : IntKind.u64.wrap (48 + (d : Int)) = (z : Int) := by rw [show (48 : Int) + (d : Int) = (z : Int) by omega]; exact u64_wrap (by rw [BB_val]; omega)
              have hw2 : IntKind.u64.wrap (v' : Int) = (v' : Int) := u64_wrap (by rw [BB_val]; omega)
              have hw3 : IntKind.u8.wrap (z : Int) = (z : Int) := by rw [IntKind.wrap_u8]; omega
              have hcv := byte_str wr z
              have hcat : ¬ (9223372036854775807 : Int) < (1 + (pt.length : Int)) := by omega
              have hcat2 : ¬ 9223372036854775807 < 1 + pt.length := by omega
              have hst := DQ_step (q := q) (k := j) (v := v) hlt HQn.out
              rw [hd, hv', hz] at hst
              have HSt := Lib.hid hst
              have HVt : Hid (v' < 10 ^ (9 - (j + 1))) := by
                have h1 := HV9.out
                rw [show 9 - j = 9 - (j + 1) + 1 by omega, Nat.pow_succ] at h1
                show _ < _
                omega
              have HLt := Lib.hid hlt
              clear hd hv' hz HV9' h10 hvb hst
              go_wp2_with fail
              go_roundw
              case rel => exact ⟨j + 1, v', UInt8.ofNat z :: pt, by have := HLt.out; omega, rfl, by rw [show (⟨#[UInt8.ofNat z]⟩ : ByteArray) = ⟨[UInt8.ofNat z].toArray⟩ from rfl, cat_str]; rfl, by go_num, by have h := HDQ.out; rw [HSt.out, List.append_assoc] at h; exact h, HVt.out, by simp; omega, HOX.out.alloc _⟩
              case measure => have := HLt.out; simp [RowKit.intOf]; omega
          · obtain rfl : j = 9 := by omega
            have hn9 : ¬ ((9 : Nat) : Int) < 9 := by omega
            have HDE : Hid (DQ q 9 v = []) := DQ_nine (by simpa using HV9.out)
            clear hlt
            have HPt : Hid (pt = DQ q 0 0) := by
              have h := HDQ.out
              rw [HDE.out, List.nil_append] at h
              exact h
            have HLs := Lib.hid (dg_len HS.out)
            have HNew : Hid (dg q ++ (pt ++ s) = dg n) := by
              show _ = _
              rw [← List.append_assoc, HPt.out, ← HC.out]
              exact HS.out
            have HLn := Lib.hid (dg_len HNew.out)
            have HPp : Hid (0 < pt.length) := by rw [HPt.out]; exact HDp.out
            have hcat : ¬ (9223372036854775807 : Int) < ((pt.length : Int) + (s.length : Int)) := by have := HLs.out; have := HDl.out; omega
            have hcat2 : ¬ 9223372036854775807 < pt.length + s.length := by have := HLs.out; have := HDl.out; omega
            clear HDQ HV9 HPt HC
            go_wp2_with fail
            go_roundw
            case rel => exact ⟨A2, k2, c2, q, pt ++ s, rfl, HV2.out.only HOX.out, by rw [cat_str], HNew.out, by have := HQM.out; have := HM.out; omega, HO2.out.nil_trans HOX.out⟩
            case measure =>
              have h1 := HLn.out
              have h2 := HPp.out
              rw [List.length_append] at h1
              rw [cat_str]
              simp only [strSize, ByteArray.size, List.size_toArray, List.length_append]
              omega
      · have hlr : R.limbsOf r = [r] := by
          have h1 := R.limbsOf_pos hr0
          have h2 := HR9.out
          rw [Nat.mod_eq_of_lt (by rw [R.BB_val]; omega), Nat.div_eq_of_lt (by rw [R.BB_val]; omega), R.limbsOf_zero] at h1
          exact h1
        rw [hlr] at hl3
        rw [hlr]
        obtain ⟨b3, o3, rfl, hcell⟩ := hl3 0 (by simp)
        simp only [List.getElem?_cons_zero, Option.getD_some, Nat.add_zero] at hcell
        have hl1 : ([r] : List Nat).length = 1 := rfl
        rw [hl1]
        clear hl1 hl3 hlr
        go_wp2_with fail
        clear hcell hr0
        go_loopw [7, 8, 9] (fun vv pv kv wx => ∃ (j v : Nat) (pt : List UInt8), j ≤ 9 ∧ vv = .int .u64 (v : Int) ∧ pv = .string ⟨pt.toArray⟩ ∧ kv = .int .i64 (j : Int) ∧ DQ q j v ++ pt = DQ q 0 r ∧ v < 10 ^ (9 - j) ∧ pt.length ≤ j ∧ Only [] w2 wx) (fun _ _ kv _ => 9 - (RowKit.intOf kv).toNat)
        case atStart => exact ⟨0, r, [], by omega, rfl, rfl, rfl, by simp, HR9.out, by simp, Only.refl _ _⟩
        case round =>
          obtain ⟨j, v, pt, hj, rfl, rfl, rfl, hdq, hv9, hpl, hox⟩ := hrel
          have HDQ := Lib.hid hdq
          have HV9 := Lib.hid hv9
          have HOX := Lib.hid hox
          clear hdq hv9 hox
          by_cases hlt : j < 9
          · have hlti : (j : Int) < 9 := by omega
            by_cases hv0 : v = 0
            · have hvi : ¬ (0 : Int) < (v : Int) := by omega
              by_cases hq0 : q = 0
              · have hk2 : ¬ (0 : Int) < (k2 : Int) := by have := HQ1.out hq0; omega
                have HDE : Hid (DQ q j v = []) := by subst hq0 hv0; exact DQ_none
                clear hlt hv0 hq0
                have HPt : Hid (pt = DQ q 0 r) := by
                  have h := HDQ.out
                  rw [HDE.out, List.nil_append] at h
                  exact h
                have HLs := Lib.hid (dg_len HS.out)
                have HNew : Hid (dg q ++ (pt ++ s) = dg n) := by
                  show _ = _
                  rw [← List.append_assoc, HPt.out, ← HC.out]
                  exact HS.out
                have HLn := Lib.hid (dg_len HNew.out)
                have HPp : Hid (0 < pt.length) := by rw [HPt.out]; exact HDp.out
                have hcat : ¬ (9223372036854775807 : Int) < ((pt.length : Int) + (s.length : Int)) := by have := HLs.out; have := HDl.out; omega
                have hcat2 : ¬ 9223372036854775807 < pt.length + s.length := by have := HLs.out; have := HDl.out; omega
                clear HDQ HV9 HPt HC
                go_wp2_with fail
                go_roundw
                case rel => exact ⟨A2, k2, c2, q, pt ++ s, rfl, HV2.out.only HOX.out, by rw [cat_str], HNew.out, by have := HQM.out; have := HM.out; omega, HO2.out.nil_trans HOX.out⟩
                case measure =>
                  have h1 := HLn.out
                  have h2 := HPp.out
                  rw [List.length_append] at h1
                  rw [cat_str]
                  simp only [strSize, ByteArray.size, List.size_toArray, List.length_append]
                  omega
              · have hk2 : (0 : Int) < (k2 : Int) := by have := HQ0.out hq0; omega
                have HQn := Lib.hid hq0
                clear hq0 hvi
                subst hv0
                have hcv : (convert 108 9 (.slice (some ⟨wr.heap.size, 0, none⟩) 1 1)).run Tryd.prog (wr.alloc (.cells #[.int .u8 48] 5)) = .ok (.string ⟨#[48]⟩) (wr.alloc (.cells #[.int .u8 48] 5)) := byte_str wr 48
                have hcat : ¬ (9223372036854775807 : Int) < (1 + (pt.length : Int)) := by omega
                have hcat2 : ¬ 9223372036854775807 < 1 + pt.length := by omega
                have HSt : Hid (DQ q j 0 = DQ q (j + 1) 0 ++ [48]) := DQ_step (q := q) (k := j) (v := 0) hlt (.inr HQn.out)
                have HLt := Lib.hid hlt
                go_wp2_with fail
                go_roundw
                case rel => exact ⟨j + 1, 0, (48 : UInt8) :: pt, by have := HLt.out; omega, rfl, by rw [show (⟨#[48]⟩ : ByteArray) = ⟨[(48 : UInt8)].toArray⟩ from rfl, cat_str]; rfl, by go_num, by have h := HDQ.out; rw [HSt.out, List.append_assoc] at h; exact h, Nat.pow_pos (by omega), by simp; omega, HOX.out.alloc _⟩
                case measure => have := HLt.out; simp [RowKit.intOf]; omega
            · have hvi : (0 : Int) < (v : Int) := by omega
              have HQn : Hid (v ≠ 0 ∨ q ≠ 0) := .inl hv0
              clear hv0
              obtain ⟨d, hd⟩ : ∃ d, v % 10 = d := ⟨_, rfl⟩
              obtain ⟨v', hv'⟩ : ∃ v', v / 10 = v' := ⟨_, rfl⟩
              obtain ⟨z, hz⟩ : ∃ z, 48 + d = z := ⟨_, rfl⟩
              have HV9' := HV9.out
              have h10 : (10 : Nat) ^ (9 - j) ≤ 10 ^ 9 := Nat.pow_le_pow_right (by omega) (by omega)
              have hvb : v < 1000000000 := by rw [show (10 : Nat) ^ 9 = 1000000000 by decide] at h10; omega
              have hd1 : (v : Int).tmod 10 = (d : Int) := by rw [← hd]; rfl
              have hd2 : (v : Int) % 10 = (d : Int) := by rw [← hd]; rfl
              have hv1 : (v : Int).tdiv 10 = (v' : Int) := by rw [← hv']; rfl
              have hv2 : (v : Int) / 10 = (v' : Int) := by rw [← hv']; rfl
              have hw0 : IntKind.u64.wrap (d : Int) = (d : Int) := u64_wrap (by rw [BB_val]; omega)
              have hw1 : IntKind.u64.wrap (48 + (d : Int)) = (z : Int) := by rw [show (48 : Int) + (d : Int) = (z : Int) by omega]; exact u64_wrap (by rw [BB_val]; omega)
              have hw2 : IntKind.u64.wrap (v' : Int) = (v' : Int) := u64_wrap (by rw [BB_val]; omega)
              have hw3 : IntKind.u8.wrap (z : Int) = (z : Int) := by rw [IntKind.wrap_u8]; omega
              have hcv := byte_str wr z
              have hcat : ¬ (9223372036854775807 : Int) < (1 + (pt.length : Int)) := by omega
              have hcat2 : ¬ 9223372036854775807 < 1 + pt.length := by omega
              have hst := DQ_step (q := q) (k := j) (v := v) hlt HQn.out
              rw [hd, hv', hz] at hst
              have HSt := Lib.hid hst
              have HVt : Hid (v' < 10 ^ (9 - (j + 1))) := by
                have h1 := HV9.out
                rw [show 9 - j = 9 - (j + 1) + 1 by omega, Nat.pow_succ] at h1
                show _ < _
                omega
              have HLt := Lib.hid hlt
              clear hd hv' hz HV9' h10 hvb hst
              go_wp2_with fail
              go_roundw
              case rel => exact ⟨j + 1, v', UInt8.ofNat z :: pt, by have := HLt.out; omega, rfl, by rw [show (⟨#[UInt8.ofNat z]⟩ : ByteArray) = ⟨[UInt8.ofNat z].toArray⟩ from rfl, cat_str]; rfl, by go_num, by have h := HDQ.out; rw [HSt.out, List.append_assoc] at h; exact h, HVt.out, by simp; omega, HOX.out.alloc _⟩
              case measure => have := HLt.out; simp [RowKit.intOf]; omega
          · obtain rfl : j = 9 := by omega
            have hn9 : ¬ ((9 : Nat) : Int) < 9 := by omega
            have HDE : Hid (DQ q 9 v = []) := DQ_nine (by simpa using HV9.out)
            clear hlt
            have HPt : Hid (pt = DQ q 0 r) := by
              have h := HDQ.out
              rw [HDE.out, List.nil_append] at h
              exact h
            have HLs := Lib.hid (dg_len HS.out)
            have HNew : Hid (dg q ++ (pt ++ s) = dg n) := by
              show _ = _
              rw [← List.append_assoc, HPt.out, ← HC.out]
              exact HS.out
            have HLn := Lib.hid (dg_len HNew.out)
            have HPp : Hid (0 < pt.length) := by rw [HPt.out]; exact HDp.out
            have hcat : ¬ (9223372036854775807 : Int) < ((pt.length : Int) + (s.length : Int)) := by have := HLs.out; have := HDl.out; omega
            have hcat2 : ¬ 9223372036854775807 < pt.length + s.length := by have := HLs.out; have := HDl.out; omega
            clear HDQ HV9 HPt HC
            go_wp2_with fail
            go_roundw
            case rel => exact ⟨A2, k2, c2, q, pt ++ s, rfl, HV2.out.only HOX.out, by rw [cat_str], HNew.out, by have := HQM.out; have := HM.out; omega, HO2.out.nil_trans HOX.out⟩
            case measure =>
              have h1 := HLn.out
              have h2 := HPp.out
              rw [List.length_append] at h1
              rw [cat_str]
              simp only [strSize, ByteArray.size, List.size_toArray, List.length_append]
              omega

end Go.Proofs.YtigpnopeacicpaaDoor

/-
  WholeTells: whole numbers by their readings, canonical; rows of two; an operation whose guard was left out itself.
-/
namespace Go.Proofs.YtigpnopeacicpaaDoor
set_option linter.unusedSimpArgs false
open Go.RowKit

theorem growIf_undef {P : Program} {l : List Oper} {o : Oper} {a : Act} {w : World} {p : VP} {g : Nat} {want : Bool} {d : Nat} (h : o.guard = some (g, want)) (hd : dstOf l g = some d) (hv : a.tmps[d]? = some undef) (hh : p undef w) : growIf P l o a w p := by
  have hd' : (l.toArray[g]?).bind (·.dst) = some d := by unfold dstOf at hd; simpa using hd
  unfold growIf Region.wanted yielded
  rw [h]
  simp only [hd', Option.bind_some, hv]
  exact hh
theorem withs_guardU {P : Program} {l : List Oper} {Ps : List VP} {w : World} {o : Oper} {p : VP} {js : List Nat} {a0 : Act} {g d : Nat} {want : Bool} (hg : o.guard = some (g, want)) (hd : dstOf l g = some d) (h : withs l Ps w (fun a => a.tmps[d]? = some undef ∧ p undef w) js a0) : withs l Ps w (fun a => growIf P l o a w p) js a0 :=
  withs_mono (fun _ hh => growIf_undef hg hd hh.1 hh.2) js a0 h
theorem two_read {w : World} {g : Nat} {s t : Bool} {A B : Option Addr} {k c l d : Nat} {y z : Int} (hb : Blk w g 44 [.bool s, .slice A k c, .bool t, .slice B l d]) (hy : IV w (.agg #[.bool s, .slice A k c]) y) (hz : IV w (.agg #[.bool t, .slice B l d]) z) : WsRead w (some ⟨g, 0, none⟩) [⟨s, A, k, c, y⟩, ⟨t, B, l, d, z⟩] := fun j hj => by
  rcases j with _ | _ | j
  · exact ⟨g, 0, rfl, hb.cell 0, hb.cell 1, hy⟩
  · exact ⟨g, 0, rfl, hb.cell 2, hb.cell 3, hz⟩
  · simp at hj; omega
theorem few_two {f : Int → WI → Int} {x : Int} {i j : WI} (h0 : Few x.natAbs) (h1 : Few (f x i).natAbs) (h2 : Few (f (f x i) j).natAbs) : FewAll f x [i, j] := fun k hk => by
  rcases k with _ | _ | _ | k
  · exact h0
  · exact h1
  · exact h2
  · simp at hk
theorem toC {f : FuncId} {args : Array Value} {w : World} {z : Int} (h : Calls Tryd.prog f args w (WPost z w w)) : Calls Tryd.prog f args w (WPostC z w) := h.mono fun _ _ h => h.c
theorem notC_w {w : World} {a : Value} {z : Int} (r : Int) (ha : Hid (IV w a z)) (hr : -z = r) : Calls Tryd.prog 22 #[a] w (WPostC r w) := hr ▸ toC (not_w ha)
theorem subC_w {w : World} {a b : Value} {x y : Int} (r : Int) (ha : Hid (IV w a x)) (hb : Hid (IV w b y)) (hr : x - y = r) (hf : Hid (Few r.natAbs)) : Calls Tryd.prog 26 #[a, b] w (WPostC r w) := by
  subst hr
  exact toC (sub_w ha hb hf)
theorem add1C_w {w : World} {a : Value} {g : Nat} {s : Bool} {A : Option Addr} {k c : Nat} {x y : Int} (r : Int) (hw : Hid (Blk w g 44 [.bool s, .slice A k c])) (ha : Hid (IV w a x)) (hb : Hid (IV w (.agg #[.bool s, .slice A k c]) y)) (hr : x + y = r) (hf : Hid (Few r.natAbs)) : Calls Tryd.prog 24 #[a, .slice (some ⟨g, 0, none⟩) 1 1] w (WPostC r w) := by
  subst hr
  exact toC (add1_w hw ha hb hf)
theorem mul1C_w {w : World} {a : Value} {g : Nat} {s : Bool} {A : Option Addr} {k c : Nat} {x y : Int} (r : Int) (hw : Hid (Blk w g 44 [.bool s, .slice A k c])) (ha : Hid (IV w a x)) (hb : Hid (IV w (.agg #[.bool s, .slice A k c]) y)) (hr : x * y = r) (hf : Hid (Few r.natAbs)) : Calls Tryd.prog 28 #[a, .slice (some ⟨g, 0, none⟩) 1 1] w (WPostC r w) := by
  subst hr
  exact toC (mul1_w hw ha hb hf)
theorem add0C_w {w : World} {a : Value} {x : Int} (ha : Hid (IV w a x)) : Calls Tryd.prog 24 #[a, .slice none 0 0] w (WPostC x w) :=
  toC (add_w none 0 [] ha (Lib.hid (fun k hk => by simp at hk)) (by simp) (Lib.hid (fun k hk => by simp only [List.take_nil, List.foldl_nil]; exact ha.out.few)))
theorem add2C_w {w : World} {a : Value} {g : Nat} {s t : Bool} {A B : Option Addr} {k c l d : Nat} {x y z : Int} (u r : Int) (hw : Hid (Blk w g 44 [.bool s, .slice A k c, .bool t, .slice B l d])) (ha : Hid (IV w a x)) (hb : Hid (IV w (.agg #[.bool s, .slice A k c]) y)) (hc : Hid (IV w (.agg #[.bool t, .slice B l d]) z)) (hu : x + y = u) (hr : u + z = r) (hf : Hid (Few u.natAbs)) (hg : Hid (Few r.natAbs)) : Calls Tryd.prog 24 #[a, .slice (some ⟨g, 0, none⟩) 2 2] w (WPostC r w) := by
  subst hu hr
  exact toC (add_w (some ⟨g, 0, none⟩) 2 [⟨s, A, k, c, y⟩, ⟨t, B, l, d, z⟩] ha (Lib.hid (two_read hw.out hb.out hc.out)) (by simp) (Lib.hid (few_two ha.out.few hf.out hg.out)))
theorem mul2C_w {w : World} {a : Value} {g : Nat} {s t : Bool} {A B : Option Addr} {k c l d : Nat} {x y z : Int} (u r : Int) (hw : Hid (Blk w g 44 [.bool s, .slice A k c, .bool t, .slice B l d])) (ha : Hid (IV w a x)) (hb : Hid (IV w (.agg #[.bool s, .slice A k c]) y)) (hc : Hid (IV w (.agg #[.bool t, .slice B l d]) z)) (hu : x * y = u) (hr : u * z = r) (hf : Hid (Few u.natAbs)) (hg : Hid (Few r.natAbs)) : Calls Tryd.prog 28 #[a, .slice (some ⟨g, 0, none⟩) 2 2] w (WPostC r w) := by
  subst hu hr
  exact toC (mul_w (some ⟨g, 0, none⟩) 2 [⟨s, A, k, c, y⟩, ⟨t, B, l, d, z⟩] ha (Lib.hid (two_read hw.out hb.out hc.out)) (by simp) (Lib.hid (few_two ha.out.few hf.out hg.out)))
theorem makeC_w {w : World} {a : Value} {n : Nat} {z : Int} (s : Bool) (ha : Hid (NV w a n)) (hz : sg s n = z) : Calls Tryd.prog 33 #[.bool s, a] w (WPostC z w) := toC (makeH_w s ha hz)
theorem ofC_w (v : Int) (w : World) (hv : Hid (-9223372036854775808 ≤ v ∧ v ≤ 9223372036854775807)) : Calls Tryd.prog 34 #[.int .i64 v] w (WPostC v w) := toC (of_w v w hv)
theorem textH_w {w : World} {a : Value} {z : Int} (S : ByteArray) (ha : Hid (IV w a z)) (htab : Hid (Tab w)) (hd : (Lib.decDigits z.natAbs).length ≤ 1000000) (hS : (⟨((if z < 0 then [45] else []) ++ Lib.decDigits z.natAbs).toArray⟩ : ByteArray) = S) : Calls Tryd.prog 30 #[a] w fun e w' => e = .returned (.string S) ∧ Only [] w w' := hS ▸ text_w ha htab hd
theorem rrefH_w {w : World} {a : Value} {z : Int} (r : Dy) (hr : nrm z 0 = r) (ha : Hid (IV w a z)) : Calls Tryd.prog 14 #[a] w (RDP r w) := hr ▸ rref_w ha
theorem is2H_w {w : World} {s : Bool} {A : Option Addr} {k c : Nat} {b : Value} {z : Int} {N : Nat} (r : Dy) (hr : nrm z 0 = r) (ha : Hid (IV w (.agg #[.bool s, .slice A k c]) z)) (hc : Hid (Cn s k z)) (hb : Hid (RD w b r)) (bz : Hid (Bnd N r)) (hN : N ≤ 1000000) : Calls Tryd.prog 17 #[.agg #[.bool s, .slice A k c], b] w fun e w' => e = .returned (.bool true) ∧ Only [] w w' := by
  subst hr
  exact is2_w ha hc hb bz hN
end Go.Proofs.YtigpnopeacicpaaDoor

/-
  Dyads in boxes; a first call whose answer is known (compasslaw3.alive).
-/
namespace Go.Proofs.YtigpnopeacicpaaDoor
set_option linter.unusedSimpArgs false
open Go.RowKit

/-! ### Boxes of dyads -/

structure DX where
  g : Nat
  s : Bool
  a : Option Addr
  k : Nat
  c : Nat
  x : Dy

def DX.ok (w : World) (b : DX) : Prop := Blk w b.g 181 [.bool b.s, .slice b.a b.k b.c, .int .i64 b.x.e] ∧ IV w (.agg #[.bool b.s, .slice b.a b.k b.c]) b.x.z

structure DB (w0 w : World) (L : List DX) : Prop where
  only : Only [] w0 w
  all : ∀ (i : Nat) (x : DX), L[i]? = some x → DX.ok w x
  base : ∀ (i : Nat) (x : DX), L[i]? = some x → w0.heap.size ≤ x.g
  ne : ∀ (i j : Nat) (x y : DX), i ≠ j → L[i]? = some x → L[j]? = some y → x.g ≠ y.g

theorem DB.step {w0 w w' : World} {L : List DX} (h : DB w0 w L) (ho : Only [] w w') : DB w0 w' L := ⟨h.only.nil_trans ho, fun i x hx => ⟨(h.all i x hx).1.only ho (by simp), (h.all i x hx).2.only ho⟩, h.base, h.ne⟩

theorem DB.new {w0 w : World} {L : List DX} (h : DB w0 w L) {s : Bool} {A : Option Addr} {k c : Nat} {x : Dy} (hv : IV w (.agg #[.bool s, .slice A k c]) x.z) :
    DB w0 (w.alloc (.cells #[.bool s, .slice A k c, .int .i64 x.e] 181)) (⟨w.heap.size, s, A, k, c, x⟩ :: L) := by
  have ho : Only [] w (w.alloc (.cells #[.bool s, .slice A k c, .int .i64 x.e] 181)) := (Only.refl [] w).alloc _
  have h' := h.step ho
  refine ⟨h'.only, fun i y hy => ?_, fun i y hy => ?_, fun i j y z hij hy hz => ?_⟩
  · rcases i with _ | i
    · obtain rfl := (Option.some.inj hy).symm
      exact ⟨Blk.new w _ _, hv.only ho⟩
    · exact h'.all i y hy
  · rcases i with _ | i
    · obtain rfl := (Option.some.inj hy).symm
      exact h.only.size
    · exact h.base i y hy
  · rcases i with _ | i
    · rcases j with _ | j
      · omega
      · obtain rfl := (Option.some.inj hy).symm
        have := (h.all j z hz).1.lt
        show w.heap.size ≠ z.g
        omega
    · rcases j with _ | j
      · obtain rfl := (Option.some.inj hz).symm
        have := (h.all i y hy).1.lt
        show y.g ≠ w.heap.size
        omega
      · exact h.ne i j y z (by omega) hy hz

theorem DB.cells {w0 w : World} {L : List DX} (h : Hid (DB w0 w L)) (i : Nat) {g : Nat} {s : Bool} {A : Option Addr} {k c : Nat} {x : Dy} (hi : L[i]? = some ⟨g, s, A, k, c, x⟩) :
    w.cell? ⟨g, 0, none⟩ = some (.bool s) ∧ w.cell? ⟨g, 1, none⟩ = some (.slice A k c) ∧ w.cell? ⟨g, 2, none⟩ = some (.int .i64 x.e) ∧ w.frozen? ⟨g, 0, none⟩ = false ∧ w.frozen? ⟨g, 1, none⟩ = false ∧ w.frozen? ⟨g, 2, none⟩ = false :=
  have hb := (h.out.all i _ hi).1
  ⟨hb.cell 0, hb.cell 1, hb.cell 2, hb.frozen 0, hb.frozen 1, hb.frozen 2⟩

theorem DB.iv {w0 w : World} {L : List DX} (h : Hid (DB w0 w L)) (i : Nat) {g : Nat} {s : Bool} {A : Option Addr} {k c : Nat} {x : Dy} (hi : L[i]? = some ⟨g, s, A, k, c, x⟩) : Hid (IV w (.agg #[.bool s, .slice A k c]) x.z) := (h.out.all i _ hi).2

theorem DB.dv {w0 w : World} {L : List DX} (h : Hid (DB w0 w L)) (i : Nat) {g : Nat} {s : Bool} {A : Option Addr} {k c : Nat} {x : Dy} (hi : L[i]? = some ⟨g, s, A, k, c, x⟩) : Hid (DV w (.agg #[.bool s, .slice A k c, .int .i64 x.e]) x) := DV.of (DB.iv h i hi)

/-! ### Small numbers -/

end Go.Proofs.YtigpnopeacicpaaDoor

/-
  Numbers as they are handed in: Of, Light; short.
-/
namespace Go.Proofs.YtigpnopeacicpaaDoor
set_option linter.unusedSimpArgs false
open Go.RowKit

def isWV (z : Int) : VP := fun u w => ∃ s A k c, u = .agg #[.bool s, .slice A k c] ∧ IV w u z

theorem isWV.lasts (z : Int) : Lasts (isWV z) := fun _ _ _ ⟨s, A, k, c, h1, h4⟩ ho => ⟨s, A, k, c, h1, h4.only ho⟩

structure NR where
  s : Bool
  a : Option Addr
  n : Nat
  c : Nat
  e : Int

def NR.v (x : NR) : Value := .agg #[.bool x.s, .slice x.a x.n x.c, .int .i64 x.e]

def NR.ok (x : NR) : Bool := decide (x.n ≤ 40) && decide (-3000 ≤ x.e) && decide (x.e ≤ 3000)

end Go.Proofs.YtigpnopeacicpaaDoor
