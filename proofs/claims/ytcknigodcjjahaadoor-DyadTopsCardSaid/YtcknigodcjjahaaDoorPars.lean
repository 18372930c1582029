/-
  nat.Parse: the number of decimal digits.
-/
import Derived.Test.YtcknigodcjjahaaDoorScl
import Derived.Laws.MakeOwn
namespace Go.Proofs.YtcknigodcjjahaaDoor
open Go.RowKit

def isDig (c : UInt8) : Bool := decide (48 ≤ (c.toNat : Int)) && decide ((c.toNat : Int) ≤ 57)
theorem isDig_iff (c : UInt8) : isDig c = true ↔ 48 ≤ c.toNat ∧ c.toNat ≤ 57 := by
  unfold isDig
  rw [Bool.and_eq_true, decide_eq_true_eq, decide_eq_true_eq]
  omega
/-- What digits are worth. -/
def dval (l : List UInt8) : Nat := l.foldl (fun n c => n * 10 + (c.toNat - 48)) 0
theorem dval_nil : dval [] = 0 := rfl
theorem dval_snoc (l : List UInt8) (c : UInt8) : dval (l ++ [c]) = dval l * 10 + (c.toNat - 48) := by simp [dval, List.foldl_append]
theorem dval_from : ∀ (m : List UInt8) (n : Nat), m.foldl (fun n c => n * 10 + (c.toNat - 48)) n = n * 10 ^ m.length + dval m
  | [], n => by simp [dval]
  | c :: m, n => by
    unfold dval
    rw [List.foldl_cons, List.foldl_cons, dval_from m, dval_from m (0 * 10 + (c.toNat - 48)), List.length_cons, Nat.pow_succ, Nat.zero_mul, Nat.zero_add, Nat.add_mul, Nat.mul_comm (10 ^ m.length) 10, ← Nat.mul_assoc]
    omega
theorem dval_append (l m : List UInt8) : dval (l ++ m) = dval l * 10 ^ m.length + dval m := by
  unfold dval
  rw [List.foldl_append, dval_from]
  rfl
theorem dval_lt : ∀ (m : List UInt8), m.all isDig = true → dval m < 10 ^ m.length
  | [], _ => by simp [dval]
  | c :: m, h => by
    rw [List.all_cons, Bool.and_eq_true] at h
    have h1 := (isDig_iff c).1 h.1
    have h2 := dval_lt m h.2
    have e : dval (c :: m) = (c.toNat - 48) * 10 ^ m.length + dval m := by
      have := dval_append [c] m
      rw [List.singleton_append] at this
      rw [this]
      simp [dval]
    rw [e, List.length_cons, Nat.pow_succ]
    have h3 : (c.toNat - 48) * 10 ^ m.length ≤ 9 * 10 ^ m.length := Nat.mul_le_mul_right _ (by omega)
    omega
/-- What a stretch of digits is worth. -/
def dseg (l : List UInt8) (s k : Nat) : Nat := dval ((l.drop s).take (k - s))
theorem dseg_self (l : List UInt8) (s : Nat) : dseg l s s = 0 := by unfold dseg; rw [Nat.sub_self, List.take_zero]; rfl
theorem dseg_succ (l : List UInt8) (s k : Nat) (hs : s ≤ k) (hk : k < l.length) : dseg l s (k + 1) = dseg l s k * 10 + ((l[k]?.getD 0).toNat - 48) := by
  unfold dseg
  have h1 : k + 1 - s = (k - s) + 1 := by omega
  have h2 : k - s < (l.drop s).length := by rw [List.length_drop]; omega
  rw [h1, List.take_succ_eq_append_getElem h2, dval_snoc, List.getElem_drop]
  congr 2
  rw [List.getElem?_eq_getElem hk]
  simp only [Option.getD_some]
  congr 1
  simp [show s + (k - s) = k by omega]
theorem dval_seg (l : List UInt8) (s e : Nat) (hs : s ≤ e) (he : e ≤ l.length) : dval (l.take e) = dval (l.take s) * 10 ^ (e - s) + dseg l s e := by
  have h : l.take e = l.take s ++ (l.drop s).take (e - s) := by
    have h1 := List.take_add (l := l) (i := s) (j := e - s)
    rw [show s + (e - s) = e by omega] at h1
    exact h1
  rw [h, dval_append]
  unfold dseg
  rw [List.length_take, List.length_drop, Nat.min_eq_left (by omega)]
theorem dseg_lt (l : List UInt8) (s k : Nat) (hs : s ≤ k) (hk : k ≤ l.length) (h : l.all isDig = true) : dseg l s k < 10 ^ (k - s) := by
  unfold dseg
  have h1 : ((l.drop s).take (k - s)).all isDig = true := by
    rw [List.all_eq_true] at h ⊢
    exact fun x hx => h x (List.mem_of_mem_drop (List.mem_of_mem_take hx))
  have h2 := dval_lt _ h1
  rwa [List.length_take, List.length_drop, Nat.min_eq_left (by omega)] at h2
/-- What Parse tells. -/
def parseN (l : List UInt8) : Option Nat := if l.length = 0 ∨ 20000 < l.length then none else if l.all isDig = true then some (dval l) else none
theorem parse_none1 {l : List UInt8} (h : l.length = 0 ∨ 20000 < l.length) : parseN l = none := by unfold parseN; rw [if_pos h]
theorem parse_none2 {l : List UInt8} {k : Nat} (hk : k < l.length) (h : isDig (l[k]?.getD 0) = false) : parseN l = none := by
  unfold parseN
  split
  · rfl
  · rw [if_neg]
    intro ha
    rw [List.all_eq_true] at ha
    have := ha l[k] (List.getElem_mem hk)
    rw [List.getElem?_eq_getElem hk, Option.getD_some] at h
    rw [h] at this
    cases this
theorem parse_some {l : List UInt8} (h1 : l.length ≠ 0) (h2 : l.length ≤ 20000) (h : l.all isDig = true) : parseN l = some (dval l) := by
  unfold parseN
  rw [if_neg (by omega), if_pos h]
/-- What Parse leaves. -/
def ParsePost (l : List UInt8) (w : World) (e : Ending) (w' : World) : Prop :=
  (parseN l = none ∧ e = .returned (.tuple #[.slice none 0 0, .bool false]) ∧ Only [] w w') ∨
  (∃ n A k c u, u = .slice A k c ∧ parseN l = some n ∧ e = .returned (.tuple #[.slice A k c, .bool true]) ∧ Res w w' u n ∧ NV w' u n ∧ Only [] w w')

set_option maxHeartbeats 3200000 in
set_option maxRecDepth 100000 in
theorem parse_any (s : ByteArray) (w : World) (hs : s.size ≤ maxLen) : Calls Tryd.prog 20 #[.string s] w (ParsePost s.data.toList w) := by
  unfold maxLen at hs
  have HSz : Hid (s.data.toList.length = s.size) := by show s.data.toList.length = s.data.size; exact Array.length_toList
  by_cases h0 : s.size = 0
  · have HNo := Lib.hid (parse_none1 (l := s.data.toList) (.inl (by rw [HSz.out]; exact h0)))
    go_enter Tryd.func20, Tryd.ntmps20
    go_wp2_with fail
    go_ret2
    exact .inl ⟨HNo.out, rfl, Only.refl _ _⟩
  · have h0i : ((s.size : Int) == 0) = false := by rw [beq_eq_false_iff_ne]; omega
    by_cases h2 : 20000 < s.size
    · have HNo := Lib.hid (parse_none1 (l := s.data.toList) (.inr (by rw [HSz.out]; exact h2)))
      have h2i : (20000 : Int) < (s.size : Int) := by omega
      go_enter Tryd.func20, Tryd.ntmps20
      go_wp2_with fail
      go_ret2
      exact .inl ⟨HNo.out, rfl, Only.refl _ _⟩
    · have h2i : (s.size : Int) ≤ 20000 := by omega
      have H0 := Lib.hid h0
      clear h2 h0
      go_enter Tryd.func20, Tryd.ntmps20
      go_wp2_with fail
      go_loop [20] (fun iv => ∃ k : Nat, k ≤ s.size ∧ iv = .int .i64 (k : Int) ∧ (s.data.toList.take k).all isDig = true) (fun iv => s.size - (intOf iv).toNat)
      case atStart => exact ⟨0, Nat.zero_le _, rfl, rfl⟩
      case round =>
        obtain ⟨k, hk, rfl, ha⟩ := hrel
        have HA := Lib.hid ha
        clear ha
        by_cases hlt : k < s.size
        · have HG : Hid (s.data.toList[k]?.getD 0 = s[k]) := by
            show _ = _
            rw [List.getElem?_eq_getElem (by rw [HSz.out]; exact hlt)]
            rfl
          have HTk : Hid ((s.data.toList.take (k + 1)).all isDig = ((s.data.toList.take k).all isDig && isDig s[k])) := by
            show _ = _
            rw [List.take_succ_eq_append_getElem (by rw [HSz.out]; exact hlt), List.all_append]
            simp
            rfl
          have HNone : Hid (isDig s[k] = false → parseN s.data.toList = none) := fun h => parse_none2 (k := k) (by rw [HSz.out]; exact hlt) (by rw [HG.out]; exact h)
          go_wp2_with fail
          all_goals first
            | (go_round
               case rel => exact ⟨k + 1, by omega, by go_num, by rw [HTk.out, HA.out, (isDig_iff _).2 ⟨by omega, by omega⟩]; rfl⟩
               case measure => simp [intOf]; omega)
            | (go_ret2
               exact .inl ⟨HNone.out (Bool.eq_false_iff.2 (fun h => by have := (isDig_iff _).1 h; omega)), rfl, Only.refl _ _⟩)
        · have HAll : Hid (s.data.toList.all isDig = true) := by
            have h1 := HA.out
            rw [List.take_of_length_le (by rw [HSz.out]; omega)] at h1
            exact h1
          have HSome := Lib.hid (parse_some (by rw [HSz.out]; exact H0.out) (by rw [HSz.out]; omega) HAll.out)
          have hnl : ¬ (k : Int) < (s.size : Int) := by omega
          obtain ⟨i0, hi, hz0, hz1, hz2⟩ := u64_parts
          obtain ⟨q, hq⟩ : ∃ q : Nat, s.size / 19 = q := ⟨_, rfl⟩
          have hqi : (s.size : Int) / 19 = (q : Int) := by omega
          have hql : (q : Int) ≤ 20000 := by omega
          obtain ⟨w2, hmk, hown, hgr⟩ := run_make_own (P := Tryd.prog) w 0 28 59 i0 _ 1 Tryd.underlying28 hi hz0 hz1 .i64 .i64 (q + 2) (by rw [hz2]; omega) (by simp only [maxLen]; omega) (Nat.zero_le _)
          rw [show ((q + 2 : Nat) : Int) = (q : Int) + 2 by omega] at hmk
          obtain ⟨g, hg⟩ : ∃ g, w.heap.size = g := ⟨_, rfl⟩
          rw [hg] at hmk hown
          have HG := Lib.hid hg
          have HOwn : Hid (LimbsAt w2 (.slice (some ⟨g, 0, none⟩) 0 (q + 2)) []) := hown
          have HO2 : Hid (Only [] w w2) := Only.of_grown hgr (by simp)
          clear hlt hown hgr hg hq
          go_wp2_with fail
          go_loopw [5, 6] (fun zv av wr => ∃ (k g' c : Nat) (ys : List Nat), k ≤ s.size ∧ av = .int .i64 (k : Int) ∧ zv = .slice (some ⟨g', 0, none⟩) ys.length c ∧ LimbsAt wr (.slice (some ⟨g', 0, none⟩) ys.length c) ys ∧ Limb ys ∧ val ys = dval (s.data.toList.take k) ∧ ys.length ≤ k ∧ g ≤ g' ∧ Only [] w wr) (fun _ av _ => s.size - (intOf av).toNat)
          case atStart => exact ⟨0, g, q + 2, [], Nat.zero_le _, rfl, rfl, HOwn.out, limb_nil, rfl, Nat.le_refl _, Nat.le_refl _, HO2.out⟩
          case round =>
            obtain ⟨k0, g', c, ys, hk0, rfl, rfl, hat, hyl, hyv, hyn, hgg, ho⟩ := hrel
            have HAt := Lib.hid hat
            have HYl := Lib.hid hyl
            have HYv := Lib.hid hyv
            have HYn := Lib.hid hyn
            have HGg := Lib.hid hgg
            have HO := Lib.hid ho
            clear hat hyl hyv hyn hgg ho
            by_cases hlt : k0 < s.size
            · obtain ⟨e0, he0⟩ : ∃ e0 : Nat, min (k0 + 19) s.size = e0 := ⟨_, rfl⟩
              have he1 : e0 ≤ s.size := by omega
              have he2 : k0 < e0 := by omega
              have he3 : e0 ≤ k0 + 19 := by omega
              have hmin : min ((k0 : Int) + 19) (s.size : Int) = (e0 : Int) := by omega
              have hmin2 : (if (k0 : Int) + 19 ≤ (s.size : Int) then (k0 : Int) + 19 else (s.size : Int)) = (e0 : Int) := by omega
              have hlti : (k0 : Int) < (s.size : Int) := by omega
              clear he0 hlt
              go_wp2_with fail
              go_loop [6, 8, 9] (fun av uv vv => ∃ k1 : Nat, k0 ≤ k1 ∧ k1 ≤ e0 ∧ av = .int .i64 (k1 : Int) ∧ uv = .int .u64 ((10 ^ (k1 - k0) : Nat) : Int) ∧ vv = .int .u64 ((dseg s.data.toList k0 k1 : Nat) : Int)) (fun av _ _ => e0 - (intOf av).toNat)
              case atStart => exact ⟨k0, Nat.le_refl _, by omega, rfl, by rw [Nat.sub_self]; rfl, by rw [dseg_self]; rfl⟩
              case round =>
                obtain ⟨k1, hk1, hk2, rfl, rfl, rfl⟩ := hrel
                have HVl : Hid (dseg s.data.toList k0 k1 < 10 ^ (k1 - k0)) := dseg_lt _ _ _ hk1 (by rw [HSz.out]; omega) HAll.out
                have HUb : Hid (10 ^ (k1 - k0) ≤ 10 ^ 19) := Nat.pow_le_pow_right (by omega) (by omega)
                by_cases hlt : k1 < e0
                · have hlt2 : k1 < s.size := by omega
                  have HGk : Hid (s.data.toList[k1]?.getD 0 = s[k1]) := by
                    show _ = _
                    rw [List.getElem?_eq_getElem (by rw [HSz.out]; exact hlt2)]
                    rfl
                  have HDg : Hid (isDig s[k1] = true) := by
                    have h1 := HAll.out
                    rw [List.all_eq_true] at h1
                    have h2 := h1 (s.data.toList[k1]'(by rw [HSz.out]; exact hlt2)) (List.getElem_mem _)
                    exact h2
                  have HVs : Hid (dseg s.data.toList k0 (k1 + 1) = dseg s.data.toList k0 k1 * 10 + (s[k1].toNat - 48)) := by
                    have h1 := dseg_succ s.data.toList k0 k1 hk1 (by rw [HSz.out]; exact hlt2)
                    rw [HGk.out] at h1
                    exact h1
                  have HUs : Hid (10 ^ (k1 + 1 - k0) = 10 ^ (k1 - k0) * 10) := by
                    show _ = _
                    rw [show k1 + 1 - k0 = (k1 - k0) + 1 by omega, Nat.pow_succ]
                  have HU18 : Hid (10 ^ (k1 - k0) ≤ 10 ^ 18) := Nat.pow_le_pow_right (by omega) (by omega)
                  have hdig := (isDig_iff _).1 HDg.out
                  obtain ⟨dd, hdd⟩ : ∃ dd, s[k1].toNat - 48 = dd := ⟨_, rfl⟩
                  have hdi : (s[k1].toNat : Int) - 48 = (dd : Int) := by omega
                  have hdw1 : IntKind.u8.wrap (dd : Int) = (dd : Int) := by simp [IntKind.wrap, IntKind.signed, IntKind.bits]; omega
                  have hdw2 : IntKind.u64.wrap (dd : Int) = (dd : Int) := u64_wrap (by rw [BB_val]; omega)
                  rw [hdd] at HVs
                  obtain ⟨U, hU⟩ : ∃ U, 10 ^ (k1 - k0) = U := ⟨_, rfl⟩
                  rw [hU] at HUs HU18 HVl
                  rw [hU]
                  obtain ⟨V, hV⟩ : ∃ V, dseg s.data.toList k0 k1 = V := ⟨_, rfl⟩
                  rw [hV] at HVs HVl
                  rw [hV]
                  have hU18 : U ≤ 1000000000000000000 := HU18.out
                  have hVU := HVl.out
                  have hw1 : IntKind.u64.wrap ((U : Int) * 10) = ((U * 10 : Nat) : Int) := by
                    rw [show (U : Int) * 10 = ((U * 10 : Nat) : Int) by push_cast; rfl]
                    exact u64_wrap (by rw [BB_val]; omega)
                  have hw2 : IntKind.u64.wrap ((V : Int) * 10) = ((V * 10 : Nat) : Int) := by
                    rw [show (V : Int) * 10 = ((V * 10 : Nat) : Int) by push_cast; rfl]
                    exact u64_wrap (by rw [BB_val]; omega)
                  obtain ⟨V1, hV1⟩ : ∃ V1, V * 10 = V1 := ⟨_, rfl⟩
                  have hw3 : IntKind.u64.wrap ((V1 : Int) + (dd : Int)) = ((V1 + dd : Nat) : Int) := by
                    rw [show (V1 : Int) + (dd : Int) = ((V1 + dd : Nat) : Int) by push_cast; rfl]
                    exact u64_wrap (by rw [BB_val]; omega)
                  rw [hV1] at hw2 HVs
                  obtain ⟨U1, hU1⟩ : ∃ U1, U * 10 = U1 := ⟨_, rfl⟩
                  rw [hU1] at hw1 HUs
                  obtain ⟨V2, hV2⟩ : ∃ V2, V1 + dd = V2 := ⟨_, rfl⟩
                  rw [hV2] at hw3 HVs
                  have hlti2 : (k1 : Int) < (e0 : Int) := by omega
                  clear hU hV hV1 hU1 hV2 hdd hVU hU18
                  go_wp2_with fail
                  go_round
                  case rel => exact ⟨k1 + 1, by omega, by omega, by go_num, by rw [HUs.out], by rw [HVs.out]⟩
                  case measure => simp [intOf]; omega
                · obtain rfl : k1 = e0 := by omega
                  have hnl3 : ¬ (k1 : Int) < (k1 : Int) := by omega
                  have HSeg := Lib.hid (dval_seg s.data.toList k0 k1 hk1 (by rw [HSz.out]; omega))
                  have HUB : Hid (10 ^ (k1 - k0) < BB) := by
                    have h1 := HUb.out
                    rw [← CH_pow, CH_val] at h1
                    show _ < _
                    rw [BB_val]
                    omega
                  have HVB : Hid (dseg s.data.toList k0 k1 < BB) := Nat.lt_trans HVl.out HUB.out
                  have hyi : (ys.length : Int) ≤ 20000 := by have := HYn.out; omega
                  have HSc := Lib.hid (scale_any g' ys.length c (10 ^ (k1 - k0)) (dseg s.data.toList k0 k1) ys wr HAt HYl rfl (by omega) HUB HVB)
                  have HSegV : Hid (val ys * 10 ^ (k1 - k0) + dseg s.data.toList k0 k1 = dval (s.data.toList.take k1)) := by
                    show _ = _
                    rw [HYv.out, HSeg.out]
                  generalize 10 ^ (k1 - k0) = U at *
                  generalize dseg s.data.toList k0 k1 = V at *
                  clear hlt
                  go_wp2_with fail
                  refine HSc.out.mono ?_
                  rintro e w5 ⟨g2, zs, c2, rfl, hat2, hzl, hzv, hzn, hgf, ho5⟩
                  have HAt2 := Lib.hid hat2
                  have HZl := Lib.hid hzl
                  have HZv := Lib.hid hzv
                  have HZn := Lib.hid hzn
                  have HGf := Lib.hid hgf
                  have HO5 := Lib.hid ho5
                  clear hat2 hzl hzv hzn hgf ho5
                  go_wp2_with fail
                  go_roundw
                  case rel =>
                    refine ⟨k1, g2, c2, zs, by omega, rfl, rfl, HAt2.out, HZl.out, by rw [HZv.out, HSegV.out], by have := HZn.out; have := HYn.out; omega, ?_, ?_⟩
                    · have h1 := HGf.out
                      have h2 := HGg.out
                      have h3 := HO.out.size
                      have h4 := HG.out
                      omega
                    · refine HO.out.trans HO5.out (fun x hx => .inr ?_)
                      have h2 := HGg.out
                      have h4 := HG.out
                      simp at hx
                      omega
                  case measure => simp [intOf]; omega
            · have hnl2 : ¬ (k0 : Int) < (s.size : Int) := by omega
              have HV : Hid (val ys = dval s.data.toList) := by
                have h1 := HYv.out
                rw [List.take_of_length_le (by rw [HSz.out]; omega)] at h1
                exact h1
              have hyi : (ys.length : Int) ≤ 20000 := by have := HYn.out; omega
              have htr := trim_any (some ⟨g', 0, none⟩) c ys wr (Lib.hid ⟨(LimbsAt.read HAt.out).2, HYl.out, by omega⟩) (by obtain ⟨_, _, h3, _, h4⟩ := HAt.out.row; omega)
              rw [HV.out] at htr
              have HTr := Lib.hid htr
              have HRes : Hid (Res w wr (.slice (some ⟨g', 0, none⟩) (limbsOf (dval s.data.toList)).length c) (dval s.data.toList)) := by
                have h1 := HAt.out.trim HYl.out
                rw [HV.out] at h1
                refine ⟨h1, fun g2 h2 => ?_⟩
                simp [Value.ownBlock] at h2
                have := HGg.out
                have := HG.out
                omega
              have HFew : Hid (Few (dval s.data.toList)) := by
                show Few _
                rw [← HV.out]
                exact Few.of_pow (val_lt HYl.out) (by omega)
              clear htr hlt
              go_wp2_with fail
              refine HTr.out.mono ?_
              rintro e w' ⟨rfl, rfl⟩
              go_wp2_with fail
              go_ret2
              exact .inr ⟨_, _, _, _, _, rfl, HSome.out, rfl, HRes.out, NV.of_res HRes.out HFew.out, HO.out⟩
end Go.Proofs.YtcknigodcjjahaaDoor
