/-
  NatParses: the law's walk.
-/
import Derived.Test.YtcmimpooknbopaaDoorRefP
import Derived.Test.YtcmimpooknbopaaDoorAlive1
import Derived.Test.YtcmimpooknbopaaDoorDoorN
namespace Go.Proofs.YtcmimpooknbopaaDoor
open Go.RowKit

theorem parse_few {l : List UInt8} {n : Nat} (h : parseN l = some n) : l.length ≤ 20000 ∧ Few n := by
  unfold parseN at h
  split at h
  · cases h
  · rename_i hl
    split at h
    · rename_i ha
      injection h with h
      subst h
      refine ⟨by omega, Few.of_pow (k := l.length) (Nat.lt_of_lt_of_le (dval_lt l ha) (Nat.pow_le_pow_left (by rw [BB_val]; omega) _)) (by omega)⟩
    · cases h
set_option maxHeartbeats 1600000 in
set_option maxRecDepth 100000 in
theorem parses_any (s : ByteArray) (w : World) (hs : s.size ≤ maxLen) (htab : Tab w) (_ : Tab6 w) : Calls Tryd.prog 7 #[.string s] w fun e w' => e = .returned (.bool true) ∧ Only [] w w' := by
  have HTab := Lib.hid htab
  clear htab
  by_cases h3 : 300 < s.size
  · have h3i : (300 : Int) < (s.size : Int) := by omega
    clear h3
    go_enter Tryd.func7, Tryd.ntmps7
    go_wp2_with fail
    refine (alive1_any w HTab).mono ?_
    rintro e w2 ⟨rfl, ho⟩
    have HO := Lib.hid ho
    clear ho
    go_wp2_with fail
    go_ret
    exact ⟨rfl, HO.out⟩
  · have h3i : ¬ (300 : Int) < (s.size : Int) := by omega
    have HS := Lib.hid hs
    clear h3 hs
    go_enter Tryd.func7, Tryd.ntmps7
    go_wp2_with fail
    refine (alive1_any w HTab).mono ?_
    rintro e w2 ⟨rfl, ho⟩
    have HO := Lib.hid ho
    clear ho
    go_wp2_with fail
    refine (parse_any s w2 HS.out).mono ?_
    rintro e w3 (⟨hp, rfl, ho3⟩ | ⟨n, A, k, c, _, rfl, hp, rfl, hr, hv, ho3⟩)
    · have HP := Lib.hid hp
      have HO3 := Lib.hid ho3
      clear hp ho3
      go_wp2_with fail
      refine (rparse_any s w3 HS.out).mono ?_
      rintro e w4 (⟨hp2, rfl, ho4⟩ | ⟨n, A, k, c, hp2, rfl, hv, ho4⟩)
      · have HO4 := Lib.hid ho4
        have HRs : Hid (Res w4 w4 (.slice none 0 0) 0) := res_nil _ _
        have HRV : Hid (RV w4 (.slice none 0 0) 0) := RV.nil w4
        have HF0 : Hid (Few 0) := few_small BB_pos
        clear hp2 ho4
        go_wp2_with fail
        refine (is_v HRs HF0 HRV HF0).mono ?_
        rintro e w5 ⟨rfl, ho5⟩
        have HO5 := Lib.hid ho5
        clear ho5
        go_wp2_with fail
        go_ret
        exact ⟨by simp, ((HO.out.nil_trans HO3.out).nil_trans HO4.out).nil_trans HO5.out⟩
      · rw [HP.out] at hp2
        cases hp2
    · have HP := Lib.hid hp
      have HO3 := Lib.hid ho3
      have HR := Lib.hid hr
      have HF := Lib.hid (parse_few hp).2
      clear hp ho3 hr hv
      go_wp2_with fail
      refine (rparse_any s w3 HS.out).mono ?_
      rintro e w4 (⟨hp2, rfl, ho4⟩ | ⟨n2, A2, k2, c2, hp2, rfl, hv, ho4⟩)
      · rw [HP.out] at hp2
        cases hp2
      · rw [HP.out] at hp2
        injection hp2 with hp2
        subst hp2
        have HO4 := Lib.hid ho4
        have HRV := Lib.hid hv
        have HR4 := Lib.hid (HR.out.nil ho4)
        clear hv ho4
        go_wp2_with fail
        refine (is_v HR4 HF HRV HF).mono ?_
        rintro e w5 ⟨rfl, ho5⟩
        have HO5 := Lib.hid ho5
        clear ho5
        go_wp2_with fail
        go_ret
        exact ⟨by simp, ((HO.out.nil_trans HO3.out).nil_trans HO4.out).nil_trans HO5.out⟩
end Go.Proofs.YtcmimpooknbopaaDoor
