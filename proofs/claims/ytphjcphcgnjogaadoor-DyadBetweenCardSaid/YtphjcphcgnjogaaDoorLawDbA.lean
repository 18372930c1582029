/-
  DyadBetween: what is not looked at.
-/
import Derived.Test.YtphjcphcgnjogaaDoorDyQ
import Derived.Test.YtphjcphcgnjogaaDoorDyZ
namespace Go.Proofs.YtphjcphcgnjogaaDoor
set_option linter.unusedSimpArgs false
open Go.RowKit

set_option maxHeartbeats 16000000 in
set_option maxRecDepth 100000 in
theorem dbetw_out (n1 n2 : Bool) (A1 A2 : Option Addr) (L1 L2 : List Nat) (c1 c2 : Nat) (e1 e2 p : Int) (w : World) (htab : Hid (Tab w)) (hT : Hid (Tab6 w)) (hl : lightN [⟨n1, A1, L1.length, c1, e1⟩, ⟨n2, A2, L2.length, c2, e2⟩] = false ∨ p < 1 ∨ 300 < p) :
    Calls Tryd.prog 7 #[.agg #[.bool n1, .slice A1 L1.length c1, .int .i64 e1], .agg #[.bool n2, .slice A2 L2.length c2, .int .i64 e2], .int .i64 p] w fun e w' => e = .returned (.bool true) ∧ Only [] w w' := by
  obtain ⟨lb, hlb⟩ : ∃ b, lightN [⟨n1, A1, L1.length, c1, e1⟩, ⟨n2, A2, L2.length, c2, e2⟩] = b := ⟨_, rfl⟩
  rw [hlb] at hl
  have HL := Lib.hid hlb
  clear hlb
  have hlv := light3_v (w := (w.alloc (.cells #[.bool n1, .slice A1 L1.length c1, .int .i64 e1] 48)).alloc (.cells #[.bool n2, .slice A2 L2.length c2, .int .i64 e2] 48)) [⟨n1, A1, L1.length, c1, e1⟩, ⟨n2, A2, L2.length, c2, e2⟩] 2 (Lib.hid rfl) (by omega)
  rw [HL.out] at hlv
  simp only [flatN, List.flatMap_cons, List.flatMap_nil, List.cons_append, List.nil_append, World.size_alloc] at hlv
  have hk := ((KB.start w).new 48 [.bool n1, .slice A1 L1.length c1, .int .i64 e1]).new 48 [.bool n2, .slice A2 L2.length c2, .int .i64 e2]
  simp only [World.size_alloc] at hk
  have HK := Lib.hid hk
  have HLV := Lib.hid hlv
  clear hlv hk HL
  cases lb
  · clear hl
    go_enter Tryd.func7, Tryd.ntmps7
    go_wp2_with fail
    (with_reducible refine HLV.out.mono ?_)
    rintro e w1 ⟨rfl, ho⟩
    replace HK := Lib.hid (HK.out.step ho)
    clear ho
    go_wp2_with fail
    (with_reducible refine (alive3_any _ (Lib.hid (htab.out.only HK.out.only)) (Lib.hid (hT.out.keep HK.out.only))).mono ?_)
    rintro e w2 ⟨rfl, ho⟩
    replace HK := Lib.hid (HK.out.step ho)
    clear ho
    go_wp2_with fail
    go_ret
    exact ⟨rfl, HK.out.only⟩
  simp only [Bool.true_eq_false, false_or] at hl
  by_cases q3 : p < 1
  · clear hl
    go_enter Tryd.func7, Tryd.ntmps7
    go_wp2_with fail
    (with_reducible refine HLV.out.mono ?_)
    rintro e w1 ⟨rfl, ho⟩
    replace HK := Lib.hid (HK.out.step ho)
    clear ho
    go_wp2_with fail
    (with_reducible refine (alive3_any _ (Lib.hid (htab.out.only HK.out.only)) (Lib.hid (hT.out.keep HK.out.only))).mono ?_)
    rintro e w2 ⟨rfl, ho⟩
    replace HK := Lib.hid (HK.out.step ho)
    clear ho
    go_wp2_with fail
    go_ret
    exact ⟨rfl, HK.out.only⟩
  · have q4 : 300 < p := by omega
    clear hl
    go_enter Tryd.func7, Tryd.ntmps7
    go_wp2_with fail
    (with_reducible refine HLV.out.mono ?_)
    rintro e w1 ⟨rfl, ho⟩
    replace HK := Lib.hid (HK.out.step ho)
    clear ho
    go_wp2_with fail
    (with_reducible refine (alive3_any _ (Lib.hid (htab.out.only HK.out.only)) (Lib.hid (hT.out.keep HK.out.only))).mono ?_)
    rintro e w2 ⟨rfl, ho⟩
    replace HK := Lib.hid (HK.out.step ho)
    clear ho
    go_wp2_with fail
    go_ret
    exact ⟨rfl, HK.out.only⟩

end Go.Proofs.YtphjcphcgnjogaaDoor
