/-
  BoundTells: the walk.
-/
import Derived.Test.YtigpnopeacicpaaDoorTbJ22
namespace Go.Proofs.YtigpnopeacicpaaDoor
set_option linter.unusedSimpArgs false
open Go.RowKit
attribute [local go_sem] run_store_float

set_option maxHeartbeats 1600000 in
set_option maxRecDepth 100000 in
theorem btells_out (A B V : Option Addr) (n c m c' p cv : Nat) (at_ : Int) (w : World) (hT : Hid (Tab6 w)) (h : 80 < (n : Int) ∨ ((n : Int) ≤ 80 ∧ 200 < (m : Int))) :
    Calls Tryd.prog 5 #[.slice A n c, .slice B m c', .slice V p cv, .int .i64 at_] w fun e w' => e = .returned (.bool true) ∧ Only [] w w' := by
  rcases h with h | ⟨h, h2⟩
  · skip
    go_enter Tryd.func5, Tryd.ntmps5
    go_wp2_with fail
    refine (alive11_any w hT).mono ?_
    rintro e w1 ⟨rfl, ho1⟩
    have HO1 := Lib.hid ho1
    clear ho1
    go_wp2_with fail
    go_ret
    exact ⟨rfl, HO1.out⟩
  · have h3 : ¬ 80 < (n : Int) := by omega
    go_enter Tryd.func5, Tryd.ntmps5
    go_wp2_with fail
    refine (alive11_any w hT).mono ?_
    rintro e w1 ⟨rfl, ho1⟩
    have HO1 := Lib.hid ho1
    clear ho1
    go_wp2_with fail
    go_ret
    exact ⟨rfl, HO1.out⟩
theorem outK_0 (ns : List Nd) {L P : List Int} {a : Nat} (h : (a : Int) ∈ L) : outK ns L P (a * 3) = (ent lfB ns (a : Int)).u := by
  unfold outK
  rw [if_neg (by omega), outF_0 ns h]
theorem outK_1 (ns : List Nd) {L P : List Int} {a : Nat} (h : (a : Int) ∈ L) : outK ns L P (a * 3 + 1) = (ent lfB ns (a : Int)).l := by
  unfold outK
  rw [if_neg (by omega), outF_1 ns h]
theorem outK_2 (ns : List Nd) {L P : List Int} {a : Nat} (h : (a : Int) ∈ P) : outK ns L P (a * 3 + 2) = (rootsL ns (belowOf ns (a : Int)) : Int) := by
  have e : (a * 3 + 2) / 3 = a := by omega
  unfold outK
  rw [e, if_pos ⟨by omega, h⟩]
set_option maxHeartbeats 6400000 in
set_option maxRecDepth 100000 in
theorem btells_in (A B V : Option Addr) (c c' cv : Nat) (kinds refs : List Int) (vals : List Nat) (x : Int) (w : World) (hT : Hid (Tab6 w)) (hA : Hid (IRead w A kinds)) (hB : Hid (IRead w B refs)) (hV : Hid (FRead w V vals)) (hWd : Hid (Words vals)) (hk : (kinds.length : Int) ≤ 80) (hr : (refs.length : Int) ≤ 200) (hx : (Lit.int .i64 x).wf = true) :
    Calls Tryd.prog 5 #[.slice A kinds.length c, .slice B refs.length c', .slice V vals.length cv, .int .i64 x] w fun e w' => e = .returned (.bool true) ∧ Only [] w w' := by
  have h1 : ¬ 80 < (kinds.length : Int) := by omega
  have h2 : ¬ 200 < (refs.length : Int) := by omega
  have HX := Lib.hid hx
  clear hx
  go_enter Tryd.func5, Tryd.ntmps5
  go_wp2_with fail
  refine (alive11_any w hT).mono ?_
  rintro e w1 ⟨rfl, ho1⟩
  have HO1 := Lib.hid ho1
  clear ho1
  go_wp2_with fail
  refine (treeV_any A B V c c' cv kinds refs vals w1 (hA.out.only HO1.out) (hB.out.only HO1.out) (by omega) (by omega) (hV.out.only HO1.out) hWd).mono ?_
  rintro e w2 ⟨u, rfl, hTr⟩
  have HTr := Lib.hid hTr
  obtain ⟨Au, cu, rfl, -, -, -⟩ := hTr.1.shape
  rw [treeVL_len]
  clear hTr
  have HNR : Hid (NRead w2 Au (treeVL kinds refs vals kinds.length)) := (HTr.out.1.read).2
  have HAll : Hid (AllOk (treeVL kinds refs vals kinds.length)) := treeVL_ok kinds refs vals kinds.length (by omega)
  have HBits : Hid (∀ k, k < (treeVL kinds refs vals kinds.length).length → ((treeVL kinds refs vals kinds.length)[k]?.getD nd0).f < 2 ^ 64) := fun k hk => by
    rw [treeVL_len] at hk
    rw [treeVL_get _ _ _ _ _ hk]
    exact treeVN_bits hWd.out k
  have HLd := Lib.hid (load10_any Au cu (treeVL kinds refs vals kinds.length) w2 HNR HBits (by rw [treeVL_len]; omega) HAll)
  have HLen : Hid ((treeVL kinds refs vals kinds.length).length = kinds.length) := treeVL_len _ _ _ _
  generalize treeVL kinds refs vals kinds.length = ns at HNR HAll HBits HLd HLen HTr ⊢
  rw [HLen.out] at HLd
  go_wp2_with fail
  refine HLd.out.mono ?_
  rintro e w3 ⟨d, v, rfl, hown⟩
  have HW3 : Hid (Only [] w w3) := HO1.out.nil_trans (HTr.out.2.2.nil_trans hown.only)
  have HD := Lib.hid hown.is
  have HNR3 : Hid (NRead w3 Au ns) := HNR.out.only hown.only
  have HDk : Hid (DagOk ns) := dag_ok HAll.out HBits.out (by rw [HLen.out]; omega)
  have HT3 : Hid (Tab6 w3) := hT.out.keep HW3.out
  clear hown HLd HBits HTr HO1 hA hB hV HNR HAll
  have hlen := HLen.out
  rw [← hlen] at hk h1 ⊢
  clear hlen HLen
  by_cases hin : 0 ≤ x ∧ x < (ns.length : Int)
  · obtain ⟨a, rfl⟩ : ∃ a : Nat, x = (a : Int) := ⟨x.toNat, by omega⟩
    have ha : a < ns.length := by omega
    have hx0 : ¬ (a : Int) < 0 := by omega
    have hx1 : ¬ (ns.length : Int) ≤ (a : Int) := by omega
    have hx2 : (a : Int) < (ns.length : Int) := by omega
    clear hin
    have HE := Lib.hid (ent_ok lfB_ok ns (a : Int))
    obtain ⟨e0, he0⟩ : ∃ e0, ent lfB ns (a : Int) = e0 := ⟨_, rfl⟩
    have HE0 := Lib.hid he0
    rw [he0] at HE
    obtain ⟨K, hK⟩ : ∃ K, rootsL ns (belowOf ns (a : Int)) = K := ⟨_, rfl⟩
    have HK := Lib.hid hK
    clear he0 hK
    go_wp2_with fail
    refine (bof_in d v ns a e0 K w3 HT3 HD HDk ha HE0 HK).mono ?_
    rintro e w4 ⟨rfl, ho⟩
    have HB4 := Lib.hid (Blk.new w4 35 [.int .i64 e0.u, .int .i64 e0.l, .int .i64 (K : Int)])
    have HO5 : Hid (Only [] w3 (w4.alloc (.cells #[.int .i64 e0.u, .int .i64 e0.l, .int .i64 (K : Int)] 35))) := ho.alloc _
    clear ho
    go_wp2_with fail
    generalize w4.alloc (.cells #[.int .i64 e0.u, .int .i64 e0.l, .int .i64 (K : Int)] 35) = w5 at *
    generalize w4.heap.size = g4 at *
    refine (rbounds_any Au cu ns a w5 (Lib.hid (HNR3.out.only HO5.out)) HDk (by omega) ha).mono ?_
    rintro e w6 ⟨gb, rfl, hBb, hgb, ho⟩
    rw [HE0.out]
    have HB6 := Lib.hid (HB4.out.only ho (by simp))
    have HBb := Lib.hid hBb
    have HO6 := Lib.hid (HO5.out.nil_trans ho)
    clear ho HB4 HO5 hBb hgb
    have hself := below_self HDk.out.ok ha
    have c0 := HB6.out.cell 0
    have c1 := HB6.out.cell 1
    have c2 := HB6.out.cell 2
    simp only [List.getElem?_cons_zero, List.getElem?_cons_succ] at c0 c1 c2
    have d0 := HBb.out.cell (a * 3)
    have d1 := HBb.out.cell (a * 3 + 1)
    have d2 := HBb.out.cell (a * 3 + 2)
    rw [intV_get _ _ _ (by omega)] at d0 d1 d2
    rw [outK_0 ns hself, HE0.out] at d0
    rw [outK_1 ns hself, HE0.out] at d1
    rw [outK_2 ns hself, HK.out] at d2
    obtain ⟨eu, el, eo⟩ := e0
    simp only at c0 c1 c2 d0 d1 d2 ⊢
    cases eo
    · skip
      go_upto_region 12 with fail
      refine wp_region_quiet_lit (by kernel_rfl) (by kernel_rfl) ?_
      repeat (any_goals (first | go_big_quiet_step (fail) | quiet_step (fail) | (refine wpQuiet_step (fun K hK => ?_); go_simp; split <;> (refine hK _ ?_; clear hK K))))
      all_goals (refine wpQuiet_nil ?_; intro _ hw'; obtain ⟨nq, hw''⟩ := hw'; subst hw'')
      have HO7 : Hid (Only [] w3 (w6.drewN nq)) := HO6.out.nil_trans ((Only.refl [] w6).drewN nq)
      have HBb7 : Hid (Blk (w6.drewN nq) gb 74 (intV (ns.length * 3) (outK ns (belowOf ns (a : Int)) (belowOf ns (a : Int))))) := HBb.out.drewN nq
      clear c0 c1 c2 d0 d1 d2 HB6 HO6 HBb
      generalize w6.drewN nq = w7 at *
      obtain ⟨sv, hsv⟩ : ∃ sv, (if sepB lfB ns (a : Int) = true then sepV lfB ns (a : Int) else 0) = sv := ⟨_, rfl⟩
      obtain ⟨sb, hsb⟩ : ∃ sb, sepB lfB ns (a : Int) = sb := ⟨_, rfl⟩
      have hsp := bsep_in d v ns a w7 (Lib.hid (HT3.out.keep HO7.out)) (Lib.hid (HD.out.only HO7.out (by simp))) HDk ha
      rw [hsv, hsb] at hsp
      have HSp := Lib.hid hsp
      have HSq := Lib.hid (And.intro hsv hsb)
      clear hsp hsv hsb
      go_wp2_with fail
      refine HSp.out.mono ?_
      rintro e w8 ⟨rfl, ho⟩
      have HO8 := Lib.hid (HO7.out.nil_trans ho)
      have HBb8 := Lib.hid (HBb7.out.only ho (by simp))
      clear ho HO7 HBb7 HSp
      go_wp2_with fail
      refine (rsep_any Au cu ns a w8 (Lib.hid (HNR3.out.only HO8.out)) HDk (by omega) ha sv sb HSq).mono ?_
      rintro e w9 ⟨rfl, ho⟩
      have HO9 := Lib.hid (HO8.out.nil_trans ho)
      have HBb9 := Lib.hid (HBb8.out.only ho (by simp))
      clear ho HO8 HBb8 HSq
      cases sb
      · skip
        go_wp2_with fail
        (with_reducible refine (ball_any d v ns (a : Int) w9 (Lib.hid (HT3.out.keep HO9.out)) (Lib.hid (HD.out.only HO9.out (by simp))) HDk (by omega)).mono ?_)
        rintro e w10 ⟨ma, rfl, hM, -, ho⟩
        have HO10 := Lib.hid (HO9.out.nil_trans ho)
        have HBb10 := Lib.hid (HBb9.out.only ho (by simp))
        have HM10 := Lib.hid hM
        clear hM ho HO9 HBb9
        go_wp2_with fail
        refine (rbelow_any Au cu ns (a : Int) w10 (Lib.hid (HNR3.out.only HO10.out)) (Lib.hid HDk.out.ok) (by omega)).mono ?_
        rintro e w11 ⟨u, rfl, hL, -, ho⟩
        obtain ⟨L, hLe⟩ : ∃ L, belowOf ns (a : Int) = L := ⟨_, rfl⟩
        have HLe := Lib.hid hLe
        have HIds : Hid (Ids ns L) := hLe ▸ belowL_ids HDk.out.ok (· ∈ [(a : Int)])
        rw [hLe] at hL HM10 HBb10
        clear hLe
        obtain ⟨Al, cl, rfl, hread⟩ := hL.shape
        have HR := Lib.hid hread
        have HO11 := Lib.hid (HO10.out.nil_trans ho)
        have HBb11 := Lib.hid (HBb10.out.only ho (by simp))
        have HM11 := Lib.hid (HM10.out.only ho (by simp))
        have hlen := HM11.out.len Tryd.underlying69
        have hll : (L.length : Int) ≤ 80 := by have := HIds.out.len; omega
        clear hL hread ho HO10 HBb10 HM10
        go_wp2_with fail
        go_loopw [23] (fun i wr => i = .int .i64 0 ∧ Only [] w3 wr) (fun _ _ => 0)
        case atStart => exact ⟨rfl, HO11.out⟩
        case round =>
          obtain ⟨rfl, ho⟩ := hrel
          have HO := Lib.hid ho
          clear ho
          by_cases hL0 : 0 < L.length
          · have hL1 : (0 : Int) < (L.length : Int) := by omega
            go_wp2_with fail
            go_ret
            exact ⟨rfl, HW3.out.nil_trans HO.out⟩
          · have hL1 : ¬ (0 : Int) < (L.length : Int) := by omega
            go_wp2_with fail
            go_ret
            exact ⟨rfl, HW3.out.nil_trans HO.out⟩
      · skip
        go_wp2_with fail
        (with_reducible refine (ball_any d v ns (a : Int) w9 (Lib.hid (HT3.out.keep HO9.out)) (Lib.hid (HD.out.only HO9.out (by simp))) HDk (by omega)).mono ?_)
        rintro e w10 ⟨ma, rfl, hM, -, ho⟩
        have HO10 := Lib.hid (HO9.out.nil_trans ho)
        have HBb10 := Lib.hid (HBb9.out.only ho (by simp))
        have HM10 := Lib.hid hM
        clear hM ho HO9 HBb9
        go_wp2_with fail
        refine (rbelow_any Au cu ns (a : Int) w10 (Lib.hid (HNR3.out.only HO10.out)) (Lib.hid HDk.out.ok) (by omega)).mono ?_
        rintro e w11 ⟨u, rfl, hL, -, ho⟩
        obtain ⟨L, hLe⟩ : ∃ L, belowOf ns (a : Int) = L := ⟨_, rfl⟩
        have HLe := Lib.hid hLe
        have HIds : Hid (Ids ns L) := hLe ▸ belowL_ids HDk.out.ok (· ∈ [(a : Int)])
        rw [hLe] at hL HM10 HBb10
        clear hLe
        obtain ⟨Al, cl, rfl, hread⟩ := hL.shape
        have HR := Lib.hid hread
        have HO11 := Lib.hid (HO10.out.nil_trans ho)
        have HBb11 := Lib.hid (HBb10.out.only ho (by simp))
        have HM11 := Lib.hid (HM10.out.only ho (by simp))
        have hlen := HM11.out.len Tryd.underlying69
        have hll : (L.length : Int) ≤ 80 := by have := HIds.out.len; omega
        clear hL hread ho HO10 HBb10 HM10
        go_wp2_with fail
        go_loopw [23] (fun i wr => i = .int .i64 0 ∧ Only [] w3 wr) (fun _ _ => 0)
        case atStart => exact ⟨rfl, HO11.out⟩
        case round =>
          obtain ⟨rfl, ho⟩ := hrel
          have HO := Lib.hid ho
          clear ho
          by_cases hL0 : 0 < L.length
          · have hL1 : (0 : Int) < (L.length : Int) := by omega
            go_wp2_with fail
            go_ret
            exact ⟨rfl, HW3.out.nil_trans HO.out⟩
          · have hL1 : ¬ (0 : Int) < (L.length : Int) := by omega
            go_wp2_with fail
            go_ret
            exact ⟨rfl, HW3.out.nil_trans HO.out⟩
    · skip
      go_upto_region 12 with fail
      refine wp_region_quiet_lit (by kernel_rfl) (by kernel_rfl) ?_
      repeat (any_goals (first | go_big_quiet_step (fail) | quiet_step (fail) | (refine wpQuiet_step (fun K hK => ?_); go_simp; split <;> (refine hK _ ?_; clear hK K))))
      all_goals (refine wpQuiet_nil ?_; intro _ hw'; obtain ⟨nq, hw''⟩ := hw'; subst hw'')
      have HO7 : Hid (Only [] w3 (w6.drewN nq)) := HO6.out.nil_trans ((Only.refl [] w6).drewN nq)
      have HBb7 : Hid (Blk (w6.drewN nq) gb 74 (intV (ns.length * 3) (outK ns (belowOf ns (a : Int)) (belowOf ns (a : Int))))) := HBb.out.drewN nq
      clear c0 c1 c2 d0 d1 d2 HB6 HO6 HBb
      generalize w6.drewN nq = w7 at *
      obtain ⟨sv, hsv⟩ : ∃ sv, (if sepB lfB ns (a : Int) = true then sepV lfB ns (a : Int) else 0) = sv := ⟨_, rfl⟩
      obtain ⟨sb, hsb⟩ : ∃ sb, sepB lfB ns (a : Int) = sb := ⟨_, rfl⟩
      have hsp := bsep_in d v ns a w7 (Lib.hid (HT3.out.keep HO7.out)) (Lib.hid (HD.out.only HO7.out (by simp))) HDk ha
      rw [hsv, hsb] at hsp
      have HSp := Lib.hid hsp
      have HSq := Lib.hid (And.intro hsv hsb)
      clear hsp hsv hsb
      go_wp2_with fail
      refine HSp.out.mono ?_
      rintro e w8 ⟨rfl, ho⟩
      have HO8 := Lib.hid (HO7.out.nil_trans ho)
      have HBb8 := Lib.hid (HBb7.out.only ho (by simp))
      clear ho HO7 HBb7 HSp
      go_wp2_with fail
      refine (rsep_any Au cu ns a w8 (Lib.hid (HNR3.out.only HO8.out)) HDk (by omega) ha sv sb HSq).mono ?_
      rintro e w9 ⟨rfl, ho⟩
      have HO9 := Lib.hid (HO8.out.nil_trans ho)
      have HBb9 := Lib.hid (HBb8.out.only ho (by simp))
      clear ho HO8 HBb8 HSq
      cases sb
      · skip
        go_wp2_with fail
        (with_reducible refine (ball_any d v ns (a : Int) w9 (Lib.hid (HT3.out.keep HO9.out)) (Lib.hid (HD.out.only HO9.out (by simp))) HDk (by omega)).mono ?_)
        rintro e w10 ⟨ma, rfl, hM, -, ho⟩
        have HO10 := Lib.hid (HO9.out.nil_trans ho)
        have HBb10 := Lib.hid (HBb9.out.only ho (by simp))
        have HM10 := Lib.hid hM
        clear hM ho HO9 HBb9
        go_wp2_with fail
        refine (rbelow_any Au cu ns (a : Int) w10 (Lib.hid (HNR3.out.only HO10.out)) (Lib.hid HDk.out.ok) (by omega)).mono ?_
        rintro e w11 ⟨u, rfl, hL, -, ho⟩
        obtain ⟨L, hLe⟩ : ∃ L, belowOf ns (a : Int) = L := ⟨_, rfl⟩
        have HLe := Lib.hid hLe
        have HIds : Hid (Ids ns L) := hLe ▸ belowL_ids HDk.out.ok (· ∈ [(a : Int)])
        rw [hLe] at hL HM10 HBb10
        clear hLe
        obtain ⟨Al, cl, rfl, hread⟩ := hL.shape
        have HR := Lib.hid hread
        have HO11 := Lib.hid (HO10.out.nil_trans ho)
        have HBb11 := Lib.hid (HBb10.out.only ho (by simp))
        have HM11 := Lib.hid (HM10.out.only ho (by simp))
        have hlen := HM11.out.len Tryd.underlying69
        have hll : (L.length : Int) ≤ 80 := by have := HIds.out.len; omega
        clear hL hread ho HO10 HBb10 HM10
        go_wp2_with fail
        go_loopw [23] (fun i wr => ∃ k : Nat, k ≤ L.length ∧ i = .int .i64 (k : Int) ∧ Only [] w11 wr) (fun i _ => L.length - (intOf i).toNat)
        case atStart => exact ⟨0, Nat.zero_le _, rfl, Only.refl _ _⟩
        case round =>
          obtain ⟨k, hk_, rfl, ho⟩ := hrel
          have HO := Lib.hid ho
          clear ho
          by_cases hlt : k < L.length
          · obtain ⟨y, hy, hyn⟩ := HIds.out.mem k hlt
            obtain ⟨b, o, rfl, hcell0⟩ := HR.out k hlt
            have hcell := HO.out.cell hcell0 (by simp)
            rw [hy] at hcell
            have hyL : (y : Int) ∈ L := by
              rw [← hy, List.getElem?_eq_getElem hlt]
              exact List.getElem_mem hlt
            have hlt' : (k : Int) < (L.length : Int) := by omega
            have hyI : (y : Int) < (ns.length : Int) := by omega
            have HBx := Lib.hid (HBb11.out.only HO.out (by simp))
            have HMx := Lib.hid (HM11.out.only HO.out (by simp))
            have d0 := HBx.out.cell (y * 3)
            have d1 := HBx.out.cell (y * 3 + 1)
            have d2 := HBx.out.cell (y * 3 + 2)
            rw [intV_get _ _ _ (by omega)] at d0 d1 d2
            rw [outK_0 ns hyL] at d0
            rw [outK_1 ns hyL] at d1
            rw [outK_2 ns hyL] at d2
            obtain ⟨ku, hku⟩ : ∃ ku, (ent lfB ns (y : Int)).u = ku := ⟨_, rfl⟩
            obtain ⟨kl, hkl⟩ : ∃ kl, (ent lfB ns (y : Int)).l = kl := ⟨_, rfl⟩
            obtain ⟨kk, hkk⟩ : ∃ kk, rootsL ns (belowOf ns (y : Int)) = kk := ⟨_, rfl⟩
            have HBo : Hid (mapB ns L (y : Int) = some (bndV ku kl kk)) := by
              show mapB ns L (y : Int) = _
              unfold mapB bndOf
              rw [if_pos hyL, hku, hkl, hkk]
            rw [hku] at d0
            rw [hkl] at d1
            rw [hkk] at d2
            clear hku hkl hkk hy
            go_upto_region 26 with fail
            have hs : Small (y : Int) := by have := HDk.out.len; unfold Small; omega
            have HMy := Lib.hid (HMx.out.only ((Only.refl [] wr).alloc (.cells #[.int .i64 ku, .int .i64 kl, .int .i64 (kk : Int)] 74)) (by simp))
            have HOn : Hid (Only [] w11 (wr.alloc (.cells #[.int .i64 ku, .int .i64 kl, .int .i64 (kk : Int)] 74))) := HO.out.alloc _
            have HNn := Lib.hid (Blk.new wr 74 [.int .i64 ku, .int .i64 kl, .int .i64 (kk : Int)])
            have hcn := ((Only.refl [] wr).alloc (.cells #[.int .i64 ku, .int .i64 kl, .int .i64 (kk : Int)] 74)).cell hcell (by simp)
            have HSm := Lib.hid hs
            clear HMx HBx d0 d1 d2 hcell HO hs
            generalize wr.alloc (.cells #[.int .i64 ku, .int .i64 kl, .int .i64 (kk : Int)] 74) = wn at *
            generalize wr.heap.size = gn at *
            apply wp_region_typed_tail2 13 (by kernel_rfl) [isV _, isV _, isV _, isV _, isV _, isV _, isV _, isV _, isV _, isV _, isV _, isV _, isV _] [[], [], [], [1, 2], [3], [0, 4], [], [6], [], [8], [], [10], [7, 9, 11]] (by kernel_rfl) (by kernel_rfl) (by kernel_rfl)
            case ho =>
              simp only [List.take_succ_cons, List.take_zero]
              refine owes2_cons (fun wx hox => ?_) ?_
              · skip
                skip
                refine withs_plain rfl ?_
                simp only [withs, List.getElem?_cons_zero, List.getElem?_cons_succ, Option.bind, Option.getD]
                repeat (with_reducible refine all_isV ?_)
                go_simp
                exact ⟨Only.refl _ _, isV.self _ _⟩
              refine owes2_cons (fun wx hox => ?_) ?_
              · skip
                skip
                refine withs_plain rfl ?_
                simp only [withs, List.getElem?_cons_zero, List.getElem?_cons_succ, Option.bind, Option.getD]
                repeat (with_reducible refine all_isV ?_)
                go_simp
                exact ⟨Only.refl _ _, isV.self _ _⟩
              refine owes2_cons (fun wx hox => ?_) ?_
              · skip
                skip
                refine withs_plain rfl ?_
                simp only [withs, List.getElem?_cons_zero, List.getElem?_cons_succ, Option.bind, Option.getD]
                repeat (with_reducible refine all_isV ?_)
                go_simp
                exact ⟨Only.refl _ _, isV.self _ _⟩
              refine owes2_cons (fun wx hox => ?_) ?_
              · skip
                skip
                refine withs_plain rfl ?_
                simp only [withs, List.getElem?_cons_zero, List.getElem?_cons_succ, Option.bind, Option.getD]
                repeat (with_reducible refine all_isV ?_)
                go_simp
                exact ⟨Only.refl _ _, isV.self _ _⟩
              refine owes2_cons (fun wx hox => ?_) ?_
              · skip
                (have hcx := hox.cell hcn (by simp))
                refine withs_plain rfl ?_
                simp only [withs, List.getElem?_cons_zero, List.getElem?_cons_succ, Option.bind, Option.getD]
                repeat (with_reducible refine all_isV ?_)
                go_simp
                exact ⟨Only.refl _ _, isV.self _ _⟩
              refine owes2_cons (fun wx hox => ?_) ?_
              · skip
                have hlk := (HMy.out.only hox (by simp)).look Tryd.underlying69 (zeroBnd _) HSm.out
                rw [HBo.out, Option.getD_some] at hlk
                refine withs_plain rfl ?_
                simp only [withs, List.getElem?_cons_zero, List.getElem?_cons_succ, Option.bind, Option.getD]
                repeat (with_reducible refine all_isV ?_)
                go_simp
                exact ⟨Only.refl _ _, isV.self _ _⟩
              refine owes2_cons (fun wx hox => ?_) ?_
              · skip
                skip
                refine withs_plain rfl ?_
                simp only [withs, List.getElem?_cons_zero, List.getElem?_cons_succ, Option.bind, Option.getD]
                repeat (with_reducible refine all_isV ?_)
                go_simp
                exact ⟨Only.refl _ _, isV.self _ _⟩
              refine owes2_cons (fun wx hox => ?_) ?_
              · skip
                have hdx := HNn.out.only hox (by simp)
                have e0 := hdx.cell 0
                have e1 := hdx.cell 1
                have e2 := hdx.cell 2
                simp only [List.getElem?_cons_zero, List.getElem?_cons_succ] at e0 e1 e2
                clear hdx
                refine withs_plain rfl ?_
                simp only [withs, List.getElem?_cons_zero, List.getElem?_cons_succ, Option.bind, Option.getD]
                repeat (with_reducible refine all_isV ?_)
                go_simp
                exact ⟨Only.refl _ _, isV.self _ _⟩
              refine owes2_cons (fun wx hox => ?_) ?_
              · skip
                skip
                refine withs_plain rfl ?_
                simp only [withs, List.getElem?_cons_zero, List.getElem?_cons_succ, Option.bind, Option.getD]
                repeat (with_reducible refine all_isV ?_)
                go_simp
                exact ⟨Only.refl _ _, isV.self _ _⟩
              refine owes2_cons (fun wx hox => ?_) ?_
              · skip
                have hdx := HNn.out.only hox (by simp)
                have e0 := hdx.cell 0
                have e1 := hdx.cell 1
                have e2 := hdx.cell 2
                simp only [List.getElem?_cons_zero, List.getElem?_cons_succ] at e0 e1 e2
                clear hdx
                refine withs_plain rfl ?_
                simp only [withs, List.getElem?_cons_zero, List.getElem?_cons_succ, Option.bind, Option.getD]
                repeat (with_reducible refine all_isV ?_)
                go_simp
                exact ⟨Only.refl _ _, isV.self _ _⟩
              refine owes2_cons (fun wx hox => ?_) ?_
              · skip
                skip
                refine withs_plain rfl ?_
                simp only [withs, List.getElem?_cons_zero, List.getElem?_cons_succ, Option.bind, Option.getD]
                repeat (with_reducible refine all_isV ?_)
                go_simp
                exact ⟨Only.refl _ _, isV.self _ _⟩
              refine owes2_cons (fun wx hox => ?_) ?_
              · skip
                have hdx := HNn.out.only hox (by simp)
                have e0 := hdx.cell 0
                have e1 := hdx.cell 1
                have e2 := hdx.cell 2
                simp only [List.getElem?_cons_zero, List.getElem?_cons_succ] at e0 e1 e2
                clear hdx
                refine withs_plain rfl ?_
                simp only [withs, List.getElem?_cons_zero, List.getElem?_cons_succ, Option.bind, Option.getD]
                repeat (with_reducible refine all_isV ?_)
                go_simp
                exact ⟨Only.refl _ _, isV.self _ _⟩
              refine owes2_cons (fun wx hox => ?_) ?_
              · skip
                skip
                refine withs_plain rfl ?_
                simp only [withs, List.getElem?_cons_zero, List.getElem?_cons_succ, Option.bind, Option.getD]
                repeat (with_reducible refine all_isV ?_)
                go_simp
                exact ⟨Only.refl _ _, isV.self _ _⟩
              exact owes2_nil
            case he =>
              simp only [List.drop_succ_cons, List.drop_zero]
              intro wx hox
              refine withs_of (by simp only [List.length, List.range, List.range.loop]; exact rfl) ?_
              simp only [withs, List.getElem?_cons_zero, List.getElem?_cons_succ, Option.bind, Option.getD]
              repeat (with_reducible refine all_isV ?_)
              go_simp
              have HOx := Lib.hid (HOn.out.nil_trans hox)
              clear hox HNn HMy HOn hcn
              go_wp2_with fail
              go_roundw
              case rel => exact ⟨k + 1, by omega, by go_num, HOx.out⟩
              case measure => simp [intOf] <;> omega
            case hl =>
              repeat (refine List.forall_mem_cons.2 ⟨?_, ?_⟩; exact isV.lasts _)
              exact fun _ h => (by cases h)
          · have hnl : ¬ (k : Int) < (L.length : Int) := by omega
            go_wp2_with fail
            go_ret
            exact ⟨rfl, HW3.out.nil_trans (HO11.out.nil_trans HO.out)⟩
      · skip
        go_wp2_with fail
        (with_reducible refine (ball_any d v ns (a : Int) w9 (Lib.hid (HT3.out.keep HO9.out)) (Lib.hid (HD.out.only HO9.out (by simp))) HDk (by omega)).mono ?_)
        rintro e w10 ⟨ma, rfl, hM, -, ho⟩
        have HO10 := Lib.hid (HO9.out.nil_trans ho)
        have HBb10 := Lib.hid (HBb9.out.only ho (by simp))
        have HM10 := Lib.hid hM
        clear hM ho HO9 HBb9
        go_wp2_with fail
        refine (rbelow_any Au cu ns (a : Int) w10 (Lib.hid (HNR3.out.only HO10.out)) (Lib.hid HDk.out.ok) (by omega)).mono ?_
        rintro e w11 ⟨u, rfl, hL, -, ho⟩
        obtain ⟨L, hLe⟩ : ∃ L, belowOf ns (a : Int) = L := ⟨_, rfl⟩
        have HLe := Lib.hid hLe
        have HIds : Hid (Ids ns L) := hLe ▸ belowL_ids HDk.out.ok (· ∈ [(a : Int)])
        rw [hLe] at hL HM10 HBb10
        clear hLe
        obtain ⟨Al, cl, rfl, hread⟩ := hL.shape
        have HR := Lib.hid hread
        have HO11 := Lib.hid (HO10.out.nil_trans ho)
        have HBb11 := Lib.hid (HBb10.out.only ho (by simp))
        have HM11 := Lib.hid (HM10.out.only ho (by simp))
        have hlen := HM11.out.len Tryd.underlying69
        have hll : (L.length : Int) ≤ 80 := by have := HIds.out.len; omega
        clear hL hread ho HO10 HBb10 HM10
        go_wp2_with fail
        go_loopw [23] (fun i wr => ∃ k : Nat, k ≤ L.length ∧ i = .int .i64 (k : Int) ∧ Only [] w11 wr) (fun i _ => L.length - (intOf i).toNat)
        case atStart => exact ⟨0, Nat.zero_le _, rfl, Only.refl _ _⟩
        case round =>
          obtain ⟨k, hk_, rfl, ho⟩ := hrel
          have HO := Lib.hid ho
          clear ho
          by_cases hlt : k < L.length
          · obtain ⟨y, hy, hyn⟩ := HIds.out.mem k hlt
            obtain ⟨b, o, rfl, hcell0⟩ := HR.out k hlt
            have hcell := HO.out.cell hcell0 (by simp)
            rw [hy] at hcell
            have hyL : (y : Int) ∈ L := by
              rw [← hy, List.getElem?_eq_getElem hlt]
              exact List.getElem_mem hlt
            have hlt' : (k : Int) < (L.length : Int) := by omega
            have hyI : (y : Int) < (ns.length : Int) := by omega
            have HBx := Lib.hid (HBb11.out.only HO.out (by simp))
            have HMx := Lib.hid (HM11.out.only HO.out (by simp))
            have d0 := HBx.out.cell (y * 3)
            have d1 := HBx.out.cell (y * 3 + 1)
            have d2 := HBx.out.cell (y * 3 + 2)
            rw [intV_get _ _ _ (by omega)] at d0 d1 d2
            rw [outK_0 ns hyL] at d0
            rw [outK_1 ns hyL] at d1
            rw [outK_2 ns hyL] at d2
            obtain ⟨ku, hku⟩ : ∃ ku, (ent lfB ns (y : Int)).u = ku := ⟨_, rfl⟩
            obtain ⟨kl, hkl⟩ : ∃ kl, (ent lfB ns (y : Int)).l = kl := ⟨_, rfl⟩
            obtain ⟨kk, hkk⟩ : ∃ kk, rootsL ns (belowOf ns (y : Int)) = kk := ⟨_, rfl⟩
            have HBo : Hid (mapB ns L (y : Int) = some (bndV ku kl kk)) := by
              show mapB ns L (y : Int) = _
              unfold mapB bndOf
              rw [if_pos hyL, hku, hkl, hkk]
            rw [hku] at d0
            rw [hkl] at d1
            rw [hkk] at d2
            clear hku hkl hkk hy
            go_upto_region 26 with fail
            have hs : Small (y : Int) := by have := HDk.out.len; unfold Small; omega
            have HMy := Lib.hid (HMx.out.only ((Only.refl [] wr).alloc (.cells #[.int .i64 ku, .int .i64 kl, .int .i64 (kk : Int)] 74)) (by simp))
            have HOn : Hid (Only [] w11 (wr.alloc (.cells #[.int .i64 ku, .int .i64 kl, .int .i64 (kk : Int)] 74))) := HO.out.alloc _
            have HNn := Lib.hid (Blk.new wr 74 [.int .i64 ku, .int .i64 kl, .int .i64 (kk : Int)])
            have hcn := ((Only.refl [] wr).alloc (.cells #[.int .i64 ku, .int .i64 kl, .int .i64 (kk : Int)] 74)).cell hcell (by simp)
            have HSm := Lib.hid hs
            clear HMx HBx d0 d1 d2 hcell HO hs
            generalize wr.alloc (.cells #[.int .i64 ku, .int .i64 kl, .int .i64 (kk : Int)] 74) = wn at *
            generalize wr.heap.size = gn at *
            apply wp_region_typed_tail2 13 (by kernel_rfl) [isV _, isV _, isV _, isV _, isV _, isV _, isV _, isV _, isV _, isV _, isV _, isV _, isV _] [[], [], [], [1, 2], [3], [0, 4], [], [6], [], [8], [], [10], [7, 9, 11]] (by kernel_rfl) (by kernel_rfl) (by kernel_rfl)
            case ho =>
              simp only [List.take_succ_cons, List.take_zero]
              refine owes2_cons (fun wx hox => ?_) ?_
              · skip
                skip
                refine withs_plain rfl ?_
                simp only [withs, List.getElem?_cons_zero, List.getElem?_cons_succ, Option.bind, Option.getD]
                repeat (with_reducible refine all_isV ?_)
                go_simp
                exact ⟨Only.refl _ _, isV.self _ _⟩
              refine owes2_cons (fun wx hox => ?_) ?_
              · skip
                skip
                refine withs_plain rfl ?_
                simp only [withs, List.getElem?_cons_zero, List.getElem?_cons_succ, Option.bind, Option.getD]
                repeat (with_reducible refine all_isV ?_)
                go_simp
                exact ⟨Only.refl _ _, isV.self _ _⟩
              refine owes2_cons (fun wx hox => ?_) ?_
              · skip
                skip
                refine withs_plain rfl ?_
                simp only [withs, List.getElem?_cons_zero, List.getElem?_cons_succ, Option.bind, Option.getD]
                repeat (with_reducible refine all_isV ?_)
                go_simp
                exact ⟨Only.refl _ _, isV.self _ _⟩
              refine owes2_cons (fun wx hox => ?_) ?_
              · skip
                skip
                refine withs_plain rfl ?_
                simp only [withs, List.getElem?_cons_zero, List.getElem?_cons_succ, Option.bind, Option.getD]
                repeat (with_reducible refine all_isV ?_)
                go_simp
                exact ⟨Only.refl _ _, isV.self _ _⟩
              refine owes2_cons (fun wx hox => ?_) ?_
              · skip
                (have hcx := hox.cell hcn (by simp))
                refine withs_plain rfl ?_
                simp only [withs, List.getElem?_cons_zero, List.getElem?_cons_succ, Option.bind, Option.getD]
                repeat (with_reducible refine all_isV ?_)
                go_simp
                exact ⟨Only.refl _ _, isV.self _ _⟩
              refine owes2_cons (fun wx hox => ?_) ?_
              · skip
                have hlk := (HMy.out.only hox (by simp)).look Tryd.underlying69 (zeroBnd _) HSm.out
                rw [HBo.out, Option.getD_some] at hlk
                refine withs_plain rfl ?_
                simp only [withs, List.getElem?_cons_zero, List.getElem?_cons_succ, Option.bind, Option.getD]
                repeat (with_reducible refine all_isV ?_)
                go_simp
                exact ⟨Only.refl _ _, isV.self _ _⟩
              refine owes2_cons (fun wx hox => ?_) ?_
              · skip
                skip
                refine withs_plain rfl ?_
                simp only [withs, List.getElem?_cons_zero, List.getElem?_cons_succ, Option.bind, Option.getD]
                repeat (with_reducible refine all_isV ?_)
                go_simp
                exact ⟨Only.refl _ _, isV.self _ _⟩
              refine owes2_cons (fun wx hox => ?_) ?_
              · skip
                have hdx := HNn.out.only hox (by simp)
                have e0 := hdx.cell 0
                have e1 := hdx.cell 1
                have e2 := hdx.cell 2
                simp only [List.getElem?_cons_zero, List.getElem?_cons_succ] at e0 e1 e2
                clear hdx
                refine withs_plain rfl ?_
                simp only [withs, List.getElem?_cons_zero, List.getElem?_cons_succ, Option.bind, Option.getD]
                repeat (with_reducible refine all_isV ?_)
                go_simp
                exact ⟨Only.refl _ _, isV.self _ _⟩
              refine owes2_cons (fun wx hox => ?_) ?_
              · skip
                skip
                refine withs_plain rfl ?_
                simp only [withs, List.getElem?_cons_zero, List.getElem?_cons_succ, Option.bind, Option.getD]
                repeat (with_reducible refine all_isV ?_)
                go_simp
                exact ⟨Only.refl _ _, isV.self _ _⟩
              refine owes2_cons (fun wx hox => ?_) ?_
              · skip
                have hdx := HNn.out.only hox (by simp)
                have e0 := hdx.cell 0
                have e1 := hdx.cell 1
                have e2 := hdx.cell 2
                simp only [List.getElem?_cons_zero, List.getElem?_cons_succ] at e0 e1 e2
                clear hdx
                refine withs_plain rfl ?_
                simp only [withs, List.getElem?_cons_zero, List.getElem?_cons_succ, Option.bind, Option.getD]
                repeat (with_reducible refine all_isV ?_)
                go_simp
                exact ⟨Only.refl _ _, isV.self _ _⟩
              refine owes2_cons (fun wx hox => ?_) ?_
              · skip
                skip
                refine withs_plain rfl ?_
                simp only [withs, List.getElem?_cons_zero, List.getElem?_cons_succ, Option.bind, Option.getD]
                repeat (with_reducible refine all_isV ?_)
                go_simp
                exact ⟨Only.refl _ _, isV.self _ _⟩
              refine owes2_cons (fun wx hox => ?_) ?_
              · skip
                have hdx := HNn.out.only hox (by simp)
                have e0 := hdx.cell 0
                have e1 := hdx.cell 1
                have e2 := hdx.cell 2
                simp only [List.getElem?_cons_zero, List.getElem?_cons_succ] at e0 e1 e2
                clear hdx
                refine withs_plain rfl ?_
                simp only [withs, List.getElem?_cons_zero, List.getElem?_cons_succ, Option.bind, Option.getD]
                repeat (with_reducible refine all_isV ?_)
                go_simp
                exact ⟨Only.refl _ _, isV.self _ _⟩
              refine owes2_cons (fun wx hox => ?_) ?_
              · skip
                skip
                refine withs_plain rfl ?_
                simp only [withs, List.getElem?_cons_zero, List.getElem?_cons_succ, Option.bind, Option.getD]
                repeat (with_reducible refine all_isV ?_)
                go_simp
                exact ⟨Only.refl _ _, isV.self _ _⟩
              exact owes2_nil
            case he =>
              simp only [List.drop_succ_cons, List.drop_zero]
              intro wx hox
              refine withs_of (by simp only [List.length, List.range, List.range.loop]; exact rfl) ?_
              simp only [withs, List.getElem?_cons_zero, List.getElem?_cons_succ, Option.bind, Option.getD]
              repeat (with_reducible refine all_isV ?_)
              go_simp
              have HOx := Lib.hid (HOn.out.nil_trans hox)
              clear hox HNn HMy HOn hcn
              go_wp2_with fail
              go_roundw
              case rel => exact ⟨k + 1, by omega, by go_num, HOx.out⟩
              case measure => simp [intOf] <;> omega
            case hl =>
              repeat (refine List.forall_mem_cons.2 ⟨?_, ?_⟩; exact isV.lasts _)
              exact fun _ h => (by cases h)
          · have hnl : ¬ (k : Int) < (L.length : Int) := by omega
            go_wp2_with fail
            go_ret
            exact ⟨rfl, HW3.out.nil_trans (HO11.out.nil_trans HO.out)⟩
  · rcases (show x < 0 ∨ (0 ≤ x ∧ (ns.length : Int) ≤ x) by omega) with hx0 | ⟨hx0, hx1⟩
    · have HOut : Hid (x < 0 ∨ (ns.length : Int) ≤ x) := .inl hx0
      clear hin
      go_wp2_with fail
      refine (bof_out d v ns x w3 HT3 HD HDk HOut.out HX.out).mono ?_
      rintro e w4 ⟨rfl, ho⟩
      have HO4 := Lib.hid ho
      have HB4 := Lib.hid (Blk.new w4 35 [.int .i64 0, .int .i64 0, .int .i64 0])
      have HO5 : Hid (Only [] w3 (w4.alloc (.cells #[.int .i64 0, .int .i64 0, .int .i64 0] 35))) := ho.alloc _
      clear ho HO4
      go_wp2_with fail
      generalize w4.alloc (.cells #[.int .i64 0, .int .i64 0, .int .i64 0] 35) = w5 at *
      generalize w4.heap.size = g4 at *
      refine (bsep_out d v ns x w5 (Lib.hid (HT3.out.keep HO5.out)) (Lib.hid (HD.out.only HO5.out (by simp))) HDk HOut.out HX.out).mono ?_
      rintro e w6 ⟨rfl, ho⟩
      have HB6 := Lib.hid (HB4.out.only ho (by simp))
      have HO6 := Lib.hid (HO5.out.nil_trans ho)
      clear ho HB4 HO5
      have c0 := HB6.out.cell 0
      have c1 := HB6.out.cell 1
      have c2 := HB6.out.cell 2
      simp only [List.getElem?_cons_zero, List.getElem?_cons_succ] at c0 c1 c2
      go_wp2_with fail
      (with_reducible refine (ball_any d v ns x w6 (Lib.hid (HT3.out.keep HO6.out)) (Lib.hid (HD.out.only HO6.out (by simp))) HDk (by omega)).mono ?_)
      rintro e w7 ⟨m, rfl, hM, -, ho⟩
      have HO7 := Lib.hid (HO6.out.nil_trans ho)
      have hlen := hM.len Tryd.underlying69
      rw [below_out HOut.out] at hlen
      simp only [List.length_nil] at hlen
      clear hM ho HB6 HO6 c0 c1 c2
      go_wp2_with fail
      go_ret
      exact ⟨rfl, HW3.out.nil_trans HO7.out⟩
    · have HOut : Hid (x < 0 ∨ (ns.length : Int) ≤ x) := .inr hx1
      have hx2 : ¬ x < 0 := by omega
      clear hin
      go_wp2_with fail
      refine (bof_out d v ns x w3 HT3 HD HDk HOut.out HX.out).mono ?_
      rintro e w4 ⟨rfl, ho⟩
      have HO4 := Lib.hid ho
      have HB4 := Lib.hid (Blk.new w4 35 [.int .i64 0, .int .i64 0, .int .i64 0])
      have HO5 : Hid (Only [] w3 (w4.alloc (.cells #[.int .i64 0, .int .i64 0, .int .i64 0] 35))) := ho.alloc _
      clear ho HO4
      go_wp2_with fail
      generalize w4.alloc (.cells #[.int .i64 0, .int .i64 0, .int .i64 0] 35) = w5 at *
      generalize w4.heap.size = g4 at *
      refine (bsep_out d v ns x w5 (Lib.hid (HT3.out.keep HO5.out)) (Lib.hid (HD.out.only HO5.out (by simp))) HDk HOut.out HX.out).mono ?_
      rintro e w6 ⟨rfl, ho⟩
      have HB6 := Lib.hid (HB4.out.only ho (by simp))
      have HO6 := Lib.hid (HO5.out.nil_trans ho)
      clear ho HB4 HO5
      have c0 := HB6.out.cell 0
      have c1 := HB6.out.cell 1
      have c2 := HB6.out.cell 2
      simp only [List.getElem?_cons_zero, List.getElem?_cons_succ] at c0 c1 c2
      go_wp2_with fail
      (with_reducible refine (ball_any d v ns x w6 (Lib.hid (HT3.out.keep HO6.out)) (Lib.hid (HD.out.only HO6.out (by simp))) HDk (by omega)).mono ?_)
      rintro e w7 ⟨m, rfl, hM, -, ho⟩
      have HO7 := Lib.hid (HO6.out.nil_trans ho)
      have hlen := hM.len Tryd.underlying69
      rw [below_out HOut.out] at hlen
      simp only [List.length_nil] at hlen
      clear hM ho HB6 HO6 c0 c1 c2
      go_wp2_with fail
      go_ret
      exact ⟨rfl, HW3.out.nil_trans HO7.out⟩
theorem boundTells_any (A : Option Addr) (c : Nat) (L : List Int) (B : Option Addr) (c' : Nat) (M : List Int) (V : Option Addr) (cv : Nat) (F : List Nat) (x : Int) (w : World) (hA : IntsIn w A L) (_ : L.length ≤ c) (_ : c ≤ maxLen) (hB : IntsIn w B M) (_ : M.length ≤ c') (_ : c' ≤ maxLen) (hV : FloatsIn w V F) (_ : F.length ≤ cv) (_ : cv ≤ maxLen) (hx : (Lit.int .i64 x).wf = true) (hT : Tab6 w) :
    Calls Tryd.prog 5 #[.slice A L.length c, .slice B M.length c', .slice V F.length cv, .int .i64 x] w fun e w' => e = .returned (.bool true) ∧ Only [] w w' := by
  by_cases h : 80 < (L.length : Int) ∨ ((L.length : Int) ≤ 80 ∧ 200 < (M.length : Int))
  · exact btells_out A B V _ c _ c' _ cv x w (Lib.hid hT) h
  · exact btells_in A B V c c' cv L M F x w (Lib.hid hT) (Lib.hid hA.read) (Lib.hid hB.read) (Lib.hid hV.read.1) (Lib.hid hV.read.2) (by omega) (by omega) hx
end Go.Proofs.YtigpnopeacicpaaDoor
