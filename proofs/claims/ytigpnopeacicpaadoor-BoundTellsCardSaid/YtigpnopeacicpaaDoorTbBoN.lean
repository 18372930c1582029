/-
  The reference's few and parts.
-/
import Derived.Test.YtigpnopeacicpaaDoorTbJ18
import Derived.Test.YtigpnopeacicpaaDoorTbFlR
namespace Go.Proofs.YtigpnopeacicpaaDoor
set_option linter.unusedSimpArgs false
open Go.RowKit
attribute [local go_sem] run_store_float

theorem rfew_any (v : Int) (w : World) : Calls Tryd.prog 95 #[.int .i64 v] w fun e w' => e = .returned (.int .i64 (min v topB)) ∧ w = w' := by
  go_enter Tryd.func95, Tryd.ntmps95
  go_wp2_with fail
  go_ret
  exact ⟨rfl, rfl⟩
/-- Integers at hand, by place. -/
def intV (n : Nat) (f : Nat → Int) : List Value := (List.range n).map fun j => .int .i64 (f j)
theorem intV_get (n : Nat) (f : Nat → Int) (j : Nat) (h : j < n) : (intV n f)[j]? = some (.int .i64 (f j)) := by simp [intV, h]
theorem intV_set (n : Nat) (f : Nat → Int) (a : Nat) (v : Int) : (intV n f).set a (.int .i64 v) = intV n (fun j => if j = a then v else f j) := by
  apply List.ext_getElem
  · simp [intV]
  · intro i h1 h2
    simp only [intV, List.getElem_set, List.getElem_map, List.getElem_range]
    by_cases e : a = i
    · subst e; simp
    · rw [if_neg e, if_neg (fun h => e h.symm)]
theorem Tryd.krbndInfo : (Tryd.prog.info? 74).map (fun i => (i.zero, i.size, i.bytes)) = some (some (.agg #[.int .i64 0, .int .i64 0, .int .i64 0]), 3, 24) := by kernel_rfl
theorem rbnd_parts : ∃ i : TypeInfo, Tryd.prog.info? 74 = some i ∧ i.zero = some (.agg #[.int .i64 0, .int .i64 0, .int .i64 0]) ∧ i.size = 3 ∧ i.bytes = 24 := by
  obtain ⟨i, h, e⟩ := Option.map_eq_some_iff.1 Tryd.krbndInfo
  simp only [Prod.mk.injEq] at e
  exact ⟨i, h, e.1, e.2.1, e.2.2⟩
theorem made_bnds (n : Nat) : (madeCells (Value.agg #[.int .i64 0, .int .i64 0, .int .i64 0]).cells n) = (intV n fun _ => 0).toArray := by
  have e : (Value.agg #[.int .i64 0, .int .i64 0, .int .i64 0]).cells = #[.int .i64 0, .int .i64 0, .int .i64 0] := rfl
  apply Array.ext'
  simp only [madeCells, e, intV]
  rw [Array.toList_map, Array.toList_range]
  apply List.map_congr_left
  intro i _
  have h : i % 3 = 0 ∨ i % 3 = 1 ∨ i % 3 = 2 := by omega
  rcases h with h | h | h <;> simp [h]
theorem make_bnds (w : World) (n : Nat) (hn : (n : Int) ≤ 16000000) : ∃ w', (Instr.makeSlice 71 (.int .i64 (n : Int)) (.int .i64 (n : Int))).run Tryd.prog w = .ok (.slice (some ⟨w.heap.size, 0, none⟩) n n) w' ∧
    Blk w' w.heap.size 74 (intV (n * 3) fun _ => 0) ∧ Only [] w w' := by
  obtain ⟨i0, hi, hz0, hz1, hz2⟩ := rbnd_parts
  have hr := run_make (P := Tryd.prog) w 71 74 i0 _ Tryd.underlying71 hi hz0 .i64 .i64 (n : Int) (n : Int) (by omega) (by omega) (by rw [hz2]; omega) (by omega)
  rw [Int.toNat_natCast, hz1, made_bnds] at hr
  exact ⟨_, hr, Blk.new w 74 (intV (n * 3) fun _ => 0), (Only.refl _ _).alloc _⟩
/-- Are a number's bounds as they should be, where its operands' are? -/
noncomputable def combOf (ns : List Nd) (y : Int) : En := combE lfB (nodeAt ns y) (ent lfB ns (nodeAt ns y).a) (ent lfB ns (nodeAt ns y).b)
noncomputable def clipB (ns : List Nd) (y : Int) : Bool := decide ((nodeAt ns y).k = 0) || (decide ((combOf ns y).u ≤ topB) && decide ((combOf ns y).l ≤ topB))
noncomputable def partsB (ns : List Nd) (L P : List Int) : Bool := decide (0 < L.length) && P.all (clipB ns)
noncomputable def outF (ns : List Nd) (P : List Int) (j : Nat) : Int := if ((j / 3 : Nat) : Int) ∈ P then (if j % 3 = 0 then (ent lfB ns ((j / 3 : Nat) : Int)).u else if j % 3 = 1 then (ent lfB ns ((j / 3 : Nat) : Int)).l else 0) else 0
theorem outF_next (ns : List Nd) {P P' : List Int} {a : Nat} (h : P' = P ++ [(a : Int)]) {u l : Int} (hu : (ent lfB ns (a : Int)).u = u) (hl : (ent lfB ns (a : Int)).l = l) :
    (fun j => if j = a * 3 + 2 then 0 else if j = a * 3 + 1 then l else if j = a * 3 then u else outF ns P j) = outF ns P' := by
  funext j
  subst h hu hl
  by_cases e : j / 3 = a
  · have h1 : ((j / 3 : Nat) : Int) ∈ P ++ [(a : Int)] := by simp [e]
    have h2 : j % 3 = 0 ∨ j % 3 = 1 ∨ j % 3 = 2 := by omega
    rcases h2 with h2 | h2 | h2
    · unfold outF
      rw [if_neg (by omega), if_neg (by omega), if_pos (by omega), if_pos h1, if_pos h2, e]
    · unfold outF
      rw [if_neg (by omega), if_pos (by omega), if_pos h1, if_neg (by omega), if_pos h2, e]
    · unfold outF
      rw [if_pos (by omega), if_pos h1, if_neg (by omega), if_neg (by omega)]
  · rw [if_neg (by omega), if_neg (by omega), if_neg (by omega)]
    unfold outF
    have h1 : ((j / 3 : Nat) : Int) ∈ P ++ [(a : Int)] ↔ ((j / 3 : Nat) : Int) ∈ P := by
      simp only [List.mem_append, List.mem_singleton]
      constructor
      · rintro (h | h)
        · exact h
        · exact absurd (by omega) e
      · exact .inl
    by_cases h2 : ((j / 3 : Nat) : Int) ∈ P
    · rw [if_pos h2, if_pos (h1.2 h2)]
    · rw [if_neg h2, if_neg (fun h => h2 (h1.1 h))]
theorem outF_same (ns : List Nd) {P P' : List Int} {a : Nat} (h : P' = P ++ [(a : Int)]) (hu : (ent lfB ns (a : Int)).u = 0) (hl : (ent lfB ns (a : Int)).l = 0) : outF ns P = outF ns P' := by
  subst h
  funext j
  unfold outF
  by_cases e : j / 3 = a
  · have h1 : ((j / 3 : Nat) : Int) ∈ P ++ [(a : Int)] := by simp [e]
    rw [if_pos h1, e, hu, hl]
    simp
  · have h1 : ((j / 3 : Nat) : Int) ∈ P ++ [(a : Int)] ↔ ((j / 3 : Nat) : Int) ∈ P := by
      simp only [List.mem_append, List.mem_singleton]
      constructor
      · rintro (h | h)
        · exact h
        · exact absurd (by omega) e
      · exact .inl
    by_cases h2 : ((j / 3 : Nat) : Int) ∈ P
    · rw [if_pos h2, if_pos (h1.2 h2)]
    · rw [if_neg h2, if_neg (fun h => h2 (h1.1 h))]
theorem outF_0 (ns : List Nd) {P : List Int} {a : Nat} (h : (a : Int) ∈ P) : outF ns P (a * 3) = (ent lfB ns (a : Int)).u := by
  have e : a * 3 / 3 = a := by omega
  unfold outF
  rw [e, if_pos h, if_pos (by omega)]
theorem outF_1 (ns : List Nd) {P : List Int} {a : Nat} (h : (a : Int) ∈ P) : outF ns P (a * 3 + 1) = (ent lfB ns (a : Int)).l := by
  have e : (a * 3 + 1) / 3 = a := by omega
  unfold outF
  rw [e, if_pos h, if_neg (by omega), if_pos (by omega)]
theorem outF_2 (ns : List Nd) {P : List Int} {a : Nat} (h : (a : Int) ∈ P) : outF ns P (a * 3 + 2) = 0 := by
  have e : (a * 3 + 2) / 3 = a := by omega
  unfold outF
  rw [e, if_pos h, if_neg (by omega), if_neg (by omega)]
theorem partsB_snoc (ns : List Nd) (L : List Int) {P P' : List Int} {a : Nat} (h : P' = P ++ [(a : Int)]) : partsB ns L P' = (partsB ns L P && clipB ns (a : Int)) := by
  subst h
  unfold partsB
  rw [List.all_append, Bool.and_assoc]
  simp
set_option maxHeartbeats 100000000 in
set_option maxRecDepth 100000 in
theorem rparts_any (A : Option Addr) (c : Nat) (ns : List Nd) (root : Int) (w : World) (hA : Hid (NRead w A ns)) (ok : Hid (DagOk ns)) (hl : (ns.length : Int) ≤ 200) :
    Calls Tryd.prog 67 #[.slice A ns.length c, .int .i64 root] w fun e w' => ∃ g, e = .returned (.tuple #[.slice (some ⟨g, 0, none⟩) ns.length ns.length, .bool (partsB ns (belowOf ns root) (belowOf ns root))]) ∧ Blk w' g 74 (intV (ns.length * 3) (outF ns (belowOf ns root))) ∧ w.heap.size ≤ g ∧ Only [] w w' := by
  obtain ⟨w1, hmk, hb1, ho1⟩ := make_bnds w ns.length (by omega)
  have HB1 := Lib.hid hb1
  have HO1 := Lib.hid ho1
  clear hb1 ho1
  go_enter Tryd.func67, Tryd.ntmps67
  go_wp2_with fail
  clear hmk
  refine (rbelow_any A c ns root w1 (Lib.hid (hA.out.only HO1.out)) (Lib.hid ok.out.ok) (by omega)).mono ?_
  rintro e w2 ⟨u, rfl, hL, hown, ho2⟩
  obtain ⟨L, hLe⟩ : ∃ L, belowOf ns root = L := ⟨_, rfl⟩
  have HLe := Lib.hid hLe
  have HIds : Hid (Ids ns L) := hLe ▸ belowL_ids ok.out.ok (· ∈ [root])
  have HAsc : Hid (L.Pairwise (· < ·)) := hLe ▸ belowL_asc ns (· ∈ [root])
  rw [hLe] at hL
  clear hLe
  obtain ⟨Au, cu, rfl, hread⟩ := hL.shape
  have HO2 : Hid (Only [] w w2) := HO1.out.nil_trans ho2
  have HB2 := Lib.hid (HB1.out.only ho2 (by simp))
  have HR := Lib.hid hread
  have hll : (L.length : Int) ≤ 200 := by have := HIds.out.len; omega
  obtain ⟨g, hg⟩ : ∃ g, w.heap.size = g := ⟨_, rfl⟩
  have HG := Lib.hid hg
  have HAu : Hid (∀ b o, Au = some ⟨b, o, none⟩ → b ≠ g) := by
    rintro b o rfl
    have h1 := hown b rfl
    have h2 := HB1.out.lt
    omega
  rw [hg] at HB2 ⊢
  clear hL hread ho2 HB1 HO1 hown hg
  go_wp2_with fail
  go_loopw [8, 9] (fun okv i wr => ∃ k : Nat, k ≤ L.length ∧ i = .int .i64 (k : Int) ∧ okv = .bool (partsB ns L (L.take k)) ∧ Only [g] w2 wr ∧ Only [] w wr ∧ Blk wr g 74 (intV (ns.length * 3) (outF ns (L.take k)))) (fun _ i _ => L.length - (intOf i).toNat)
  case atStart => exact ⟨0, Nat.zero_le _, rfl, by simp [partsB], Only.refl _ _, HO2.out, by
    have e : outF ns (L.take 0) = fun _ => 0 := by funext j; simp [outF]
    rw [e]; exact HB2.out⟩
  case round =>
    obtain ⟨k, hk, rfl, rfl, ho, ho', hB⟩ := hrel
    have HO := Lib.hid ho
    have HW := Lib.hid ho'
    have HB := Lib.hid hB
    clear ho ho' hB HB2
    by_cases hlt : k < L.length
    · obtain ⟨a, ha, han⟩ := HIds.out.mem k hlt
      obtain ⟨b, o, rfl, hcell0⟩ := HR.out k hlt
      have hcell := HO.out.cell hcell0 (by have := HAu.out b o rfl; simp; omega)
      rw [ha] at hcell
      have HTake : Hid (L.take (k + 1) = L.take k ++ [(a : Int)]) := by
        show _ = _
        rw [List.take_succ_eq_append_getElem hlt, ← ha, List.getElem?_eq_getElem hlt]
        rfl
      have HNot : Hid ((a : Int) ∉ L.take k) := by
        intro hm
        rw [List.mem_take_iff_getElem] at hm
        obtain ⟨j, hj, e⟩ := hm
        have h1 := (List.pairwise_iff_getElem.1 HAsc.out) j k (by omega) hlt (by omega)
        rw [List.getElem?_eq_getElem hlt, Option.getD_some] at ha
        omega
      obtain ⟨b', o', rfl, hc⟩ := hA.out.only HW.out a han
      obtain ⟨n0, n1, n2, n3⟩ := hc
      have hnode : nodeAt ns (a : Int) = ns[a]?.getD nd0 := by unfold nodeAt; rw [Int.toNat_natCast]; rfl
      have HN := Lib.hid hnode
      have HEnt := Lib.hid (ent_eq lfB ok.out.ok ok.out.nodes.kind han)
      have HKd : Hid (∀ c ∈ kids (nodeAt ns (a : Int)), 0 ≤ c ∧ c < (a : Int)) := ok.out.ok (a : Int) (by omega) (by omega)
      rw [HN.out] at HEnt HKd
      generalize ns[a]?.getD nd0 = nd at n0 n1 n2 n3 HN HEnt HKd
      obtain ⟨nk, nf, na, nb⟩ := nd
      simp only at n0 n1 n2 n3 HEnt HKd
      clear ha hnode
      have hk' : (k : Int) < (L.length : Int) := by omega
      have HOk := (ok.out.nodes a han).1
      rw [HN.out] at HOk
      go_upto_region 8 with fail
      have HG1 : Hid (g ≠ wr.heap.size) := by have := HB.out.lt; show g ≠ _; omega
      have HX1 := Lib.hid (Blk.new wr 31 [.int .i64 nk, .float .f64 nf, .int .i64 na, .int .i64 nb])
      have HB1 := Lib.hid (HB.out.alloc (.cells #[.int .i64 nk, .float .f64 nf, .int .i64 na, .int .i64 nb] 31))
      have HO1 : Hid (Only [g] w2 (wr.alloc (.cells #[.int .i64 nk, .float .f64 nf, .int .i64 na, .int .i64 nb] 31))) := HO.out.alloc _
      have HW1 : Hid (Only [] w (wr.alloc (.cells #[.int .i64 nk, .float .f64 nf, .int .i64 na, .int .i64 nb] 31))) := HW.out.alloc _
      have HC1 : Hid (b < wr.heap.size) := World.block_lt_of_cell? wr _ hcell
      have hcell1 : (wr.alloc (.cells #[.int .i64 nk, .float .f64 nf, .int .i64 na, .int .i64 nb] 31)).cell? ⟨b, o + k, none⟩ = some (.int .i64 (a : Int)) := ((Only.refl [] wr).alloc _).cell hcell (by simp)
      clear hcell n0 n1 n2 n3 HB HO HW
      generalize wr.alloc (.cells #[.int .i64 nk, .float .f64 nf, .int .i64 na, .int .i64 nb] 31) = w4 at *
      generalize wr.heap.size = g1 at *
      by_cases hk0 : nk = 0
      · focus
          subst hk0
          have q0 := HX1.out.cell 0
          have q1 := HX1.out.cell 1
          simp only [List.getElem?_cons_zero, List.getElem?_cons_succ] at q0 q1
          obtain ⟨hfin, hword⟩ := HOk.2 rfl
          have HRo : Hid (∀ W, Calls Tryd.prog 94 #[.float .f64 nf] W (RDP (dyW nf) W)) := fun W => by
            obtain ⟨h1, h2⟩ := fin_word2 hfin hword
            exact Fl.rofV nf _ (dyW nf) h1 h2 rfl W
          have HLf : Hid (lfB nf = leafE (dyW nf)) := if_pos ⟨hfin, hword⟩
          have HDb := Lib.hid (dyW_bnd hfin hword)
          generalize dyW nf = x at HRo HLf HDb
          go_wp2_with fail
          refine (HRo.out w4).mono ?_
          rintro e w5 ⟨s5, A5, k5, c5, rfl, hcr, hrv, ho⟩
          have hb5 := HB1.out.only ho (by simp)
          have HG2 : Hid (g ≠ w5.heap.size) := by have := hb5.lt; show g ≠ _; omega
          have HD1 := Lib.hid (Blk.new w5 47 [.bool s5, .slice A5 k5 c5, .int .i64 x.e])
          have HB2 := Lib.hid (hb5.alloc (.cells #[.bool s5, .slice A5 k5 c5, .int .i64 x.e] 47))
          have HO2 : Hid (Only [g] w2 (w5.alloc (.cells #[.bool s5, .slice A5 k5 c5, .int .i64 x.e] 47))) := (HO1.out.trans ho (fun y hy => by simp at hy)).alloc _
          have HW2 : Hid (Only [] w (w5.alloc (.cells #[.bool s5, .slice A5 k5 c5, .int .i64 x.e] 47))) := (HW1.out.nil_trans ho).alloc _
          have hcell2 := ((Only.refl [] w5).alloc (.cells #[.bool s5, .slice A5 k5 c5, .int .i64 x.e] 47)).cell (ho.cell hcell1 (by simp)) (by simp)
          have HV2 : Hid (RV (w5.alloc (.cells #[.bool s5, .slice A5 k5 c5, .int .i64 x.e] 47)) (.slice A5 k5 c5) x.z.natAbs) := hrv.only ((Only.refl _ _).alloc _)
          have HCr := Lib.hid hcr
          clear ho hb5 hcell1 hrv hcr q0 q1 HX1 HB1 HO1 HW1 HRo HG1 HC1
          obtain ⟨xe, hxe⟩ : ∃ xe, x.e = xe := ⟨_, rfl⟩
          have HXE := Lib.hid hxe
          have hlo := HDb.out.lo
          have hhi := HDb.out.hi
          have hbl := bitsN_le HDb.out.z
          rw [hxe] at hlo hhi HD1 HB2 HO2 HW2 HV2 hcell2 ⊢
          go_upto_region 10 with fail
          generalize w5.alloc (.cells #[.bool s5, .slice A5 k5 c5, .int .i64 xe] 47) = w6 at *
          generalize w5.heap.size = g2 at *
          have q0 := HD1.out.cell 0
          have q1 := HD1.out.cell 1
          have q2 := HD1.out.cell 2
          simp only [List.getElem?_cons_zero, List.getElem?_cons_succ] at q0 q1 q2
          obtain ⟨p, hp⟩ : ∃ p, x.z.sign = p := ⟨_, rfl⟩
          have HRD : Hid (RD w6 (.agg #[.bool s5, .slice A5 k5 c5, .int .i64 xe]) x) := ⟨s5, A5, k5, c5, by rw [HXE.out], HCr.out, HV2.out⟩
          have HFw : Hid (Few x.z.natAbs) := by
            show Few _
            exact rd_few HDb.out (by omega)
          go_wp2_with fail
          (with_reducible refine (rsign_d p HRD hp).mono ?_)
          rintro e w7 ⟨rfl, ho⟩
          have HD3 := Lib.hid (HD1.out.only ho (by simp))
          have HB3 := Lib.hid (HB2.out.only ho (by simp))
          have HO3 : Hid (Only [g] w2 w7) := HO2.out.trans ho (fun y hy => by simp at hy)
          have HW3 := Lib.hid (HW2.out.nil_trans ho)
          have HV3 := Lib.hid (HV2.out.only ho)
          have hcell3 := ho.cell hcell2 (by simp)
          clear ho q0 q1 q2 HD1 HB2 HO2 HW2 HV2 hcell2 HRD
          have HE : Hid (ent lfB ns (a : Int) = clipE (leafE x)) := by
            show _ = _
            rw [HEnt.out, ← HLf.out]
            rfl
          have HCl : Hid (clipB ns (a : Int) = true) := by
            show _ = _
            unfold clipB
            rw [HN.out]
            rfl
          by_cases hz : x.z = 0
          · have hp0 : p = 0 := by rw [← hp, hz]; rfl
            subst hp0
            have HL : Hid (leafE x = ⟨0, 0, true⟩) := by show leafE x = _; unfold leafE; rw [if_pos hz]
            clear hz hp
            have HBe : Hid (Blk w7 g 74 (intV (ns.length * 3) (outF ns (L.take (k + 1))))) := by
              rw [← outF_same ns HTake.out (by rw [HE.out, HL.out]; rfl) (by rw [HE.out, HL.out]; rfl)]
              exact HB3.out
            go_wp2_with fail
            go_roundw
            case rel => exact ⟨k + 1, by omega, by go_num, by rw [partsB_snoc ns L HTake.out, HCl.out, Bool.and_true], HO3.out, HW3.out, HBe.out⟩
            case measure => simp [intOf] <;> omega
          · have HL : Hid (leafE x = ⟨(bitsN x.z.natAbs : Int) + max xe 0, max (-xe) 0, true⟩) := by show leafE x = _; unfold leafE; rw [if_neg hz, HXE.out]
            have hp0 : (p == 0) = false := by rw [beq_eq_false_iff_ne, ← hp]; exact fun h => hz (by rwa [Int.sign_eq_zero_iff_zero] at h)
            clear hz hp
            obtain ⟨nb', hnb⟩ : ∃ nb' : Nat, bitsN x.z.natAbs = nb' := ⟨_, rfl⟩
            have HNB := Lib.hid hnb
            rw [hnb] at hbl HL
            clear hnb
            have HEu : Hid ((ent lfB ns (a : Int)).u = (nb' : Int) + max xe 0) := by
              show _ = _
              rw [HE.out, HL.out]
              simp only [clipE, topB_val]
              omega
            have HEl : Hid ((ent lfB ns (a : Int)).l = max (-xe) 0) := by
              show _ = _
              rw [HE.out, HL.out]
              simp only [clipE, topB_val]
              omega
            have hsum : IntKind.i64.wrap ((nb' : Int) + max xe 0) = (nb' : Int) + max xe 0 := wrap_i64 (by omega)
            have hneg : IntKind.i64.wrap (-xe) = -xe := wrap_i64 (by omega)
            have han' : (a : Int) < (ns.length : Int) := by omega
            go_upto_region 11 with fail
            apply wp_region_typed_tail2 17 (by kernel_rfl) [isV _, isV _, isV _, isV _, isV _, isV _, isV _, isV _, isV _, isV _, isV _, isV _, isV _, isV _, isV _, isV _, isV _] [[], [], [], [1, 2], [3], [], [5], [6], [], [8], [9], [7, 10], [], [12], [13], [14], [11, 15]] (by kernel_rfl) (by kernel_rfl) (by kernel_rfl)
            case ho =>
              simp only [List.take_succ_cons, List.take_zero]
              refine owes2_cons (fun wx hox => ?_) ?_
              · skip
                skip
                refine withs_plain rfl ?_
                simp only [withs, List.getElem?_cons_zero, List.getElem?_cons_succ, Option.bind, Option.getD]
                repeat (with_reducible refine all_isV ?_)
                go_simp
                exact ⟨Only.refl _ _, isV.self _ _⟩
              refine owes2_cons (fun wx hox => ?_) ?_
              · skip
                skip
                refine withs_plain rfl ?_
                simp only [withs, List.getElem?_cons_zero, List.getElem?_cons_succ, Option.bind, Option.getD]
                repeat (with_reducible refine all_isV ?_)
                go_simp
                exact ⟨Only.refl _ _, isV.self _ _⟩
              refine owes2_cons (fun wx hox => ?_) ?_
              · skip
                skip
                refine withs_plain rfl ?_
                simp only [withs, List.getElem?_cons_zero, List.getElem?_cons_succ, Option.bind, Option.getD]
                repeat (with_reducible refine all_isV ?_)
                go_simp
                exact ⟨Only.refl _ _, isV.self _ _⟩
              refine owes2_cons (fun wx hox => ?_) ?_
              · skip
                skip
                refine withs_plain rfl ?_
                simp only [withs, List.getElem?_cons_zero, List.getElem?_cons_succ, Option.bind, Option.getD]
                repeat (with_reducible refine all_isV ?_)
                go_simp
                exact ⟨Only.refl _ _, isV.self _ _⟩
              refine owes2_cons (fun wx hox => ?_) ?_
              · skip
                have hdx := HD3.out.only hox (by simp)
                have q1 := hdx.cell 1
                have q2 := hdx.cell 2
                simp only [List.getElem?_cons_zero, List.getElem?_cons_succ] at q1 q2
                have hcx := hox.cell hcell3 (by simp)
                have hvx := Lib.hid (HV3.out.only hox)
                clear hdx
                refine withs_plain rfl ?_
                simp only [withs, List.getElem?_cons_zero, List.getElem?_cons_succ, Option.bind, Option.getD]
                repeat (with_reducible refine all_isV ?_)
                go_simp
                exact ⟨Only.refl _ _, isV.self _ _⟩
              refine owes2_cons (fun wx hox => ?_) ?_
              · skip
                skip
                refine withs_plain rfl ?_
                simp only [withs, List.getElem?_cons_zero, List.getElem?_cons_succ, Option.bind, Option.getD]
                repeat (with_reducible refine all_isV ?_)
                go_simp
                exact ⟨Only.refl _ _, isV.self _ _⟩
              refine owes2_cons (fun wx hox => ?_) ?_
              · skip
                have hdx := HD3.out.only hox (by simp)
                have q1 := hdx.cell 1
                have q2 := hdx.cell 2
                simp only [List.getElem?_cons_zero, List.getElem?_cons_succ] at q1 q2
                have hcx := hox.cell hcell3 (by simp)
                have hvx := Lib.hid (HV3.out.only hox)
                clear hdx
                refine withs_plain rfl ?_
                simp only [withs, List.getElem?_cons_zero, List.getElem?_cons_succ, Option.bind, Option.getD]
                repeat (with_reducible refine all_isV ?_)
                go_simp
                exact ⟨Only.refl _ _, isV.self _ _⟩
              refine owes2_cons (fun wx hox => ?_) ?_
              · skip
                have hdx := HD3.out.only hox (by simp)
                have q1 := hdx.cell 1
                have q2 := hdx.cell 2
                simp only [List.getElem?_cons_zero, List.getElem?_cons_succ] at q1 q2
                have hcx := hox.cell hcell3 (by simp)
                have hvx := Lib.hid (HV3.out.only hox)
                clear hdx
                refine withs_plain rfl ?_
                simp only [withs, List.getElem?_cons_zero, List.getElem?_cons_succ, Option.bind, Option.getD]
                repeat (with_reducible refine all_isV ?_)
                go_simp
                ((with_reducible exact grow_same (rbitsV_v nb' hvx HFw HNB.out)))
              refine owes2_cons (fun wx hox => ?_) ?_
              · skip
                skip
                refine withs_plain rfl ?_
                simp only [withs, List.getElem?_cons_zero, List.getElem?_cons_succ, Option.bind, Option.getD]
                repeat (with_reducible refine all_isV ?_)
                go_simp
                exact ⟨Only.refl _ _, isV.self _ _⟩
              refine owes2_cons (fun wx hox => ?_) ?_
              · skip
                have hdx := HD3.out.only hox (by simp)
                have q1 := hdx.cell 1
                have q2 := hdx.cell 2
                simp only [List.getElem?_cons_zero, List.getElem?_cons_succ] at q1 q2
                have hcx := hox.cell hcell3 (by simp)
                have hvx := Lib.hid (HV3.out.only hox)
                clear hdx
                refine withs_plain rfl ?_
                simp only [withs, List.getElem?_cons_zero, List.getElem?_cons_succ, Option.bind, Option.getD]
                repeat (with_reducible refine all_isV ?_)
                go_simp
                exact ⟨Only.refl _ _, isV.self _ _⟩
              refine owes2_cons (fun wx hox => ?_) ?_
              · skip
                skip
                refine withs_plain rfl ?_
                simp only [withs, List.getElem?_cons_zero, List.getElem?_cons_succ, Option.bind, Option.getD]
                repeat (with_reducible refine all_isV ?_)
                go_simp
                exact ⟨Only.refl _ _, isV.self _ _⟩
              refine owes2_cons (fun wx hox => ?_) ?_
              · skip
                skip
                refine withs_plain rfl ?_
                simp only [withs, List.getElem?_cons_zero, List.getElem?_cons_succ, Option.bind, Option.getD]
                repeat (with_reducible refine all_isV ?_)
                go_simp
                exact ⟨Only.refl _ _, isV.self _ _⟩
              refine owes2_cons (fun wx hox => ?_) ?_
              · skip
                skip
                refine withs_plain rfl ?_
                simp only [withs, List.getElem?_cons_zero, List.getElem?_cons_succ, Option.bind, Option.getD]
                repeat (with_reducible refine all_isV ?_)
                go_simp
                exact ⟨Only.refl _ _, isV.self _ _⟩
              refine owes2_cons (fun wx hox => ?_) ?_
              · skip
                have hdx := HD3.out.only hox (by simp)
                have q1 := hdx.cell 1
                have q2 := hdx.cell 2
                simp only [List.getElem?_cons_zero, List.getElem?_cons_succ] at q1 q2
                have hcx := hox.cell hcell3 (by simp)
                have hvx := Lib.hid (HV3.out.only hox)
                clear hdx
                refine withs_plain rfl ?_
                simp only [withs, List.getElem?_cons_zero, List.getElem?_cons_succ, Option.bind, Option.getD]
                repeat (with_reducible refine all_isV ?_)
                go_simp
                exact ⟨Only.refl _ _, isV.self _ _⟩
              refine owes2_cons (fun wx hox => ?_) ?_
              · skip
                skip
                refine withs_plain rfl ?_
                simp only [withs, List.getElem?_cons_zero, List.getElem?_cons_succ, Option.bind, Option.getD]
                repeat (with_reducible refine all_isV ?_)
                go_simp
                exact ⟨Only.refl _ _, isV.self _ _⟩
              refine owes2_cons (fun wx hox => ?_) ?_
              · skip
                skip
                refine withs_plain rfl ?_
                simp only [withs, List.getElem?_cons_zero, List.getElem?_cons_succ, Option.bind, Option.getD]
                repeat (with_reducible refine all_isV ?_)
                go_simp
                exact ⟨Only.refl _ _, isV.self _ _⟩
              refine owes2_cons (fun wx hox => ?_) ?_
              · skip
                skip
                refine withs_plain rfl ?_
                simp only [withs, List.getElem?_cons_zero, List.getElem?_cons_succ, Option.bind, Option.getD]
                repeat (with_reducible refine all_isV ?_)
                go_simp
                exact ⟨Only.refl _ _, isV.self _ _⟩
              exact owes2_nil
            case he =>
              simp only [List.drop_succ_cons, List.drop_zero]
              intro wx hox
              refine withs_of (by simp only [List.length, List.range, List.range.loop]; exact rfl) ?_
              simp only [withs, List.getElem?_cons_zero, List.getElem?_cons_succ, Option.bind, Option.getD]
              repeat (with_reducible refine all_isV ?_)
              go_simp
              have HB4 := Lib.hid (HB3.out.only hox (by simp))
              have HO4 : Hid (Only [g] w2 wx) := HO3.out.trans hox (fun y hy => by simp at hy)
              have HW4 := Lib.hid (HW3.out.nil_trans hox)
              clear hox hcell3 HD3 HV3 HB3 HO3 HW3
              have HBs : Hid (Blk (((wx.setCell ⟨g, a * 3, none⟩ (.int .i64 ((nb' : Int) + max xe 0))).setCell ⟨g, a * 3 + 1, none⟩ (.int .i64 (max (-xe) 0))).setCell ⟨g, a * 3 + 2, none⟩ (.int .i64 0)) g 74 (intV (ns.length * 3) (outF ns (L.take (k + 1))))) := by
                have h := ((HB4.out.set_ (a * 3) (.int .i64 ((nb' : Int) + max xe 0))).set_ (a * 3 + 1) (.int .i64 (max (-xe) 0))).set_ (a * 3 + 2) (.int .i64 0)
                rw [intV_set, intV_set, intV_set, outF_next ns HTake.out HEu.out HEl.out] at h
                exact h
              have HOs : Hid (Only [g] w2 (((wx.setCell ⟨g, a * 3, none⟩ (.int .i64 ((nb' : Int) + max xe 0))).setCell ⟨g, a * 3 + 1, none⟩ (.int .i64 (max (-xe) 0))).setCell ⟨g, a * 3 + 2, none⟩ (.int .i64 0))) := (((HO4.out.setCell (.inl (by simp)) _).setCell (.inl (by simp)) _).setCell (.inl (by simp)) _)
              have HWs : Hid (Only [] w (((wx.setCell ⟨g, a * 3, none⟩ (.int .i64 ((nb' : Int) + max xe 0))).setCell ⟨g, a * 3 + 1, none⟩ (.int .i64 (max (-xe) 0))).setCell ⟨g, a * 3 + 2, none⟩ (.int .i64 0))) := ((((HW4.out.setCell (.inr (by have := HG.out; show _ ≤ g; omega)) _).setCell (.inr (by have := HG.out; show _ ≤ g; omega)) _).setCell (.inr (by have := HG.out; show _ ≤ g; omega)) _))
              have c0 := HB4.out.cell (a * 3)
              have c1 := HB4.out.cell (a * 3 + 1)
              have c2 := HB4.out.cell (a * 3 + 2)
              rw [intV_get _ _ _ (by omega)] at c0 c1 c2
              have f0 := HB4.out.frozen (a * 3)
              have f1 := HB4.out.frozen (a * 3 + 1)
              have f2 := HB4.out.frozen (a * 3 + 2)
              go_wp2_with fail
              go_roundw
              case rel => exact ⟨k + 1, by omega, by go_num, by rw [partsB_snoc ns L HTake.out, HCl.out, Bool.and_true], HOs.out, HWs.out, HBs.out⟩
              case measure => simp [intOf] <;> omega
            case hl =>
              repeat (refine List.forall_mem_cons.2 ⟨?_, ?_⟩; exact isV.lasts _)
              exact fun _ h => (by cases h)
      · have gk0 : (nk == 0) = false := by simpa using hk0
        obtain ⟨h0a, hak⟩ := HKd.out na (by unfold kids; rw [if_neg hk0]; split <;> simp)
        obtain ⟨a1, rfl⟩ : ∃ a1 : Nat, na = (a1 : Int) := ⟨na.toNat, by omega⟩
        have HKt := Lib.hid ((rootsOk_below ok.out.ok (· ∈ [root])).kid k (by rw [show belowL ns (· ∈ [root]) = L from HLe.out]; exact hlt))
        rw [show belowL ns (· ∈ [root]) = L from HLe.out] at HKt
        have haL : L[k]?.getD 0 = (a : Int) := by
          have h1 := HTake.out
          rw [List.take_succ_eq_append_getElem hlt] at h1
          have h2 := List.append_cancel_left h1
          injection h2 with h2
          rw [List.getElem?_eq_getElem hlt, h2]
          rfl
        rw [haL, HN.out] at HKt
        clear haL
        have hma := HKt.out (a1 : Int) (by unfold kids; rw [if_neg hk0]; split <;> simp)
        have a0 := HB1.out.cell (a1 * 3)
        have a1_ := HB1.out.cell (a1 * 3 + 1)
        have a2 := HB1.out.cell (a1 * 3 + 2)
        rw [intV_get _ _ _ (by omega)] at a0 a1_ a2
        rw [outF_0 ns hma] at a0
        rw [outF_1 ns hma] at a1_
        rw [outF_2 ns hma] at a2
        have HEa := Lib.hid (ent_ok lfB_ok ns (a1 : Int))
        obtain ⟨ea, hea⟩ : ∃ ea, ent lfB ns (a1 : Int) = ea := ⟨_, rfl⟩
        have HEa_ := Lib.hid hea
        rw [hea] at a0 a1_ HEa
        clear hea
        have q0 := HX1.out.cell 0
        have q2 := HX1.out.cell 2
        simp only [List.getElem?_cons_zero, List.getElem?_cons_succ] at q0 q2
        have hal : (a1 : Int) < (ns.length : Int) := by omega
        go_upto_region 14 with fail
        have HNe : Hid (g ≠ w4.heap.size ∧ g ≠ w4.heap.size + 1 ∧ g1 ≠ w4.heap.size + 1 ∧ b ≠ w4.heap.size + 1 ∧ w2.heap.size ≤ w4.heap.size + 1 ∧ w.heap.size ≤ w4.heap.size + 1 ∧ w4.heap.size ≠ w4.heap.size + 1) := by
          have h1 := HB1.out.lt
          have h2 := HX1.out.lt
          have h3 := HC1.out
          have h4 := HO1.out.size
          have h5 := HW1.out.size
          show _ ∧ _
          omega
        have HA := Lib.hid ((Blk.new w4 74 [.int .i64 ea.u, .int .i64 ea.l, .int .i64 0]).alloc (.cells #[.int .i64 0, .int .i64 0, .int .i64 0] 74))
        have HC := Lib.hid (Blk.new (w4.alloc (.cells #[.int .i64 ea.u, .int .i64 ea.l, .int .i64 0] 74)) 74 [.int .i64 0, .int .i64 0, .int .i64 0])
        rw [World.size_alloc] at HC
        have HOal : Hid (Only [] w4 ((w4.alloc (.cells #[.int .i64 ea.u, .int .i64 ea.l, .int .i64 0] 74)).alloc (.cells #[.int .i64 0, .int .i64 0, .int .i64 0] 74))) := ((Only.refl _ _).alloc _).alloc _
        have HB := Lib.hid (HB1.out.only HOal.out (by simp))
        have HX := Lib.hid (HX1.out.only HOal.out (by simp))
        have HO : Hid (Only [g] w2 ((w4.alloc (.cells #[.int .i64 ea.u, .int .i64 ea.l, .int .i64 0] 74)).alloc (.cells #[.int .i64 0, .int .i64 0, .int .i64 0] 74))) := (HO1.out.alloc _).alloc _
        have HW : Hid (Only [] w ((w4.alloc (.cells #[.int .i64 ea.u, .int .i64 ea.l, .int .i64 0] 74)).alloc (.cells #[.int .i64 0, .int .i64 0, .int .i64 0] 74))) := (HW1.out.alloc _).alloc _
        have hcell := HOal.out.cell hcell1 (by simp)
        clear a0 a1_ a2 q0 q2 HB1 HX1 HO1 HW1 hcell1 HOal HC1
        generalize (w4.alloc (.cells #[.int .i64 ea.u, .int .i64 ea.l, .int .i64 0] 74)).alloc (.cells #[.int .i64 0, .int .i64 0, .int .i64 0] 74) = w5 at *
        obtain ⟨gc, hgc⟩ : ∃ gc, w4.heap.size + 1 = gc := ⟨_, rfl⟩
        try simp only [World.size_alloc] at *
        rw [hgc] at HNe HC ⊢
        clear hgc
        generalize w4.heap.size = ga at *
        have q0 := HX.out.cell 0
        simp only [List.getElem?_cons_zero] at q0
        go_upto_if 72 with fail
        go_cut [14, 15] from 25 to 144 (fun _ _ wx => ∃ U V : Int, Hid ((combOf ns (a : Int)).u = U ∧ (combOf ns (a : Int)).l = V) ∧ Hid (Blk wx g 74 (intV (ns.length * 3) (outF ns (L.take k)))) ∧ Hid (Blk wx gc 74 [.int .i64 U, .int .i64 V, .int .i64 0]) ∧ Hid (Only [g] w2 wx) ∧ Hid (Only [] w wx) ∧ Hid (wx.cell? ⟨b, o + k, none⟩ = some (.int .i64 (a : Int))))
        case first =>
          by_cases hk5 : nk = 5
          · subst hk5
            obtain ⟨eu, el, eo⟩ := ea
            obtain ⟨hu0, hu1, hl0, hl1⟩ := HEa.out
            simp only [topB_val] at hu0 hu1 hl0 hl1
            have x1 : IntKind.i64.wrap (eu + el) = eu + el := wrap_i64 (by omega)
            have x2 : IntKind.i64.wrap (eu + el + 1) = eu + el + 1 := wrap_i64 (by omega)
            obtain ⟨m, hm⟩ : ∃ m, (eu + el + 1) / 2 = m := ⟨_, rfl⟩
            have x3 : (eu + el + 1).tdiv 2 = m := by rw [Int.tdiv_eq_ediv_of_nonneg (by omega), hm]
            have x4 : IntKind.i64.wrap m = m := wrap_i64 (by omega)
            have a0 := HA.out.cell 0
            have a1_ := HA.out.cell 1
            simp only [List.getElem?_cons_zero, List.getElem?_cons_succ] at a0 a1_
            have c0 := HC.out.cell 0
            have c1 := HC.out.cell 1
            have c2 := HC.out.cell 2
            have f0 := HC.out.frozen 0
            have f1 := HC.out.frozen 1
            have f2 := HC.out.frozen 2
            simp only [List.getElem?_cons_zero, List.getElem?_cons_succ] at c0 c1 c2
            have HOc : Hid (Only [gc] w5 (((w5.setCell ⟨gc, 0, none⟩ (.int .i64 (m))).setCell ⟨gc, 1, none⟩ (.int .i64 (el))).setCell ⟨gc, 2, none⟩ (.int .i64 0))) := (((Only.refl [gc] w5).setCell (.inl (by simp)) _).setCell (.inl (by simp)) _).setCell (.inl (by simp)) _
            have HCc : Hid (Blk (((w5.setCell ⟨gc, 0, none⟩ (.int .i64 (m))).setCell ⟨gc, 1, none⟩ (.int .i64 (el))).setCell ⟨gc, 2, none⟩ (.int .i64 0)) gc 74 [.int .i64 (m), .int .i64 (el), .int .i64 0]) := ((HC.out.set_ 0 _).set_ 1 _).set_ 2 _
            have HBc := Lib.hid (HB.out.only HOc.out (by have := HNe.out; simp; omega))
            have HOd : Hid (Only [g] w2 (((w5.setCell ⟨gc, 0, none⟩ (.int .i64 (m))).setCell ⟨gc, 1, none⟩ (.int .i64 (el))).setCell ⟨gc, 2, none⟩ (.int .i64 0))) := HO.out.trans HOc.out (fun y hy => .inr (by have := HNe.out; have e : y = gc := (by simpa using hy); omega))
            have HWc : Hid (Only [] w (((w5.setCell ⟨gc, 0, none⟩ (.int .i64 (m))).setCell ⟨gc, 1, none⟩ (.int .i64 (el))).setCell ⟨gc, 2, none⟩ (.int .i64 0))) := HW.out.trans HOc.out (fun y hy => .inr (by have := HNe.out; have e : y = gc := (by simpa using hy); omega))
            have hcell' := HOc.out.cell hcell (by have := HNe.out; simp; omega)
            have HXc := Lib.hid (HX.out.only HOc.out (by have := HNe.out; simp; omega))
            have HAc := Lib.hid (HA.out.only HOc.out (by have := HNe.out; simp; omega))
            clear HB HO HW HC HX HA hcell HOc
            go_upto_region 17 with fail
            generalize ((w5.setCell ⟨gc, 0, none⟩ (.int .i64 (m))).setCell ⟨gc, 1, none⟩ (.int .i64 (el))).setCell ⟨gc, 2, none⟩ (.int .i64 0) = w6 at *
            have HB := HBc
            have HO := HOd
            have HW := HWc
            have HC := HCc
            have HX := HXc
            have HA := HAc
            have hcell := hcell'
            clear HBc HOd HWc HCc HXc HAc hcell' c0 c1 c2 f0 f1 f2
            have HCo : Hid (combOf ns (a : Int) = if el ≤ eu then (⟨m, el, eo⟩ : En) else ⟨eu, m, eo⟩) := by
              show _ = _
              unfold combOf
              rw [HN.out]
              show combE lfB ⟨5, nf, a1, nb⟩ (ent lfB ns (a1 : Int)) _ = _
              rw [HEa_.out, ← hm]
              rfl
            clear a0 a1_
            have a0 := HA.out.cell 0
            have a1_ := HA.out.cell 1
            simp only [List.getElem?_cons_zero, List.getElem?_cons_succ] at a0 a1_
            by_cases hle : el ≤ eu
            · have HCm : Hid (combOf ns (a : Int) = ⟨m, el, eo⟩) := by show _ = _; rw [HCo.out, if_pos hle]
              have hnl : ¬ eu < el := by omega
              clear HCo hm x1 x2 x3 x4 hu0 hu1 hl0 hl1
              go_wp2_with fail
              go_meet
              exact ⟨m, el, ⟨by rw [HCm.out], by rw [HCm.out]⟩, HB, HC, HO, HW, hcell⟩
            · have HCm : Hid (combOf ns (a : Int) = ⟨eu, m, eo⟩) := by show _ = _; rw [HCo.out, if_neg hle]
              have hnl : eu < el := by omega
              clear HCo hm x1 x2 x3 x4 hu0 hu1 hl0 hl1
              have c0 := HC.out.cell 0
              have c1 := HC.out.cell 1
              have c2 := HC.out.cell 2
              have f0 := HC.out.frozen 0
              have f1 := HC.out.frozen 1
              have f2 := HC.out.frozen 2
              simp only [List.getElem?_cons_zero, List.getElem?_cons_succ] at c0 c1 c2
              have HOc : Hid (Only [gc] w6 (((w6.setCell ⟨gc, 0, none⟩ (.int .i64 (eu))).setCell ⟨gc, 1, none⟩ (.int .i64 (m))).setCell ⟨gc, 2, none⟩ (.int .i64 0))) := (((Only.refl [gc] w6).setCell (.inl (by simp)) _).setCell (.inl (by simp)) _).setCell (.inl (by simp)) _
              have HCc : Hid (Blk (((w6.setCell ⟨gc, 0, none⟩ (.int .i64 (eu))).setCell ⟨gc, 1, none⟩ (.int .i64 (m))).setCell ⟨gc, 2, none⟩ (.int .i64 0)) gc 74 [.int .i64 (eu), .int .i64 (m), .int .i64 0]) := ((HC.out.set_ 0 _).set_ 1 _).set_ 2 _
              have HBc := Lib.hid (HB.out.only HOc.out (by have := HNe.out; simp; omega))
              have HOd : Hid (Only [g] w2 (((w6.setCell ⟨gc, 0, none⟩ (.int .i64 (eu))).setCell ⟨gc, 1, none⟩ (.int .i64 (m))).setCell ⟨gc, 2, none⟩ (.int .i64 0))) := HO.out.trans HOc.out (fun y hy => .inr (by have := HNe.out; have e : y = gc := (by simpa using hy); omega))
              have HWc : Hid (Only [] w (((w6.setCell ⟨gc, 0, none⟩ (.int .i64 (eu))).setCell ⟨gc, 1, none⟩ (.int .i64 (m))).setCell ⟨gc, 2, none⟩ (.int .i64 0))) := HW.out.trans HOc.out (fun y hy => .inr (by have := HNe.out; have e : y = gc := (by simpa using hy); omega))
              have hcell' := HOc.out.cell hcell (by have := HNe.out; simp; omega)
              have HXc := Lib.hid (HX.out.only HOc.out (by have := HNe.out; simp; omega))
              have HAc := Lib.hid (HA.out.only HOc.out (by have := HNe.out; simp; omega))
              clear HB HO HW HC HX HA hcell HOc
              go_wp2_with fail
              go_meet
              exact ⟨eu, m, ⟨by rw [HCm.out], by rw [HCm.out]⟩, HBc, HCc, HOd, HWc, hcell'⟩
          · have gk5 : (nk == 5) = false := by simpa using hk5
            obtain ⟨h0b, hbk⟩ := HKd.out nb (by unfold kids; rw [if_neg hk0, if_neg hk5]; simp)
            obtain ⟨b1, rfl⟩ : ∃ b1 : Nat, nb = (b1 : Int) := ⟨nb.toNat, by omega⟩
            have hmb := HKt.out (b1 : Int) (by unfold kids; rw [if_neg hk0, if_neg hk5]; simp)
            have b0 := HB.out.cell (b1 * 3)
            have b1_ := HB.out.cell (b1 * 3 + 1)
            have b2 := HB.out.cell (b1 * 3 + 2)
            rw [intV_get _ _ _ (by omega)] at b0 b1_ b2
            rw [outF_0 ns hmb] at b0
            rw [outF_1 ns hmb] at b1_
            rw [outF_2 ns hmb] at b2
            have HEb := Lib.hid (ent_ok lfB_ok ns (b1 : Int))
            obtain ⟨eb, heb⟩ : ∃ eb, ent lfB ns (b1 : Int) = eb := ⟨_, rfl⟩
            have HEb_ := Lib.hid heb
            rw [heb] at b0 b1_ HEb
            clear heb
            have q3 := HX.out.cell 3
            simp only [List.getElem?_cons_zero, List.getElem?_cons_succ] at q3
            have hbl : (b1 : Int) < (ns.length : Int) := by omega
            go_upto_region 20 with fail
            have HNb : Hid (g ≠ w5.heap.size ∧ g1 ≠ w5.heap.size ∧ gc ≠ w5.heap.size ∧ ga ≠ w5.heap.size) := by
              have h1 := HB.out.lt
              have h2 := HX.out.lt
              have h3 := HC.out.lt
              have h4 := HA.out.lt
              show _ ∧ _
              omega
            have HD := Lib.hid (Blk.new w5 74 [.int .i64 eb.u, .int .i64 eb.l, .int .i64 0])
            have HOal : Hid (Only [] w5 (w5.alloc (.cells #[.int .i64 eb.u, .int .i64 eb.l, .int .i64 0] 74))) := (Only.refl _ _).alloc _
            replace HB := Lib.hid (HB.out.only HOal.out (by simp))
            replace HX := Lib.hid (HX.out.only HOal.out (by simp))
            replace HC := Lib.hid (HC.out.only HOal.out (by simp))
            replace HA := Lib.hid (HA.out.only HOal.out (by simp))
            replace HO : Hid (Only [g] w2 (w5.alloc (.cells #[.int .i64 eb.u, .int .i64 eb.l, .int .i64 0] 74))) := HO.out.alloc _
            replace HW : Hid (Only [] w (w5.alloc (.cells #[.int .i64 eb.u, .int .i64 eb.l, .int .i64 0] 74))) := HW.out.alloc _
            replace hcell := HOal.out.cell hcell (by simp)
            clear b0 b1_ b2 q0 q3 HOal
            generalize w5.alloc (.cells #[.int .i64 eb.u, .int .i64 eb.l, .int .i64 0] 74) = w6 at *
            generalize w5.heap.size = gb at *
            have q0 := HX.out.cell 0
            simp only [List.getElem?_cons_zero] at q0
            obtain ⟨eu, el, eo⟩ := ea
            obtain ⟨fu, fl, fo⟩ := eb
            obtain ⟨hu0, hu1, hl0, hl1⟩ := HEa.out
            obtain ⟨hv0, hv1, hm0, hm1⟩ := HEb.out
            simp only [topB_val] at hu0 hu1 hl0 hl1 hv0 hv1 hm0 hm1
            have a0 := HA.out.cell 0
            have a1_ := HA.out.cell 1
            have b0 := HD.out.cell 0
            have b1_ := HD.out.cell 1
            simp only [List.getElem?_cons_zero, List.getElem?_cons_succ] at a0 a1_ b0 b1_
            have HCo : Hid (combOf ns (a : Int) = combE lfB ⟨nk, nf, a1, b1⟩ ⟨eu, el, eo⟩ ⟨fu, fl, fo⟩) := by
              show _ = _
              unfold combOf
              rw [HN.out]
              show combE lfB ⟨nk, nf, a1, b1⟩ (ent lfB ns (a1 : Int)) (ent lfB ns (b1 : Int)) = _
              rw [HEa_.out, HEb_.out]
            have x1 : IntKind.i64.wrap (eu + fl) = eu + fl := wrap_i64 (by omega)
            have x2 : IntKind.i64.wrap (el + fu) = el + fu := wrap_i64 (by omega)
            have x3 : IntKind.i64.wrap (max (eu + fl) (el + fu) + 1) = max (eu + fl) (el + fu) + 1 := wrap_i64 (by omega)
            have x4 : IntKind.i64.wrap (el + fl) = el + fl := wrap_i64 (by omega)
            have x5 : IntKind.i64.wrap (eu + fu) = eu + fu := wrap_i64 (by omega)
            have HKk : Hid (nk = 1 ∨ nk = 2 ∨ nk = 3 ∨ nk = 4) := by
              have h := HOk.1
              simp only at h
              show _ ∨ _
              omega
            clear hu0 hu1 hl0 hl1 hv0 hv1 hm0 hm1 HEa HEb HD HOk HKd HKt HEnt HNb
            rcases HKk.out with rfl | rfl | rfl | rfl
            · have HCm : Hid (combOf ns (a : Int) = ⟨max (eu + fl) (el + fu) + 1, el + fl, eo && fo⟩) := by show _ = _; rw [HCo.out, Int.add_comm]; rfl
              have c0 := HC.out.cell 0
              have c1 := HC.out.cell 1
              have c2 := HC.out.cell 2
              have f0 := HC.out.frozen 0
              have f1 := HC.out.frozen 1
              have f2 := HC.out.frozen 2
              simp only [List.getElem?_cons_zero, List.getElem?_cons_succ] at c0 c1 c2
              have HOc : Hid (Only [gc] w6 (((w6.setCell ⟨gc, 0, none⟩ (.int .i64 (max (eu + fl) (el + fu) + 1))).setCell ⟨gc, 1, none⟩ (.int .i64 (el + fl))).setCell ⟨gc, 2, none⟩ (.int .i64 0))) := (((Only.refl [gc] w6).setCell (.inl (by simp)) _).setCell (.inl (by simp)) _).setCell (.inl (by simp)) _
              have HCc : Hid (Blk (((w6.setCell ⟨gc, 0, none⟩ (.int .i64 (max (eu + fl) (el + fu) + 1))).setCell ⟨gc, 1, none⟩ (.int .i64 (el + fl))).setCell ⟨gc, 2, none⟩ (.int .i64 0)) gc 74 [.int .i64 (max (eu + fl) (el + fu) + 1), .int .i64 (el + fl), .int .i64 0]) := ((HC.out.set_ 0 _).set_ 1 _).set_ 2 _
              have HBc := Lib.hid (HB.out.only HOc.out (by have := HNe.out; simp; omega))
              have HOd : Hid (Only [g] w2 (((w6.setCell ⟨gc, 0, none⟩ (.int .i64 (max (eu + fl) (el + fu) + 1))).setCell ⟨gc, 1, none⟩ (.int .i64 (el + fl))).setCell ⟨gc, 2, none⟩ (.int .i64 0))) := HO.out.trans HOc.out (fun y hy => .inr (by have := HNe.out; have e : y = gc := (by simpa using hy); omega))
              have HWc : Hid (Only [] w (((w6.setCell ⟨gc, 0, none⟩ (.int .i64 (max (eu + fl) (el + fu) + 1))).setCell ⟨gc, 1, none⟩ (.int .i64 (el + fl))).setCell ⟨gc, 2, none⟩ (.int .i64 0))) := HW.out.trans HOc.out (fun y hy => .inr (by have := HNe.out; have e : y = gc := (by simpa using hy); omega))
              have hcell' := HOc.out.cell hcell (by have := HNe.out; simp; omega)
              have HXc := Lib.hid (HX.out.only HOc.out (by have := HNe.out; simp; omega))
              have HAc := Lib.hid (HA.out.only HOc.out (by have := HNe.out; simp; omega))
              clear HB HO HW HC HX HA hcell HOc
              go_wp2_with fail
              go_meet
              exact ⟨max (eu + fl) (el + fu) + 1, el + fl, ⟨by rw [HCm.out], by rw [HCm.out]⟩, HBc, HCc, HOd, HWc, hcell'⟩
            · have HCm : Hid (combOf ns (a : Int) = ⟨max (eu + fl) (el + fu) + 1, el + fl, eo && fo⟩) := by show _ = _; rw [HCo.out, Int.add_comm]; rfl
              have c0 := HC.out.cell 0
              have c1 := HC.out.cell 1
              have c2 := HC.out.cell 2
              have f0 := HC.out.frozen 0
              have f1 := HC.out.frozen 1
              have f2 := HC.out.frozen 2
              simp only [List.getElem?_cons_zero, List.getElem?_cons_succ] at c0 c1 c2
              have HOc : Hid (Only [gc] w6 (((w6.setCell ⟨gc, 0, none⟩ (.int .i64 (max (eu + fl) (el + fu) + 1))).setCell ⟨gc, 1, none⟩ (.int .i64 (el + fl))).setCell ⟨gc, 2, none⟩ (.int .i64 0))) := (((Only.refl [gc] w6).setCell (.inl (by simp)) _).setCell (.inl (by simp)) _).setCell (.inl (by simp)) _
              have HCc : Hid (Blk (((w6.setCell ⟨gc, 0, none⟩ (.int .i64 (max (eu + fl) (el + fu) + 1))).setCell ⟨gc, 1, none⟩ (.int .i64 (el + fl))).setCell ⟨gc, 2, none⟩ (.int .i64 0)) gc 74 [.int .i64 (max (eu + fl) (el + fu) + 1), .int .i64 (el + fl), .int .i64 0]) := ((HC.out.set_ 0 _).set_ 1 _).set_ 2 _
              have HBc := Lib.hid (HB.out.only HOc.out (by have := HNe.out; simp; omega))
              have HOd : Hid (Only [g] w2 (((w6.setCell ⟨gc, 0, none⟩ (.int .i64 (max (eu + fl) (el + fu) + 1))).setCell ⟨gc, 1, none⟩ (.int .i64 (el + fl))).setCell ⟨gc, 2, none⟩ (.int .i64 0))) := HO.out.trans HOc.out (fun y hy => .inr (by have := HNe.out; have e : y = gc := (by simpa using hy); omega))
              have HWc : Hid (Only [] w (((w6.setCell ⟨gc, 0, none⟩ (.int .i64 (max (eu + fl) (el + fu) + 1))).setCell ⟨gc, 1, none⟩ (.int .i64 (el + fl))).setCell ⟨gc, 2, none⟩ (.int .i64 0))) := HW.out.trans HOc.out (fun y hy => .inr (by have := HNe.out; have e : y = gc := (by simpa using hy); omega))
              have hcell' := HOc.out.cell hcell (by have := HNe.out; simp; omega)
              have HXc := Lib.hid (HX.out.only HOc.out (by have := HNe.out; simp; omega))
              have HAc := Lib.hid (HA.out.only HOc.out (by have := HNe.out; simp; omega))
              clear HB HO HW HC HX HA hcell HOc
              go_wp2_with fail
              go_meet
              exact ⟨max (eu + fl) (el + fu) + 1, el + fl, ⟨by rw [HCm.out], by rw [HCm.out]⟩, HBc, HCc, HOd, HWc, hcell'⟩
            · have HCm : Hid (combOf ns (a : Int) = ⟨eu + fu, el + fl, eo && fo⟩) := by show _ = _; rw [HCo.out]; rfl
              have c0 := HC.out.cell 0
              have c1 := HC.out.cell 1
              have c2 := HC.out.cell 2
              have f0 := HC.out.frozen 0
              have f1 := HC.out.frozen 1
              have f2 := HC.out.frozen 2
              simp only [List.getElem?_cons_zero, List.getElem?_cons_succ] at c0 c1 c2
              have HOc : Hid (Only [gc] w6 (((w6.setCell ⟨gc, 0, none⟩ (.int .i64 (eu + fu))).setCell ⟨gc, 1, none⟩ (.int .i64 (el + fl))).setCell ⟨gc, 2, none⟩ (.int .i64 0))) := (((Only.refl [gc] w6).setCell (.inl (by simp)) _).setCell (.inl (by simp)) _).setCell (.inl (by simp)) _
              have HCc : Hid (Blk (((w6.setCell ⟨gc, 0, none⟩ (.int .i64 (eu + fu))).setCell ⟨gc, 1, none⟩ (.int .i64 (el + fl))).setCell ⟨gc, 2, none⟩ (.int .i64 0)) gc 74 [.int .i64 (eu + fu), .int .i64 (el + fl), .int .i64 0]) := ((HC.out.set_ 0 _).set_ 1 _).set_ 2 _
              have HBc := Lib.hid (HB.out.only HOc.out (by have := HNe.out; simp; omega))
              have HOd : Hid (Only [g] w2 (((w6.setCell ⟨gc, 0, none⟩ (.int .i64 (eu + fu))).setCell ⟨gc, 1, none⟩ (.int .i64 (el + fl))).setCell ⟨gc, 2, none⟩ (.int .i64 0))) := HO.out.trans HOc.out (fun y hy => .inr (by have := HNe.out; have e : y = gc := (by simpa using hy); omega))
              have HWc : Hid (Only [] w (((w6.setCell ⟨gc, 0, none⟩ (.int .i64 (eu + fu))).setCell ⟨gc, 1, none⟩ (.int .i64 (el + fl))).setCell ⟨gc, 2, none⟩ (.int .i64 0))) := HW.out.trans HOc.out (fun y hy => .inr (by have := HNe.out; have e : y = gc := (by simpa using hy); omega))
              have hcell' := HOc.out.cell hcell (by have := HNe.out; simp; omega)
              have HXc := Lib.hid (HX.out.only HOc.out (by have := HNe.out; simp; omega))
              have HAc := Lib.hid (HA.out.only HOc.out (by have := HNe.out; simp; omega))
              clear HB HO HW HC HX HA hcell HOc
              go_wp2_with fail
              go_meet
              exact ⟨eu + fu, el + fl, ⟨by rw [HCm.out], by rw [HCm.out]⟩, HBc, HCc, HOd, HWc, hcell'⟩
            · have HCm : Hid (combOf ns (a : Int) = ⟨eu + fl, el + fu, eo && fo⟩) := by show _ = _; rw [HCo.out]; rfl
              have c0 := HC.out.cell 0
              have c1 := HC.out.cell 1
              have c2 := HC.out.cell 2
              have f0 := HC.out.frozen 0
              have f1 := HC.out.frozen 1
              have f2 := HC.out.frozen 2
              simp only [List.getElem?_cons_zero, List.getElem?_cons_succ] at c0 c1 c2
              have HOc : Hid (Only [gc] w6 (((w6.setCell ⟨gc, 0, none⟩ (.int .i64 (eu + fl))).setCell ⟨gc, 1, none⟩ (.int .i64 (el + fu))).setCell ⟨gc, 2, none⟩ (.int .i64 0))) := (((Only.refl [gc] w6).setCell (.inl (by simp)) _).setCell (.inl (by simp)) _).setCell (.inl (by simp)) _
              have HCc : Hid (Blk (((w6.setCell ⟨gc, 0, none⟩ (.int .i64 (eu + fl))).setCell ⟨gc, 1, none⟩ (.int .i64 (el + fu))).setCell ⟨gc, 2, none⟩ (.int .i64 0)) gc 74 [.int .i64 (eu + fl), .int .i64 (el + fu), .int .i64 0]) := ((HC.out.set_ 0 _).set_ 1 _).set_ 2 _
              have HBc := Lib.hid (HB.out.only HOc.out (by have := HNe.out; simp; omega))
              have HOd : Hid (Only [g] w2 (((w6.setCell ⟨gc, 0, none⟩ (.int .i64 (eu + fl))).setCell ⟨gc, 1, none⟩ (.int .i64 (el + fu))).setCell ⟨gc, 2, none⟩ (.int .i64 0))) := HO.out.trans HOc.out (fun y hy => .inr (by have := HNe.out; have e : y = gc := (by simpa using hy); omega))
              have HWc : Hid (Only [] w (((w6.setCell ⟨gc, 0, none⟩ (.int .i64 (eu + fl))).setCell ⟨gc, 1, none⟩ (.int .i64 (el + fu))).setCell ⟨gc, 2, none⟩ (.int .i64 0))) := HW.out.trans HOc.out (fun y hy => .inr (by have := HNe.out; have e : y = gc := (by simpa using hy); omega))
              have hcell' := HOc.out.cell hcell (by have := HNe.out; simp; omega)
              have HXc := Lib.hid (HX.out.only HOc.out (by have := HNe.out; simp; omega))
              have HAc := Lib.hid (HA.out.only HOc.out (by have := HNe.out; simp; omega))
              clear HB HO HW HC HX HA hcell HOc
              go_wp2_with fail
              go_meet
              exact ⟨eu + fl, el + fu, ⟨by rw [HCm.out], by rw [HCm.out]⟩, HBc, HCc, HOd, HWc, hcell'⟩
        obtain ⟨U, V, HUV, HB2_, HC2_, HO2_, HW2_, hcell2_⟩ := hcut
        clear HB HC HO HW hcell HX HA
        have HB := HB2_
        have HC := HC2_
        have HO := HO2_
        have HW := HW2_
        have hcell := hcell2_.out
        clear HB2_ HC2_ HO2_ HW2_ hcell2_ q0
        go_upto_region 27 with fail
        have HEu : Hid ((ent lfB ns (a : Int)).u = min (U) topB) := by
          show _ = _
          rw [ent_eq lfB ok.out.ok ok.out.nodes.kind han]
          show min (combOf ns (a : Int)).u topB = _
          rw [HUV.out.1]
        have HEl : Hid ((ent lfB ns (a : Int)).l = min (V) topB) := by
          show _ = _
          rw [ent_eq lfB ok.out.ok ok.out.nodes.kind han]
          show min (combOf ns (a : Int)).l topB = _
          rw [HUV.out.2]
        have HCl : Hid (clipB ns (a : Int) = (decide ((U) ≤ 1099511627776) && decide ((V) ≤ 1099511627776))) := by
          show _ = _
          unfold clipB
          rw [HUV.out.1, HUV.out.2, HN.out, decide_eq_false (show ¬ _ = (0 : Int) from hk0)]
          rfl
        have HPb : Hid (partsB ns L (L.take (k + 1)) = (partsB ns L (L.take k) && (decide ((U) ≤ 1099511627776) && decide ((V) ≤ 1099511627776)))) := by
          show _ = _
          rw [partsB_snoc ns L HTake.out, HCl.out]
        clear HCl HUV
        generalize partsB ns L (L.take k) = pb at *
        have c0 := HC.out.cell 0
        have c1 := HC.out.cell 1
        simp only [List.getElem?_cons_zero, List.getElem?_cons_succ] at c0 c1
        cases pb
        · skip
          go_upto_region 28 with fail
          apply wp_region_typed_tail2 7 (by kernel_rfl) [isV _, isV _, isV _, isV _, isV _, isV _, isV _] [[], [0], [1], [], [3], [4, 2], []] (by kernel_rfl) (by kernel_rfl) (by kernel_rfl)
          case ho =>
            simp only [List.take_succ_cons, List.take_zero]
            refine owes2_cons (fun wx hox => ?_) ?_
            · skip
              skip
              refine withs_plain rfl ?_
              simp only [withs, List.getElem?_cons_zero, List.getElem?_cons_succ, Option.bind, Option.getD]
              repeat (with_reducible refine all_isV ?_)
              go_simp
              exact ⟨Only.refl _ _, isV.self _ _⟩
            refine owes2_cons (fun wx hox => ?_) ?_
            · skip
              have hdx := HC.out.only hox (by simp)
              have c0 := hdx.cell 0
              have c1 := hdx.cell 1
              have c2 := hdx.cell 2
              simp only [List.getElem?_cons_zero, List.getElem?_cons_succ] at c0 c1 c2
              have hcx := hox.cell hcell (by simp)
              clear hdx
              refine withs_plain rfl ?_
              simp only [withs, List.getElem?_cons_zero, List.getElem?_cons_succ, Option.bind, Option.getD]
              repeat (with_reducible refine all_isV ?_)
              go_simp
              exact ⟨Only.refl _ _, isV.self _ _⟩
            refine owes2_cons (fun wx hox => ?_) ?_
            · skip
              skip
              refine withs_plain rfl ?_
              simp only [withs, List.getElem?_cons_zero, List.getElem?_cons_succ, Option.bind, Option.getD]
              repeat (with_reducible refine all_isV ?_)
              go_simp
              ((with_reducible exact grow_same (rfew_any _ wx)))
            refine owes2_cons (fun wx hox => ?_) ?_
            · skip
              skip
              refine withs_plain rfl ?_
              simp only [withs, List.getElem?_cons_zero, List.getElem?_cons_succ, Option.bind, Option.getD]
              repeat (with_reducible refine all_isV ?_)
              go_simp
              exact ⟨Only.refl _ _, isV.self _ _⟩
            refine owes2_cons (fun wx hox => ?_) ?_
            · skip
              have hdx := HC.out.only hox (by simp)
              have c0 := hdx.cell 0
              have c1 := hdx.cell 1
              have c2 := hdx.cell 2
              simp only [List.getElem?_cons_zero, List.getElem?_cons_succ] at c0 c1 c2
              have hcx := hox.cell hcell (by simp)
              clear hdx
              refine withs_plain rfl ?_
              simp only [withs, List.getElem?_cons_zero, List.getElem?_cons_succ, Option.bind, Option.getD]
              repeat (with_reducible refine all_isV ?_)
              go_simp
              exact ⟨Only.refl _ _, isV.self _ _⟩
            refine owes2_cons (fun wx hox => ?_) ?_
            · skip
              skip
              refine withs_plain rfl ?_
              simp only [withs, List.getElem?_cons_zero, List.getElem?_cons_succ, Option.bind, Option.getD]
              repeat (with_reducible refine all_isV ?_)
              go_simp
              ((with_reducible exact grow_same (rfew_any _ wx)))
            refine owes2_cons (fun wx hox => ?_) ?_
            · skip
              skip
              refine withs_plain rfl ?_
              simp only [withs, List.getElem?_cons_zero, List.getElem?_cons_succ, Option.bind, Option.getD]
              repeat (with_reducible refine all_isV ?_)
              go_simp
              exact ⟨Only.refl _ _, isV.self _ _⟩
            exact owes2_nil
          case he =>
            simp only [List.drop_succ_cons, List.drop_zero]
            intro wx hox
            refine withs_of (by simp only [List.length, List.range, List.range.loop]; exact rfl) ?_
            simp only [withs, List.getElem?_cons_zero, List.getElem?_cons_succ, Option.bind, Option.getD]
            repeat (with_reducible refine all_isV ?_)
            go_simp
            have HBx := Lib.hid (HB.out.only hox (by simp))
            have HCx := Lib.hid (HC.out.only hox (by simp))
            have HOx : Hid (Only [g] w2 wx) := HO.out.trans hox (fun y hy => by simp at hy)
            have HWx := Lib.hid (HW.out.nil_trans hox)
            have hcellx := hox.cell hcell (by simp)
            clear hox hcell HB HC HO HW
            have c0 := HCx.out.cell 0
            have c1 := HCx.out.cell 1
            have c2 := HCx.out.cell 2
            have f0 := HCx.out.frozen 0
            have f1 := HCx.out.frozen 1
            have f2 := HCx.out.frozen 2
            simp only [List.getElem?_cons_zero, List.getElem?_cons_succ] at c0 c1 c2
            have HOc : Hid (Only [gc] wx ((wx.setCell ⟨gc, 0, none⟩ (.int .i64 (min (U) topB))).setCell ⟨gc, 1, none⟩ (.int .i64 (min (V) topB)))) := ((Only.refl [gc] wx).setCell (.inl (by simp)) _).setCell (.inl (by simp)) _
            have HCc : Hid (Blk ((wx.setCell ⟨gc, 0, none⟩ (.int .i64 (min (U) topB))).setCell ⟨gc, 1, none⟩ (.int .i64 (min (V) topB))) gc 74 [.int .i64 (min (U) topB), .int .i64 (min (V) topB), .int .i64 0]) := (HCx.out.set_ 0 _).set_ 1 _
            have HBc := Lib.hid (HBx.out.only HOc.out (by have := HNe.out; simp; omega))
            have HOd : Hid (Only [g] w2 ((wx.setCell ⟨gc, 0, none⟩ (.int .i64 (min (U) topB))).setCell ⟨gc, 1, none⟩ (.int .i64 (min (V) topB)))) := HOx.out.trans HOc.out (fun y hy => .inr (by have := HNe.out; have e : y = gc := (by simpa using hy); omega))
            have HWc : Hid (Only [] w ((wx.setCell ⟨gc, 0, none⟩ (.int .i64 (min (U) topB))).setCell ⟨gc, 1, none⟩ (.int .i64 (min (V) topB)))) := HWx.out.trans HOc.out (fun y hy => .inr (by have := HNe.out; have e : y = gc := (by simpa using hy); omega))
            have hcell' := HOc.out.cell hcellx (by have := HNe.out; simp; omega)
            clear HBx HOx HWx HCx hcellx HOc
            go_upto_region 29 with fail
            generalize (wx.setCell ⟨gc, 0, none⟩ (.int .i64 (min (U) topB))).setCell ⟨gc, 1, none⟩ (.int .i64 (min (V) topB)) = wy at *
            clear c0 c1 c2 f0 f1 f2
            apply wp_region_typed_tail2 6 (by kernel_rfl) [isV _, isV _, isV _, isV _, isV _, isV _] [[], [], [], [1, 2], [3], []] (by kernel_rfl) (by kernel_rfl) (by kernel_rfl)
            case ho =>
              simp only [List.take_succ_cons, List.take_zero]
              refine owes2_cons (fun wx hox => ?_) ?_
              · skip
                skip
                refine withs_plain rfl ?_
                simp only [withs, List.getElem?_cons_zero, List.getElem?_cons_succ, Option.bind, Option.getD]
                repeat (with_reducible refine all_isV ?_)
                go_simp
                exact ⟨Only.refl _ _, isV.self _ _⟩
              refine owes2_cons (fun wx hox => ?_) ?_
              · skip
                skip
                refine withs_plain rfl ?_
                simp only [withs, List.getElem?_cons_zero, List.getElem?_cons_succ, Option.bind, Option.getD]
                repeat (with_reducible refine all_isV ?_)
                go_simp
                exact ⟨Only.refl _ _, isV.self _ _⟩
              refine owes2_cons (fun wx hox => ?_) ?_
              · skip
                skip
                refine withs_plain rfl ?_
                simp only [withs, List.getElem?_cons_zero, List.getElem?_cons_succ, Option.bind, Option.getD]
                repeat (with_reducible refine all_isV ?_)
                go_simp
                exact ⟨Only.refl _ _, isV.self _ _⟩
              refine owes2_cons (fun wx hox => ?_) ?_
              · skip
                skip
                refine withs_plain rfl ?_
                simp only [withs, List.getElem?_cons_zero, List.getElem?_cons_succ, Option.bind, Option.getD]
                repeat (with_reducible refine all_isV ?_)
                go_simp
                exact ⟨Only.refl _ _, isV.self _ _⟩
              refine owes2_cons (fun wx hox => ?_) ?_
              · skip
                have hdx := HCc.out.only hox (by simp)
                have d0 := hdx.cell 0
                have d1 := hdx.cell 1
                have d2 := hdx.cell 2
                simp only [List.getElem?_cons_zero, List.getElem?_cons_succ] at d0 d1 d2
                have hcx := hox.cell hcell' (by simp)
                clear hdx
                refine withs_plain rfl ?_
                simp only [withs, List.getElem?_cons_zero, List.getElem?_cons_succ, Option.bind, Option.getD]
                repeat (with_reducible refine all_isV ?_)
                go_simp
                exact ⟨Only.refl _ _, isV.self _ _⟩
              refine owes2_cons (fun wx hox => ?_) ?_
              · skip
                have hdx := HCc.out.only hox (by simp)
                have d0 := hdx.cell 0
                have d1 := hdx.cell 1
                have d2 := hdx.cell 2
                simp only [List.getElem?_cons_zero, List.getElem?_cons_succ] at d0 d1 d2
                have hcx := hox.cell hcell' (by simp)
                clear hdx
                refine withs_plain rfl ?_
                simp only [withs, List.getElem?_cons_zero, List.getElem?_cons_succ, Option.bind, Option.getD]
                repeat (with_reducible refine all_isV ?_)
                go_simp
                exact ⟨Only.refl _ _, isV.self _ _⟩
              exact owes2_nil
            case he =>
              simp only [List.drop_succ_cons, List.drop_zero]
              intro wz hox
              refine withs_of (by simp only [List.length, List.range, List.range.loop]; exact rfl) ?_
              simp only [withs, List.getElem?_cons_zero, List.getElem?_cons_succ, Option.bind, Option.getD]
              repeat (with_reducible refine all_isV ?_)
              go_simp
              have HBz := Lib.hid (HBc.out.only hox (by simp))
              have HOz : Hid (Only [g] w2 wz) := HOd.out.trans hox (fun y hy => by simp at hy)
              have HWz := Lib.hid (HWc.out.nil_trans hox)
              clear hox hcell' HBc HOd HWc HCc
              have HBs : Hid (Blk (((wz.setCell ⟨g, a * 3, none⟩ (.int .i64 (min (U) topB))).setCell ⟨g, a * 3 + 1, none⟩ (.int .i64 (min (V) topB))).setCell ⟨g, a * 3 + 2, none⟩ (.int .i64 0)) g 74 (intV (ns.length * 3) (outF ns (L.take (k + 1))))) := by
                have h := ((HBz.out.set_ (a * 3) (.int .i64 (min (U) topB))).set_ (a * 3 + 1) (.int .i64 (min (V) topB))).set_ (a * 3 + 2) (.int .i64 0)
                rw [intV_set, intV_set, intV_set, outF_next ns HTake.out HEu.out HEl.out] at h
                exact h
              have HOs : Hid (Only [g] w2 (((wz.setCell ⟨g, a * 3, none⟩ (.int .i64 (min (U) topB))).setCell ⟨g, a * 3 + 1, none⟩ (.int .i64 (min (V) topB))).setCell ⟨g, a * 3 + 2, none⟩ (.int .i64 0))) := (((HOz.out.setCell (.inl (by simp)) _).setCell (.inl (by simp)) _).setCell (.inl (by simp)) _)
              have HWs : Hid (Only [] w (((wz.setCell ⟨g, a * 3, none⟩ (.int .i64 (min (U) topB))).setCell ⟨g, a * 3 + 1, none⟩ (.int .i64 (min (V) topB))).setCell ⟨g, a * 3 + 2, none⟩ (.int .i64 0))) := ((((HWz.out.setCell (.inr (by have := HG.out; show _ ≤ g; omega)) _).setCell (.inr (by have := HG.out; show _ ≤ g; omega)) _).setCell (.inr (by have := HG.out; show _ ≤ g; omega)) _))
              have c0 := HBz.out.cell (a * 3)
              have c1 := HBz.out.cell (a * 3 + 1)
              have c2 := HBz.out.cell (a * 3 + 2)
              rw [intV_get _ _ _ (by omega)] at c0 c1 c2
              have f0 := HBz.out.frozen (a * 3)
              have f1 := HBz.out.frozen (a * 3 + 1)
              have f2 := HBz.out.frozen (a * 3 + 2)
              have hanI : (a : Int) < (ns.length : Int) := by omega
              go_wp2_with fail
              go_roundw
              case rel => exact ⟨k + 1, by omega, by go_num, by (rw [HPb.out]; first | rfl | (rw [decide_eq_true hU, decide_eq_true hV]; rfl) | (rw [decide_eq_true hU, decide_eq_false hV]; rfl) | (rw [decide_eq_false hU]; rfl)), HOs.out, HWs.out, HBs.out⟩
              case measure => simp [intOf] <;> omega
            case hl =>
              repeat (refine List.forall_mem_cons.2 ⟨?_, ?_⟩; exact isV.lasts _)
              exact fun _ h => (by cases h)
          case hl =>
            repeat (refine List.forall_mem_cons.2 ⟨?_, ?_⟩; exact isV.lasts _)
            exact fun _ h => (by cases h)
        · by_cases hU : (U) ≤ 1099511627776
          · by_cases hV : (V) ≤ 1099511627776
            · skip
              go_upto_region 28 with fail
              apply wp_region_typed_tail2 7 (by kernel_rfl) [isV _, isV _, isV _, isV _, isV _, isV _, isV _] [[], [0], [1], [], [3], [4, 2], []] (by kernel_rfl) (by kernel_rfl) (by kernel_rfl)
              case ho =>
                simp only [List.take_succ_cons, List.take_zero]
                refine owes2_cons (fun wx hox => ?_) ?_
                · skip
                  skip
                  refine withs_plain rfl ?_
                  simp only [withs, List.getElem?_cons_zero, List.getElem?_cons_succ, Option.bind, Option.getD]
                  repeat (with_reducible refine all_isV ?_)
                  go_simp
                  exact ⟨Only.refl _ _, isV.self _ _⟩
                refine owes2_cons (fun wx hox => ?_) ?_
                · skip
                  have hdx := HC.out.only hox (by simp)
                  have c0 := hdx.cell 0
                  have c1 := hdx.cell 1
                  have c2 := hdx.cell 2
                  simp only [List.getElem?_cons_zero, List.getElem?_cons_succ] at c0 c1 c2
                  have hcx := hox.cell hcell (by simp)
                  clear hdx
                  refine withs_plain rfl ?_
                  simp only [withs, List.getElem?_cons_zero, List.getElem?_cons_succ, Option.bind, Option.getD]
                  repeat (with_reducible refine all_isV ?_)
                  go_simp
                  exact ⟨Only.refl _ _, isV.self _ _⟩
                refine owes2_cons (fun wx hox => ?_) ?_
                · skip
                  skip
                  refine withs_plain rfl ?_
                  simp only [withs, List.getElem?_cons_zero, List.getElem?_cons_succ, Option.bind, Option.getD]
                  repeat (with_reducible refine all_isV ?_)
                  go_simp
                  ((with_reducible exact grow_same (rfew_any _ wx)))
                refine owes2_cons (fun wx hox => ?_) ?_
                · skip
                  skip
                  refine withs_plain rfl ?_
                  simp only [withs, List.getElem?_cons_zero, List.getElem?_cons_succ, Option.bind, Option.getD]
                  repeat (with_reducible refine all_isV ?_)
                  go_simp
                  exact ⟨Only.refl _ _, isV.self _ _⟩
                refine owes2_cons (fun wx hox => ?_) ?_
                · skip
                  have hdx := HC.out.only hox (by simp)
                  have c0 := hdx.cell 0
                  have c1 := hdx.cell 1
                  have c2 := hdx.cell 2
                  simp only [List.getElem?_cons_zero, List.getElem?_cons_succ] at c0 c1 c2
                  have hcx := hox.cell hcell (by simp)
                  clear hdx
                  refine withs_plain rfl ?_
                  simp only [withs, List.getElem?_cons_zero, List.getElem?_cons_succ, Option.bind, Option.getD]
                  repeat (with_reducible refine all_isV ?_)
                  go_simp
                  exact ⟨Only.refl _ _, isV.self _ _⟩
                refine owes2_cons (fun wx hox => ?_) ?_
                · skip
                  skip
                  refine withs_plain rfl ?_
                  simp only [withs, List.getElem?_cons_zero, List.getElem?_cons_succ, Option.bind, Option.getD]
                  repeat (with_reducible refine all_isV ?_)
                  go_simp
                  ((with_reducible exact grow_same (rfew_any _ wx)))
                refine owes2_cons (fun wx hox => ?_) ?_
                · skip
                  skip
                  refine withs_plain rfl ?_
                  simp only [withs, List.getElem?_cons_zero, List.getElem?_cons_succ, Option.bind, Option.getD]
                  repeat (with_reducible refine all_isV ?_)
                  go_simp
                  exact ⟨Only.refl _ _, isV.self _ _⟩
                exact owes2_nil
              case he =>
                simp only [List.drop_succ_cons, List.drop_zero]
                intro wx hox
                refine withs_of (by simp only [List.length, List.range, List.range.loop]; exact rfl) ?_
                simp only [withs, List.getElem?_cons_zero, List.getElem?_cons_succ, Option.bind, Option.getD]
                repeat (with_reducible refine all_isV ?_)
                go_simp
                have HBx := Lib.hid (HB.out.only hox (by simp))
                have HCx := Lib.hid (HC.out.only hox (by simp))
                have HOx : Hid (Only [g] w2 wx) := HO.out.trans hox (fun y hy => by simp at hy)
                have HWx := Lib.hid (HW.out.nil_trans hox)
                have hcellx := hox.cell hcell (by simp)
                clear hox hcell HB HC HO HW
                have c0 := HCx.out.cell 0
                have c1 := HCx.out.cell 1
                have c2 := HCx.out.cell 2
                have f0 := HCx.out.frozen 0
                have f1 := HCx.out.frozen 1
                have f2 := HCx.out.frozen 2
                simp only [List.getElem?_cons_zero, List.getElem?_cons_succ] at c0 c1 c2
                have HOc : Hid (Only [gc] wx ((wx.setCell ⟨gc, 0, none⟩ (.int .i64 (min (U) topB))).setCell ⟨gc, 1, none⟩ (.int .i64 (min (V) topB)))) := ((Only.refl [gc] wx).setCell (.inl (by simp)) _).setCell (.inl (by simp)) _
                have HCc : Hid (Blk ((wx.setCell ⟨gc, 0, none⟩ (.int .i64 (min (U) topB))).setCell ⟨gc, 1, none⟩ (.int .i64 (min (V) topB))) gc 74 [.int .i64 (min (U) topB), .int .i64 (min (V) topB), .int .i64 0]) := (HCx.out.set_ 0 _).set_ 1 _
                have HBc := Lib.hid (HBx.out.only HOc.out (by have := HNe.out; simp; omega))
                have HOd : Hid (Only [g] w2 ((wx.setCell ⟨gc, 0, none⟩ (.int .i64 (min (U) topB))).setCell ⟨gc, 1, none⟩ (.int .i64 (min (V) topB)))) := HOx.out.trans HOc.out (fun y hy => .inr (by have := HNe.out; have e : y = gc := (by simpa using hy); omega))
                have HWc : Hid (Only [] w ((wx.setCell ⟨gc, 0, none⟩ (.int .i64 (min (U) topB))).setCell ⟨gc, 1, none⟩ (.int .i64 (min (V) topB)))) := HWx.out.trans HOc.out (fun y hy => .inr (by have := HNe.out; have e : y = gc := (by simpa using hy); omega))
                have hcell' := HOc.out.cell hcellx (by have := HNe.out; simp; omega)
                clear HBx HOx HWx HCx hcellx HOc
                go_upto_region 29 with fail
                generalize (wx.setCell ⟨gc, 0, none⟩ (.int .i64 (min (U) topB))).setCell ⟨gc, 1, none⟩ (.int .i64 (min (V) topB)) = wy at *
                clear c0 c1 c2 f0 f1 f2
                apply wp_region_typed_tail2 6 (by kernel_rfl) [isV _, isV _, isV _, isV _, isV _, isV _] [[], [], [], [1, 2], [3], []] (by kernel_rfl) (by kernel_rfl) (by kernel_rfl)
                case ho =>
                  simp only [List.take_succ_cons, List.take_zero]
                  refine owes2_cons (fun wx hox => ?_) ?_
                  · skip
                    skip
                    refine withs_plain rfl ?_
                    simp only [withs, List.getElem?_cons_zero, List.getElem?_cons_succ, Option.bind, Option.getD]
                    repeat (with_reducible refine all_isV ?_)
                    go_simp
                    exact ⟨Only.refl _ _, isV.self _ _⟩
                  refine owes2_cons (fun wx hox => ?_) ?_
                  · skip
                    skip
                    refine withs_plain rfl ?_
                    simp only [withs, List.getElem?_cons_zero, List.getElem?_cons_succ, Option.bind, Option.getD]
                    repeat (with_reducible refine all_isV ?_)
                    go_simp
                    exact ⟨Only.refl _ _, isV.self _ _⟩
                  refine owes2_cons (fun wx hox => ?_) ?_
                  · skip
                    skip
                    refine withs_plain rfl ?_
                    simp only [withs, List.getElem?_cons_zero, List.getElem?_cons_succ, Option.bind, Option.getD]
                    repeat (with_reducible refine all_isV ?_)
                    go_simp
                    exact ⟨Only.refl _ _, isV.self _ _⟩
                  refine owes2_cons (fun wx hox => ?_) ?_
                  · skip
                    skip
                    refine withs_plain rfl ?_
                    simp only [withs, List.getElem?_cons_zero, List.getElem?_cons_succ, Option.bind, Option.getD]
                    repeat (with_reducible refine all_isV ?_)
                    go_simp
                    exact ⟨Only.refl _ _, isV.self _ _⟩
                  refine owes2_cons (fun wx hox => ?_) ?_
                  · skip
                    have hdx := HCc.out.only hox (by simp)
                    have d0 := hdx.cell 0
                    have d1 := hdx.cell 1
                    have d2 := hdx.cell 2
                    simp only [List.getElem?_cons_zero, List.getElem?_cons_succ] at d0 d1 d2
                    have hcx := hox.cell hcell' (by simp)
                    clear hdx
                    refine withs_plain rfl ?_
                    simp only [withs, List.getElem?_cons_zero, List.getElem?_cons_succ, Option.bind, Option.getD]
                    repeat (with_reducible refine all_isV ?_)
                    go_simp
                    exact ⟨Only.refl _ _, isV.self _ _⟩
                  refine owes2_cons (fun wx hox => ?_) ?_
                  · skip
                    have hdx := HCc.out.only hox (by simp)
                    have d0 := hdx.cell 0
                    have d1 := hdx.cell 1
                    have d2 := hdx.cell 2
                    simp only [List.getElem?_cons_zero, List.getElem?_cons_succ] at d0 d1 d2
                    have hcx := hox.cell hcell' (by simp)
                    clear hdx
                    refine withs_plain rfl ?_
                    simp only [withs, List.getElem?_cons_zero, List.getElem?_cons_succ, Option.bind, Option.getD]
                    repeat (with_reducible refine all_isV ?_)
                    go_simp
                    exact ⟨Only.refl _ _, isV.self _ _⟩
                  exact owes2_nil
                case he =>
                  simp only [List.drop_succ_cons, List.drop_zero]
                  intro wz hox
                  refine withs_of (by simp only [List.length, List.range, List.range.loop]; exact rfl) ?_
                  simp only [withs, List.getElem?_cons_zero, List.getElem?_cons_succ, Option.bind, Option.getD]
                  repeat (with_reducible refine all_isV ?_)
                  go_simp
                  have HBz := Lib.hid (HBc.out.only hox (by simp))
                  have HOz : Hid (Only [g] w2 wz) := HOd.out.trans hox (fun y hy => by simp at hy)
                  have HWz := Lib.hid (HWc.out.nil_trans hox)
                  clear hox hcell' HBc HOd HWc HCc
                  have HBs : Hid (Blk (((wz.setCell ⟨g, a * 3, none⟩ (.int .i64 (min (U) topB))).setCell ⟨g, a * 3 + 1, none⟩ (.int .i64 (min (V) topB))).setCell ⟨g, a * 3 + 2, none⟩ (.int .i64 0)) g 74 (intV (ns.length * 3) (outF ns (L.take (k + 1))))) := by
                    have h := ((HBz.out.set_ (a * 3) (.int .i64 (min (U) topB))).set_ (a * 3 + 1) (.int .i64 (min (V) topB))).set_ (a * 3 + 2) (.int .i64 0)
                    rw [intV_set, intV_set, intV_set, outF_next ns HTake.out HEu.out HEl.out] at h
                    exact h
                  have HOs : Hid (Only [g] w2 (((wz.setCell ⟨g, a * 3, none⟩ (.int .i64 (min (U) topB))).setCell ⟨g, a * 3 + 1, none⟩ (.int .i64 (min (V) topB))).setCell ⟨g, a * 3 + 2, none⟩ (.int .i64 0))) := (((HOz.out.setCell (.inl (by simp)) _).setCell (.inl (by simp)) _).setCell (.inl (by simp)) _)
                  have HWs : Hid (Only [] w (((wz.setCell ⟨g, a * 3, none⟩ (.int .i64 (min (U) topB))).setCell ⟨g, a * 3 + 1, none⟩ (.int .i64 (min (V) topB))).setCell ⟨g, a * 3 + 2, none⟩ (.int .i64 0))) := ((((HWz.out.setCell (.inr (by have := HG.out; show _ ≤ g; omega)) _).setCell (.inr (by have := HG.out; show _ ≤ g; omega)) _).setCell (.inr (by have := HG.out; show _ ≤ g; omega)) _))
                  have c0 := HBz.out.cell (a * 3)
                  have c1 := HBz.out.cell (a * 3 + 1)
                  have c2 := HBz.out.cell (a * 3 + 2)
                  rw [intV_get _ _ _ (by omega)] at c0 c1 c2
                  have f0 := HBz.out.frozen (a * 3)
                  have f1 := HBz.out.frozen (a * 3 + 1)
                  have f2 := HBz.out.frozen (a * 3 + 2)
                  have hanI : (a : Int) < (ns.length : Int) := by omega
                  go_wp2_with fail
                  go_roundw
                  case rel => exact ⟨k + 1, by omega, by go_num, by (rw [HPb.out]; first | rfl | (rw [decide_eq_true hU, decide_eq_true hV]; rfl) | (rw [decide_eq_true hU, decide_eq_false hV]; rfl) | (rw [decide_eq_false hU]; rfl)), HOs.out, HWs.out, HBs.out⟩
                  case measure => simp [intOf] <;> omega
                case hl =>
                  repeat (refine List.forall_mem_cons.2 ⟨?_, ?_⟩; exact isV.lasts _)
                  exact fun _ h => (by cases h)
              case hl =>
                repeat (refine List.forall_mem_cons.2 ⟨?_, ?_⟩; exact isV.lasts _)
                exact fun _ h => (by cases h)
            · skip
              go_upto_region 28 with fail
              apply wp_region_typed_tail2 7 (by kernel_rfl) [isV _, isV _, isV _, isV _, isV _, isV _, isV _] [[], [0], [1], [], [3], [4, 2], []] (by kernel_rfl) (by kernel_rfl) (by kernel_rfl)
              case ho =>
                simp only [List.take_succ_cons, List.take_zero]
                refine owes2_cons (fun wx hox => ?_) ?_
                · skip
                  skip
                  refine withs_plain rfl ?_
                  simp only [withs, List.getElem?_cons_zero, List.getElem?_cons_succ, Option.bind, Option.getD]
                  repeat (with_reducible refine all_isV ?_)
                  go_simp
                  exact ⟨Only.refl _ _, isV.self _ _⟩
                refine owes2_cons (fun wx hox => ?_) ?_
                · skip
                  have hdx := HC.out.only hox (by simp)
                  have c0 := hdx.cell 0
                  have c1 := hdx.cell 1
                  have c2 := hdx.cell 2
                  simp only [List.getElem?_cons_zero, List.getElem?_cons_succ] at c0 c1 c2
                  have hcx := hox.cell hcell (by simp)
                  clear hdx
                  refine withs_plain rfl ?_
                  simp only [withs, List.getElem?_cons_zero, List.getElem?_cons_succ, Option.bind, Option.getD]
                  repeat (with_reducible refine all_isV ?_)
                  go_simp
                  exact ⟨Only.refl _ _, isV.self _ _⟩
                refine owes2_cons (fun wx hox => ?_) ?_
                · skip
                  skip
                  refine withs_plain rfl ?_
                  simp only [withs, List.getElem?_cons_zero, List.getElem?_cons_succ, Option.bind, Option.getD]
                  repeat (with_reducible refine all_isV ?_)
                  go_simp
                  ((with_reducible exact grow_same (rfew_any _ wx)))
                refine owes2_cons (fun wx hox => ?_) ?_
                · skip
                  skip
                  refine withs_plain rfl ?_
                  simp only [withs, List.getElem?_cons_zero, List.getElem?_cons_succ, Option.bind, Option.getD]
                  repeat (with_reducible refine all_isV ?_)
                  go_simp
                  exact ⟨Only.refl _ _, isV.self _ _⟩
                refine owes2_cons (fun wx hox => ?_) ?_
                · skip
                  have hdx := HC.out.only hox (by simp)
                  have c0 := hdx.cell 0
                  have c1 := hdx.cell 1
                  have c2 := hdx.cell 2
                  simp only [List.getElem?_cons_zero, List.getElem?_cons_succ] at c0 c1 c2
                  have hcx := hox.cell hcell (by simp)
                  clear hdx
                  refine withs_plain rfl ?_
                  simp only [withs, List.getElem?_cons_zero, List.getElem?_cons_succ, Option.bind, Option.getD]
                  repeat (with_reducible refine all_isV ?_)
                  go_simp
                  exact ⟨Only.refl _ _, isV.self _ _⟩
                refine owes2_cons (fun wx hox => ?_) ?_
                · skip
                  skip
                  refine withs_plain rfl ?_
                  simp only [withs, List.getElem?_cons_zero, List.getElem?_cons_succ, Option.bind, Option.getD]
                  repeat (with_reducible refine all_isV ?_)
                  go_simp
                  ((with_reducible exact grow_same (rfew_any _ wx)))
                refine owes2_cons (fun wx hox => ?_) ?_
                · skip
                  skip
                  refine withs_plain rfl ?_
                  simp only [withs, List.getElem?_cons_zero, List.getElem?_cons_succ, Option.bind, Option.getD]
                  repeat (with_reducible refine all_isV ?_)
                  go_simp
                  exact ⟨Only.refl _ _, isV.self _ _⟩
                exact owes2_nil
              case he =>
                simp only [List.drop_succ_cons, List.drop_zero]
                intro wx hox
                refine withs_of (by simp only [List.length, List.range, List.range.loop]; exact rfl) ?_
                simp only [withs, List.getElem?_cons_zero, List.getElem?_cons_succ, Option.bind, Option.getD]
                repeat (with_reducible refine all_isV ?_)
                go_simp
                have HBx := Lib.hid (HB.out.only hox (by simp))
                have HCx := Lib.hid (HC.out.only hox (by simp))
                have HOx : Hid (Only [g] w2 wx) := HO.out.trans hox (fun y hy => by simp at hy)
                have HWx := Lib.hid (HW.out.nil_trans hox)
                have hcellx := hox.cell hcell (by simp)
                clear hox hcell HB HC HO HW
                have c0 := HCx.out.cell 0
                have c1 := HCx.out.cell 1
                have c2 := HCx.out.cell 2
                have f0 := HCx.out.frozen 0
                have f1 := HCx.out.frozen 1
                have f2 := HCx.out.frozen 2
                simp only [List.getElem?_cons_zero, List.getElem?_cons_succ] at c0 c1 c2
                have HOc : Hid (Only [gc] wx ((wx.setCell ⟨gc, 0, none⟩ (.int .i64 (min (U) topB))).setCell ⟨gc, 1, none⟩ (.int .i64 (min (V) topB)))) := ((Only.refl [gc] wx).setCell (.inl (by simp)) _).setCell (.inl (by simp)) _
                have HCc : Hid (Blk ((wx.setCell ⟨gc, 0, none⟩ (.int .i64 (min (U) topB))).setCell ⟨gc, 1, none⟩ (.int .i64 (min (V) topB))) gc 74 [.int .i64 (min (U) topB), .int .i64 (min (V) topB), .int .i64 0]) := (HCx.out.set_ 0 _).set_ 1 _
                have HBc := Lib.hid (HBx.out.only HOc.out (by have := HNe.out; simp; omega))
                have HOd : Hid (Only [g] w2 ((wx.setCell ⟨gc, 0, none⟩ (.int .i64 (min (U) topB))).setCell ⟨gc, 1, none⟩ (.int .i64 (min (V) topB)))) := HOx.out.trans HOc.out (fun y hy => .inr (by have := HNe.out; have e : y = gc := (by simpa using hy); omega))
                have HWc : Hid (Only [] w ((wx.setCell ⟨gc, 0, none⟩ (.int .i64 (min (U) topB))).setCell ⟨gc, 1, none⟩ (.int .i64 (min (V) topB)))) := HWx.out.trans HOc.out (fun y hy => .inr (by have := HNe.out; have e : y = gc := (by simpa using hy); omega))
                have hcell' := HOc.out.cell hcellx (by have := HNe.out; simp; omega)
                clear HBx HOx HWx HCx hcellx HOc
                go_upto_region 29 with fail
                generalize (wx.setCell ⟨gc, 0, none⟩ (.int .i64 (min (U) topB))).setCell ⟨gc, 1, none⟩ (.int .i64 (min (V) topB)) = wy at *
                clear c0 c1 c2 f0 f1 f2
                apply wp_region_typed_tail2 6 (by kernel_rfl) [isV _, isV _, isV _, isV _, isV _, isV _] [[], [], [], [1, 2], [3], []] (by kernel_rfl) (by kernel_rfl) (by kernel_rfl)
                case ho =>
                  simp only [List.take_succ_cons, List.take_zero]
                  refine owes2_cons (fun wx hox => ?_) ?_
                  · skip
                    skip
                    refine withs_plain rfl ?_
                    simp only [withs, List.getElem?_cons_zero, List.getElem?_cons_succ, Option.bind, Option.getD]
                    repeat (with_reducible refine all_isV ?_)
                    go_simp
                    exact ⟨Only.refl _ _, isV.self _ _⟩
                  refine owes2_cons (fun wx hox => ?_) ?_
                  · skip
                    skip
                    refine withs_plain rfl ?_
                    simp only [withs, List.getElem?_cons_zero, List.getElem?_cons_succ, Option.bind, Option.getD]
                    repeat (with_reducible refine all_isV ?_)
                    go_simp
                    exact ⟨Only.refl _ _, isV.self _ _⟩
                  refine owes2_cons (fun wx hox => ?_) ?_
                  · skip
                    skip
                    refine withs_plain rfl ?_
                    simp only [withs, List.getElem?_cons_zero, List.getElem?_cons_succ, Option.bind, Option.getD]
                    repeat (with_reducible refine all_isV ?_)
                    go_simp
                    exact ⟨Only.refl _ _, isV.self _ _⟩
                  refine owes2_cons (fun wx hox => ?_) ?_
                  · skip
                    skip
                    refine withs_plain rfl ?_
                    simp only [withs, List.getElem?_cons_zero, List.getElem?_cons_succ, Option.bind, Option.getD]
                    repeat (with_reducible refine all_isV ?_)
                    go_simp
                    exact ⟨Only.refl _ _, isV.self _ _⟩
                  refine owes2_cons (fun wx hox => ?_) ?_
                  · skip
                    have hdx := HCc.out.only hox (by simp)
                    have d0 := hdx.cell 0
                    have d1 := hdx.cell 1
                    have d2 := hdx.cell 2
                    simp only [List.getElem?_cons_zero, List.getElem?_cons_succ] at d0 d1 d2
                    have hcx := hox.cell hcell' (by simp)
                    clear hdx
                    refine withs_plain rfl ?_
                    simp only [withs, List.getElem?_cons_zero, List.getElem?_cons_succ, Option.bind, Option.getD]
                    repeat (with_reducible refine all_isV ?_)
                    go_simp
                    exact ⟨Only.refl _ _, isV.self _ _⟩
                  refine owes2_cons (fun wx hox => ?_) ?_
                  · skip
                    have hdx := HCc.out.only hox (by simp)
                    have d0 := hdx.cell 0
                    have d1 := hdx.cell 1
                    have d2 := hdx.cell 2
                    simp only [List.getElem?_cons_zero, List.getElem?_cons_succ] at d0 d1 d2
                    have hcx := hox.cell hcell' (by simp)
                    clear hdx
                    refine withs_plain rfl ?_
                    simp only [withs, List.getElem?_cons_zero, List.getElem?_cons_succ, Option.bind, Option.getD]
                    repeat (with_reducible refine all_isV ?_)
                    go_simp
                    exact ⟨Only.refl _ _, isV.self _ _⟩
                  exact owes2_nil
                case he =>
                  simp only [List.drop_succ_cons, List.drop_zero]
                  intro wz hox
                  refine withs_of (by simp only [List.length, List.range, List.range.loop]; exact rfl) ?_
                  simp only [withs, List.getElem?_cons_zero, List.getElem?_cons_succ, Option.bind, Option.getD]
                  repeat (with_reducible refine all_isV ?_)
                  go_simp
                  have HBz := Lib.hid (HBc.out.only hox (by simp))
                  have HOz : Hid (Only [g] w2 wz) := HOd.out.trans hox (fun y hy => by simp at hy)
                  have HWz := Lib.hid (HWc.out.nil_trans hox)
                  clear hox hcell' HBc HOd HWc HCc
                  have HBs : Hid (Blk (((wz.setCell ⟨g, a * 3, none⟩ (.int .i64 (min (U) topB))).setCell ⟨g, a * 3 + 1, none⟩ (.int .i64 (min (V) topB))).setCell ⟨g, a * 3 + 2, none⟩ (.int .i64 0)) g 74 (intV (ns.length * 3) (outF ns (L.take (k + 1))))) := by
                    have h := ((HBz.out.set_ (a * 3) (.int .i64 (min (U) topB))).set_ (a * 3 + 1) (.int .i64 (min (V) topB))).set_ (a * 3 + 2) (.int .i64 0)
                    rw [intV_set, intV_set, intV_set, outF_next ns HTake.out HEu.out HEl.out] at h
                    exact h
                  have HOs : Hid (Only [g] w2 (((wz.setCell ⟨g, a * 3, none⟩ (.int .i64 (min (U) topB))).setCell ⟨g, a * 3 + 1, none⟩ (.int .i64 (min (V) topB))).setCell ⟨g, a * 3 + 2, none⟩ (.int .i64 0))) := (((HOz.out.setCell (.inl (by simp)) _).setCell (.inl (by simp)) _).setCell (.inl (by simp)) _)
                  have HWs : Hid (Only [] w (((wz.setCell ⟨g, a * 3, none⟩ (.int .i64 (min (U) topB))).setCell ⟨g, a * 3 + 1, none⟩ (.int .i64 (min (V) topB))).setCell ⟨g, a * 3 + 2, none⟩ (.int .i64 0))) := ((((HWz.out.setCell (.inr (by have := HG.out; show _ ≤ g; omega)) _).setCell (.inr (by have := HG.out; show _ ≤ g; omega)) _).setCell (.inr (by have := HG.out; show _ ≤ g; omega)) _))
                  have c0 := HBz.out.cell (a * 3)
                  have c1 := HBz.out.cell (a * 3 + 1)
                  have c2 := HBz.out.cell (a * 3 + 2)
                  rw [intV_get _ _ _ (by omega)] at c0 c1 c2
                  have f0 := HBz.out.frozen (a * 3)
                  have f1 := HBz.out.frozen (a * 3 + 1)
                  have f2 := HBz.out.frozen (a * 3 + 2)
                  have hanI : (a : Int) < (ns.length : Int) := by omega
                  go_wp2_with fail
                  go_roundw
                  case rel => exact ⟨k + 1, by omega, by go_num, by (rw [HPb.out]; first | rfl | (rw [decide_eq_true hU, decide_eq_true hV]; rfl) | (rw [decide_eq_true hU, decide_eq_false hV]; rfl) | (rw [decide_eq_false hU]; rfl)), HOs.out, HWs.out, HBs.out⟩
                  case measure => simp [intOf] <;> omega
                case hl =>
                  repeat (refine List.forall_mem_cons.2 ⟨?_, ?_⟩; exact isV.lasts _)
                  exact fun _ h => (by cases h)
              case hl =>
                repeat (refine List.forall_mem_cons.2 ⟨?_, ?_⟩; exact isV.lasts _)
                exact fun _ h => (by cases h)
          · skip
            go_upto_region 28 with fail
            apply wp_region_typed_tail2 7 (by kernel_rfl) [isV _, isV _, isV _, isV _, isV _, isV _, isV _] [[], [0], [1], [], [3], [4, 2], []] (by kernel_rfl) (by kernel_rfl) (by kernel_rfl)
            case ho =>
              simp only [List.take_succ_cons, List.take_zero]
              refine owes2_cons (fun wx hox => ?_) ?_
              · skip
                skip
                refine withs_plain rfl ?_
                simp only [withs, List.getElem?_cons_zero, List.getElem?_cons_succ, Option.bind, Option.getD]
                repeat (with_reducible refine all_isV ?_)
                go_simp
                exact ⟨Only.refl _ _, isV.self _ _⟩
              refine owes2_cons (fun wx hox => ?_) ?_
              · skip
                have hdx := HC.out.only hox (by simp)
                have c0 := hdx.cell 0
                have c1 := hdx.cell 1
                have c2 := hdx.cell 2
                simp only [List.getElem?_cons_zero, List.getElem?_cons_succ] at c0 c1 c2
                have hcx := hox.cell hcell (by simp)
                clear hdx
                refine withs_plain rfl ?_
                simp only [withs, List.getElem?_cons_zero, List.getElem?_cons_succ, Option.bind, Option.getD]
                repeat (with_reducible refine all_isV ?_)
                go_simp
                exact ⟨Only.refl _ _, isV.self _ _⟩
              refine owes2_cons (fun wx hox => ?_) ?_
              · skip
                skip
                refine withs_plain rfl ?_
                simp only [withs, List.getElem?_cons_zero, List.getElem?_cons_succ, Option.bind, Option.getD]
                repeat (with_reducible refine all_isV ?_)
                go_simp
                ((with_reducible exact grow_same (rfew_any _ wx)))
              refine owes2_cons (fun wx hox => ?_) ?_
              · skip
                skip
                refine withs_plain rfl ?_
                simp only [withs, List.getElem?_cons_zero, List.getElem?_cons_succ, Option.bind, Option.getD]
                repeat (with_reducible refine all_isV ?_)
                go_simp
                exact ⟨Only.refl _ _, isV.self _ _⟩
              refine owes2_cons (fun wx hox => ?_) ?_
              · skip
                have hdx := HC.out.only hox (by simp)
                have c0 := hdx.cell 0
                have c1 := hdx.cell 1
                have c2 := hdx.cell 2
                simp only [List.getElem?_cons_zero, List.getElem?_cons_succ] at c0 c1 c2
                have hcx := hox.cell hcell (by simp)
                clear hdx
                refine withs_plain rfl ?_
                simp only [withs, List.getElem?_cons_zero, List.getElem?_cons_succ, Option.bind, Option.getD]
                repeat (with_reducible refine all_isV ?_)
                go_simp
                exact ⟨Only.refl _ _, isV.self _ _⟩
              refine owes2_cons (fun wx hox => ?_) ?_
              · skip
                skip
                refine withs_plain rfl ?_
                simp only [withs, List.getElem?_cons_zero, List.getElem?_cons_succ, Option.bind, Option.getD]
                repeat (with_reducible refine all_isV ?_)
                go_simp
                ((with_reducible exact grow_same (rfew_any _ wx)))
              refine owes2_cons (fun wx hox => ?_) ?_
              · skip
                skip
                refine withs_plain rfl ?_
                simp only [withs, List.getElem?_cons_zero, List.getElem?_cons_succ, Option.bind, Option.getD]
                repeat (with_reducible refine all_isV ?_)
                go_simp
                exact ⟨Only.refl _ _, isV.self _ _⟩
              exact owes2_nil
            case he =>
              simp only [List.drop_succ_cons, List.drop_zero]
              intro wx hox
              refine withs_of (by simp only [List.length, List.range, List.range.loop]; exact rfl) ?_
              simp only [withs, List.getElem?_cons_zero, List.getElem?_cons_succ, Option.bind, Option.getD]
              repeat (with_reducible refine all_isV ?_)
              go_simp
              have HBx := Lib.hid (HB.out.only hox (by simp))
              have HCx := Lib.hid (HC.out.only hox (by simp))
              have HOx : Hid (Only [g] w2 wx) := HO.out.trans hox (fun y hy => by simp at hy)
              have HWx := Lib.hid (HW.out.nil_trans hox)
              have hcellx := hox.cell hcell (by simp)
              clear hox hcell HB HC HO HW
              have c0 := HCx.out.cell 0
              have c1 := HCx.out.cell 1
              have c2 := HCx.out.cell 2
              have f0 := HCx.out.frozen 0
              have f1 := HCx.out.frozen 1
              have f2 := HCx.out.frozen 2
              simp only [List.getElem?_cons_zero, List.getElem?_cons_succ] at c0 c1 c2
              have HOc : Hid (Only [gc] wx ((wx.setCell ⟨gc, 0, none⟩ (.int .i64 (min (U) topB))).setCell ⟨gc, 1, none⟩ (.int .i64 (min (V) topB)))) := ((Only.refl [gc] wx).setCell (.inl (by simp)) _).setCell (.inl (by simp)) _
              have HCc : Hid (Blk ((wx.setCell ⟨gc, 0, none⟩ (.int .i64 (min (U) topB))).setCell ⟨gc, 1, none⟩ (.int .i64 (min (V) topB))) gc 74 [.int .i64 (min (U) topB), .int .i64 (min (V) topB), .int .i64 0]) := (HCx.out.set_ 0 _).set_ 1 _
              have HBc := Lib.hid (HBx.out.only HOc.out (by have := HNe.out; simp; omega))
              have HOd : Hid (Only [g] w2 ((wx.setCell ⟨gc, 0, none⟩ (.int .i64 (min (U) topB))).setCell ⟨gc, 1, none⟩ (.int .i64 (min (V) topB)))) := HOx.out.trans HOc.out (fun y hy => .inr (by have := HNe.out; have e : y = gc := (by simpa using hy); omega))
              have HWc : Hid (Only [] w ((wx.setCell ⟨gc, 0, none⟩ (.int .i64 (min (U) topB))).setCell ⟨gc, 1, none⟩ (.int .i64 (min (V) topB)))) := HWx.out.trans HOc.out (fun y hy => .inr (by have := HNe.out; have e : y = gc := (by simpa using hy); omega))
              have hcell' := HOc.out.cell hcellx (by have := HNe.out; simp; omega)
              clear HBx HOx HWx HCx hcellx HOc
              go_upto_region 29 with fail
              generalize (wx.setCell ⟨gc, 0, none⟩ (.int .i64 (min (U) topB))).setCell ⟨gc, 1, none⟩ (.int .i64 (min (V) topB)) = wy at *
              clear c0 c1 c2 f0 f1 f2
              apply wp_region_typed_tail2 6 (by kernel_rfl) [isV _, isV _, isV _, isV _, isV _, isV _] [[], [], [], [1, 2], [3], []] (by kernel_rfl) (by kernel_rfl) (by kernel_rfl)
              case ho =>
                simp only [List.take_succ_cons, List.take_zero]
                refine owes2_cons (fun wx hox => ?_) ?_
                · skip
                  skip
                  refine withs_plain rfl ?_
                  simp only [withs, List.getElem?_cons_zero, List.getElem?_cons_succ, Option.bind, Option.getD]
                  repeat (with_reducible refine all_isV ?_)
                  go_simp
                  exact ⟨Only.refl _ _, isV.self _ _⟩
                refine owes2_cons (fun wx hox => ?_) ?_
                · skip
                  skip
                  refine withs_plain rfl ?_
                  simp only [withs, List.getElem?_cons_zero, List.getElem?_cons_succ, Option.bind, Option.getD]
                  repeat (with_reducible refine all_isV ?_)
                  go_simp
                  exact ⟨Only.refl _ _, isV.self _ _⟩
                refine owes2_cons (fun wx hox => ?_) ?_
                · skip
                  skip
                  refine withs_plain rfl ?_
                  simp only [withs, List.getElem?_cons_zero, List.getElem?_cons_succ, Option.bind, Option.getD]
                  repeat (with_reducible refine all_isV ?_)
                  go_simp
                  exact ⟨Only.refl _ _, isV.self _ _⟩
                refine owes2_cons (fun wx hox => ?_) ?_
                · skip
                  skip
                  refine withs_plain rfl ?_
                  simp only [withs, List.getElem?_cons_zero, List.getElem?_cons_succ, Option.bind, Option.getD]
                  repeat (with_reducible refine all_isV ?_)
                  go_simp
                  exact ⟨Only.refl _ _, isV.self _ _⟩
                refine owes2_cons (fun wx hox => ?_) ?_
                · skip
                  have hdx := HCc.out.only hox (by simp)
                  have d0 := hdx.cell 0
                  have d1 := hdx.cell 1
                  have d2 := hdx.cell 2
                  simp only [List.getElem?_cons_zero, List.getElem?_cons_succ] at d0 d1 d2
                  have hcx := hox.cell hcell' (by simp)
                  clear hdx
                  refine withs_plain rfl ?_
                  simp only [withs, List.getElem?_cons_zero, List.getElem?_cons_succ, Option.bind, Option.getD]
                  repeat (with_reducible refine all_isV ?_)
                  go_simp
                  exact ⟨Only.refl _ _, isV.self _ _⟩
                refine owes2_cons (fun wx hox => ?_) ?_
                · skip
                  have hdx := HCc.out.only hox (by simp)
                  have d0 := hdx.cell 0
                  have d1 := hdx.cell 1
                  have d2 := hdx.cell 2
                  simp only [List.getElem?_cons_zero, List.getElem?_cons_succ] at d0 d1 d2
                  have hcx := hox.cell hcell' (by simp)
                  clear hdx
                  refine withs_plain rfl ?_
                  simp only [withs, List.getElem?_cons_zero, List.getElem?_cons_succ, Option.bind, Option.getD]
                  repeat (with_reducible refine all_isV ?_)
                  go_simp
                  exact ⟨Only.refl _ _, isV.self _ _⟩
                exact owes2_nil
              case he =>
                simp only [List.drop_succ_cons, List.drop_zero]
                intro wz hox
                refine withs_of (by simp only [List.length, List.range, List.range.loop]; exact rfl) ?_
                simp only [withs, List.getElem?_cons_zero, List.getElem?_cons_succ, Option.bind, Option.getD]
                repeat (with_reducible refine all_isV ?_)
                go_simp
                have HBz := Lib.hid (HBc.out.only hox (by simp))
                have HOz : Hid (Only [g] w2 wz) := HOd.out.trans hox (fun y hy => by simp at hy)
                have HWz := Lib.hid (HWc.out.nil_trans hox)
                clear hox hcell' HBc HOd HWc HCc
                have HBs : Hid (Blk (((wz.setCell ⟨g, a * 3, none⟩ (.int .i64 (min (U) topB))).setCell ⟨g, a * 3 + 1, none⟩ (.int .i64 (min (V) topB))).setCell ⟨g, a * 3 + 2, none⟩ (.int .i64 0)) g 74 (intV (ns.length * 3) (outF ns (L.take (k + 1))))) := by
                  have h := ((HBz.out.set_ (a * 3) (.int .i64 (min (U) topB))).set_ (a * 3 + 1) (.int .i64 (min (V) topB))).set_ (a * 3 + 2) (.int .i64 0)
                  rw [intV_set, intV_set, intV_set, outF_next ns HTake.out HEu.out HEl.out] at h
                  exact h
                have HOs : Hid (Only [g] w2 (((wz.setCell ⟨g, a * 3, none⟩ (.int .i64 (min (U) topB))).setCell ⟨g, a * 3 + 1, none⟩ (.int .i64 (min (V) topB))).setCell ⟨g, a * 3 + 2, none⟩ (.int .i64 0))) := (((HOz.out.setCell (.inl (by simp)) _).setCell (.inl (by simp)) _).setCell (.inl (by simp)) _)
                have HWs : Hid (Only [] w (((wz.setCell ⟨g, a * 3, none⟩ (.int .i64 (min (U) topB))).setCell ⟨g, a * 3 + 1, none⟩ (.int .i64 (min (V) topB))).setCell ⟨g, a * 3 + 2, none⟩ (.int .i64 0))) := ((((HWz.out.setCell (.inr (by have := HG.out; show _ ≤ g; omega)) _).setCell (.inr (by have := HG.out; show _ ≤ g; omega)) _).setCell (.inr (by have := HG.out; show _ ≤ g; omega)) _))
                have c0 := HBz.out.cell (a * 3)
                have c1 := HBz.out.cell (a * 3 + 1)
                have c2 := HBz.out.cell (a * 3 + 2)
                rw [intV_get _ _ _ (by omega)] at c0 c1 c2
                have f0 := HBz.out.frozen (a * 3)
                have f1 := HBz.out.frozen (a * 3 + 1)
                have f2 := HBz.out.frozen (a * 3 + 2)
                have hanI : (a : Int) < (ns.length : Int) := by omega
                go_wp2_with fail
                go_roundw
                case rel => exact ⟨k + 1, by omega, by go_num, by (rw [HPb.out]; first | rfl | (rw [decide_eq_true hU, decide_eq_true hV]; rfl) | (rw [decide_eq_true hU, decide_eq_false hV]; rfl) | (rw [decide_eq_false hU]; rfl)), HOs.out, HWs.out, HBs.out⟩
                case measure => simp [intOf] <;> omega
              case hl =>
                repeat (refine List.forall_mem_cons.2 ⟨?_, ?_⟩; exact isV.lasts _)
                exact fun _ h => (by cases h)
            case hl =>
              repeat (refine List.forall_mem_cons.2 ⟨?_, ?_⟩; exact isV.lasts _)
              exact fun _ h => (by cases h)
    · have hnl : ¬ (k : Int) < (L.length : Int) := by omega
      obtain rfl : k = L.length := by omega
      have HBe : Hid (Blk wr g 74 (intV (ns.length * 3) (outF ns L))) := by
        have h := HB.out
        rw [List.take_length] at h
        exact h
      go_wp2_with fail
      go_returns
      rw [HLe.out]
      exact ⟨g, by simp only [List.take_length]; rfl, HBe.out, by have := HG.out; omega, HW.out⟩
end Go.Proofs.YtigpnopeacicpaaDoor
