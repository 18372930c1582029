/-
  Joined texts.
-/
import Derived.Test.YtigpnopeacicpaaDoorTbJ12
import Derived.Test.YtigpnopeacicpaaDoorTbJ11
import Derived.Laws.MakeOwn
/-
  bound.entries over what one is made of.
-/
namespace Go.Proofs.YtigpnopeacicpaaDoor
set_option linter.unusedSimpArgs false
open Go.RowKit
attribute [local go_sem] run_store_float

/-- Nodes as they should be. -/
def NodesOk (ns : List Nd) : Prop := ∀ x : Nat, x < ns.length → NodeOk (nodeAt ns (x : Int)) ∧ Small (nodeAt ns (x : Int)).a ∧ Small (nodeAt ns (x : Int)).b
theorem NodesOk.kind {ns : List Nd} (h : NodesOk ns) : KindOk ns := fun x hx => (h x hx).1.1

section
variable {u l : Int} {ok : Bool}
theorem clip_uu (hu : 1099511627776 < u) (hl : 1099511627776 < l) : clipE ⟨u, l, ok⟩ = ⟨1099511627776, 1099511627776, false⟩ := by
  unfold clipE
  have h1 : decide (u ≤ topB) = false := decide_eq_false (by rw [topB_val]; omega)
  have h2 : decide (l ≤ topB) = false := decide_eq_false (by rw [topB_val]; omega)
  rw [h1, h2]
  simp only [En.mk.injEq, Bool.false_and, Bool.true_and, Bool.and_true, Bool.and_false, and_true, topB_val]
  omega
theorem clip_ul (hu : 1099511627776 < u) (hl : ¬ 1099511627776 < l) : clipE ⟨u, l, ok⟩ = ⟨1099511627776, l, false⟩ := by
  unfold clipE
  have h1 : decide (u ≤ topB) = false := decide_eq_false (by rw [topB_val]; omega)
  have h2 : decide (l ≤ topB) = true := decide_eq_true (by rw [topB_val]; omega)
  rw [h1, h2]
  simp only [En.mk.injEq, Bool.false_and, Bool.true_and, Bool.and_true, Bool.and_false, and_true, topB_val]
  omega
theorem clip_lu (hu : ¬ 1099511627776 < u) (hl : 1099511627776 < l) : clipE ⟨u, l, ok⟩ = ⟨u, 1099511627776, false⟩ := by
  unfold clipE
  have h1 : decide (u ≤ topB) = true := decide_eq_true (by rw [topB_val]; omega)
  have h2 : decide (l ≤ topB) = false := decide_eq_false (by rw [topB_val]; omega)
  rw [h1, h2]
  simp only [En.mk.injEq, Bool.false_and, Bool.true_and, Bool.and_true, Bool.and_false, and_true, topB_val]
  omega
theorem clip_ll (hu : ¬ 1099511627776 < u) (hl : ¬ 1099511627776 < l) : clipE ⟨u, l, ok⟩ = ⟨u, l, ok⟩ := by
  unfold clipE
  have h1 : decide (u ≤ topB) = true := decide_eq_true (by rw [topB_val]; omega)
  have h2 : decide (l ≤ topB) = true := decide_eq_true (by rw [topB_val]; omega)
  rw [h1, h2]
  simp only [En.mk.injEq, Bool.false_and, Bool.true_and, Bool.and_true, Bool.and_false, and_true, topB_val]
  omega
end
set_option maxHeartbeats 3200000 in
set_option maxRecDepth 100000 in
theorem ents_any (d : Nat) (v : Value) (ns : List Nd) (R : Int → Prop) (A : Option Addr) (c : Nat) (w : World) (hT : Hid (Tab6 w)) (hd : DagIs w d v none ns) (ok : OkDag ns) (hns : ns.length ≤ 20000) (hno : NodesOk ns)
    (hread : IRead w A (belowL ns R)) :
    Calls Tryd.prog 42 #[.pointer (some ⟨d, 0, none⟩), .slice A (belowL ns R).length c] w fun e w' => ∃ m, e = .returned (.map (some m)) ∧ MapV w' m (belowL ns R).length (mapE ns (belowL ns R)) ∧ w.heap.size ≤ m ∧ Only [] w w' := by
  have hmm := @run_makeMap Tryd.prog
  have HD := Lib.hid hd
  have HNs := Lib.hid hns
  have HOk := Lib.hid ok
  have HNo := Lib.hid hno
  obtain ⟨L, hLe⟩ : ∃ L, L = belowL ns R := ⟨_, rfl⟩
  have HIds : Hid (Ids ns L) := hLe ▸ belowL_ids ok R
  have HAsc : Hid (L.Pairwise (· < ·)) := by
    show List.Pairwise _ _
    rw [hLe]
    exact belowL_asc ns R
  have HComb : Hid (∀ k a : Nat, k < L.length → L[k]?.getD 0 = (a : Int) → a < ns.length → clipE (combE lfB (nodeAt ns (a : Int)) (atE ns (L.take k) (nodeAt ns (a : Int)).a) (atE ns (L.take k) (nodeAt ns (a : Int)).b)) = ent lfB ns (a : Int)) := by
    rw [hLe]
    exact fun k a h1 h2 h3 => comb_at ok hno.kind h1 h2 h3
  rw [← hLe] at hread ⊢
  have HR := Lib.hid hread
  have HM : Hid (MapV (w.alloc (.map #[] 0)) w.heap.size 0 (fun _ => none)) := MapV.made w
  have HO1 : Hid (Only [] w (w.alloc (.map #[] 0))) := (Only.refl [] w).alloc _
  have hlen : (L.length : Int) ≤ 20000 := by have := HIds.out.len; omega
  clear hd hns ok hno hread hLe
  go_enter Tryd.func42, Tryd.ntmps42
  go_wp2_with fail
  clear hmm
  have HFr : Hid (∀ b o, A = some ⟨b, o, none⟩ → 0 < L.length → b ≠ w.heap.size) := by
    rintro b o rfl hl
    obtain ⟨b2, o2, e, hc⟩ := HR.out 0 hl
    injection e with e
    injection e with e1 _ _
    subst e1
    have : b < w.heap.size := World.block_lt_of_cell? w _ hc
    omega
  generalize w.alloc (.map #[] 0) = w1 at *
  generalize hm : w.heap.size = m at HM HFr ⊢
  have HSz : Hid (w.heap.size ≤ m) := by show _ ≤ _; omega
  clear hm
  go_loopw [14] (fun i wr => ∃ k : Nat, k ≤ L.length ∧ i = .int .i64 (k : Int) ∧ Only [m] w1 wr ∧ MapV wr m k (mapE ns (L.take k))) (fun i _ => L.length - (intOf i).toNat)
  case atStart => exact ⟨0, Nat.zero_le _, rfl, Only.refl _ _, by
    have e : mapE ns (L.take 0) = fun _ => none := by funext y; simp [mapE]
    rw [e]; exact HM.out⟩
  case round =>
    obtain ⟨k, hk, rfl, ho, hD⟩ := hrel
    have HO := Lib.hid ho
    have HMp := Lib.hid hD
    clear ho hD HM
    by_cases hlt : k < L.length
    · obtain ⟨a, ha, han⟩ := HIds.out.mem k hlt
      obtain ⟨b, o, rfl, hcell0⟩ := HR.out k hlt
      have hbm : b ≠ m := HFr.out b o rfl (by omega)
      have hcell := HO.out.cell (HO1.out.cell hcell0 (by simp)) (by simpa using hbm)
      rw [ha] at hcell
      have hlt' : (k : Int) < (L.length : Int) := by omega
      have HW0 : Hid (Only [] w wr) := (HO1.out.mono (by simp)).trans HO.out (fun y hy => .inr (by
        have e : y = m := by simpa using hy
        have := HSz.out
        omega))
      have HTw := Lib.hid (hT.out.keep HW0.out)
      have hsa : Small (a : Int) := by have := HNs.out; unfold Small; omega
      have HSa := Lib.hid hsa
      have hkn : k ≤ 20000 := by omega
      have HTake : Hid (L.take (k + 1) = L.take k ++ [(a : Int)]) := by
        show _ = _
        rw [List.take_succ_eq_append_getElem hlt, ← ha, List.getElem?_eq_getElem hlt]
        rfl
      have HNot : Hid ((a : Int) ∉ L.take k) := by
        intro hm
        rw [List.mem_take_iff_getElem] at hm
        obtain ⟨j, hj, e⟩ := hm
        have h1 := (List.pairwise_iff_getElem.1 HAsc.out) j k (by omega) hlt (by omega)
        rw [List.getElem?_eq_getElem hlt, Option.getD_some] at ha
        omega
      have HCk := Lib.hid (HComb.out k a hlt ha han)
      have HNk := Lib.hid (HNo.out a han)
      clear ha hsa
      go_wp2_with fail
      refine (dnode_in d v none ns a wr (HD.out.only HW0.out (by simp)) han).mono ?_
      rintro e w2 ⟨rfl, ho2⟩
      have HN : Hid (nodeAt ns (a : Int) = ns[a]?.getD nd0) := rfl
      rw [HN.out] at HCk HNk
      generalize ns[a]?.getD nd0 = nd at HCk HNk HN ⊢
      obtain ⟨nk, nf, na, nb⟩ := nd
      simp only at HCk
      have HMp2 := Lib.hid (HMp.out.only ho2 (by simp))
      have HOw2 := Lib.hid (HO.out.nil_trans ho2)
      have HT2 := Lib.hid (HTw.out.keep ho2)
      have hlm : m < w2.heap.size := HMp2.out.lt
      clear ho2 HMp HO hcell0 hcell HN HTw HW0
      simp only [Nd.val]
      go_upto_region 6 with fail
      have hbx : Blk (w2.alloc (.cells #[.int .i64 nk, .float .f64 nf, .int .i64 na, .int .i64 nb] 31)) w2.heap.size 31 [.int .i64 nk, .float .f64 nf, .int .i64 na, .int .i64 nb] := Blk.new w2 _ _
      have hoa : Only [] w2 (w2.alloc (.cells #[.int .i64 nk, .float .f64 nf, .int .i64 na, .int .i64 nb] 31)) := (Only.refl _ _).alloc _
      generalize w2.alloc (.cells #[.int .i64 nk, .float .f64 nf, .int .i64 na, .int .i64 nb] 31) = w3 at *
      generalize w2.heap.size = bx at *
      have HMp3 := Lib.hid (HMp2.out.only hoa (by simp))
      have HOw3 := Lib.hid (HOw2.out.nil_trans hoa)
      have HT3 := Lib.hid (HT2.out.keep hoa)
      have b0 := hbx.cell 0
      have b1 := hbx.cell 1
      have b2 := hbx.cell 2
      have b3 := hbx.cell 3
      simp only [List.getElem?_cons_zero, List.getElem?_cons_succ] at b0 b1 b2 b3
      have hlA := HMp3.out.look Tryd.underlying85 (zeroEnt w3) HNk.out.2.1
      have hlB := HMp3.out.look Tryd.underlying85 (zeroEnt w3) HNk.out.2.2
      rw [mapE_get] at hlA hlB
      have HPa := Lib.hid (atE_ok ns (L.take k) na)
      have HPb := Lib.hid (atE_ok ns (L.take k) nb)
      generalize atE ns (L.take k) na = pa at hlA HCk HPa
      generalize atE ns (L.take k) nb = pb at hlB HCk HPb
      have HCm := Lib.hid (comb_any ⟨nk, nf, na, nb⟩ HNk.out.1 pa pb HPa.out HPb.out w3 HT3)
      simp only [Nd.val] at HCm
      generalize combE lfB ⟨nk, nf, na, nb⟩ pa pb = ce at HCk HCm
      generalize entV pa = va at hlA HCm
      generalize entV pb = vb at hlB HCm
      clear hbx hoa HMp2 HOw2 HT2
      go_wp2_with fail
      (with_reducible refine HCm.out.mono ?_)
      rintro e w4 ⟨rfl, ho4⟩
      have HMp4 := Lib.hid (HMp3.out.only ho4 (by simp))
      have HOw4 := Lib.hid (HOw3.out.nil_trans ho4)
      clear ho4 HMp3 HOw3 HCm hlA hlB b0 b1 b2 b3
      have HBx := Lib.hid (fun cs => (Only.refl [] w4).alloc (.cells cs 83))
      obtain ⟨u, l, okb⟩ := ce
      by_cases hu : 1099511627776 < u
      · by_cases hl : 1099511627776 < l
        · have HE : Hid (ent lfB ns (a : Int) = ⟨1099511627776, 1099511627776, false⟩) := HCk.out.symm.trans (clip_uu hu hl)
          clear HCk
          obtain ⟨w5, hup, hM5, hO5⟩ := (HMp4.out.only (HBx.out #[.int .i64 1099511627776, .int .i64 1099511627776, .bool false]) (by simp)).store Tryd.underlying85 (by omega) HSa.out (.agg #[.int .i64 1099511627776, .int .i64 1099511627776, .bool false])
          have HM5 := Lib.hid hM5
          have HO5 := Lib.hid ((HOw4.out.nil_trans (HBx.out #[.int .i64 1099511627776, .int .i64 1099511627776, .bool false])).trans hO5 (fun y hy => .inl hy))
          clear hM5 hO5 HMp4 HOw4
          go_wp2_with fail
          have HM6 : Hid (MapV w5 m (k + 1) (mapE ns (L.take (k + 1)))) := by
            have h := HM5.out
            have e : (Value.agg #[.int .i64 1099511627776, .int .i64 1099511627776, .bool false]) = entV (ent lfB ns (a : Int)) := by rw [HE.out]
            rw [e, mapE_next ns (L.take k) (L.take (k + 1)) (a : Int) (by rw [HTake.out]; simp)] at h
            have e2 : (mapE ns (L.take k) (a : Int)).isSome = false := by unfold mapE; rw [if_neg HNot.out]; rfl
            rw [e2] at h
            exact h
          go_roundw
          case rel => exact ⟨k + 1, by omega, by go_num, HO5.out, HM6.out⟩
          case measure => simp [intOf] <;> omega
        · have HE : Hid (ent lfB ns (a : Int) = ⟨1099511627776, l, false⟩) := HCk.out.symm.trans (clip_ul hu hl)
          clear HCk
          obtain ⟨w5, hup, hM5, hO5⟩ := (HMp4.out.only (HBx.out #[.int .i64 1099511627776, .int .i64 l, .bool false]) (by simp)).store Tryd.underlying85 (by omega) HSa.out (.agg #[.int .i64 1099511627776, .int .i64 l, .bool false])
          have HM5 := Lib.hid hM5
          have HO5 := Lib.hid ((HOw4.out.nil_trans (HBx.out #[.int .i64 1099511627776, .int .i64 l, .bool false])).trans hO5 (fun y hy => .inl hy))
          clear hM5 hO5 HMp4 HOw4
          go_wp2_with fail
          have HM6 : Hid (MapV w5 m (k + 1) (mapE ns (L.take (k + 1)))) := by
            have h := HM5.out
            have e : (Value.agg #[.int .i64 1099511627776, .int .i64 l, .bool false]) = entV (ent lfB ns (a : Int)) := by rw [HE.out]
            rw [e, mapE_next ns (L.take k) (L.take (k + 1)) (a : Int) (by rw [HTake.out]; simp)] at h
            have e2 : (mapE ns (L.take k) (a : Int)).isSome = false := by unfold mapE; rw [if_neg HNot.out]; rfl
            rw [e2] at h
            exact h
          go_roundw
          case rel => exact ⟨k + 1, by omega, by go_num, HO5.out, HM6.out⟩
          case measure => simp [intOf] <;> omega
      · by_cases hl : 1099511627776 < l
        · have HE : Hid (ent lfB ns (a : Int) = ⟨u, 1099511627776, false⟩) := HCk.out.symm.trans (clip_lu hu hl)
          clear HCk
          obtain ⟨w5, hup, hM5, hO5⟩ := (HMp4.out.only (HBx.out #[.int .i64 u, .int .i64 1099511627776, .bool false]) (by simp)).store Tryd.underlying85 (by omega) HSa.out (.agg #[.int .i64 u, .int .i64 1099511627776, .bool false])
          have HM5 := Lib.hid hM5
          have HO5 := Lib.hid ((HOw4.out.nil_trans (HBx.out #[.int .i64 u, .int .i64 1099511627776, .bool false])).trans hO5 (fun y hy => .inl hy))
          clear hM5 hO5 HMp4 HOw4
          go_wp2_with fail
          have HM6 : Hid (MapV w5 m (k + 1) (mapE ns (L.take (k + 1)))) := by
            have h := HM5.out
            have e : (Value.agg #[.int .i64 u, .int .i64 1099511627776, .bool false]) = entV (ent lfB ns (a : Int)) := by rw [HE.out]
            rw [e, mapE_next ns (L.take k) (L.take (k + 1)) (a : Int) (by rw [HTake.out]; simp)] at h
            have e2 : (mapE ns (L.take k) (a : Int)).isSome = false := by unfold mapE; rw [if_neg HNot.out]; rfl
            rw [e2] at h
            exact h
          go_roundw
          case rel => exact ⟨k + 1, by omega, by go_num, HO5.out, HM6.out⟩
          case measure => simp [intOf] <;> omega
        · have HE : Hid (ent lfB ns (a : Int) = ⟨u, l, okb⟩) := HCk.out.symm.trans (clip_ll hu hl)
          clear HCk
          obtain ⟨w5, hup, hM5, hO5⟩ := (HMp4.out.only (HBx.out #[.int .i64 u, .int .i64 l, .bool okb]) (by simp)).store Tryd.underlying85 (by omega) HSa.out (.agg #[.int .i64 u, .int .i64 l, .bool okb])
          have HM5 := Lib.hid hM5
          have HO5 := Lib.hid ((HOw4.out.nil_trans (HBx.out #[.int .i64 u, .int .i64 l, .bool okb])).trans hO5 (fun y hy => .inl hy))
          clear hM5 hO5 HMp4 HOw4
          go_wp2_with fail
          have HM6 : Hid (MapV w5 m (k + 1) (mapE ns (L.take (k + 1)))) := by
            have h := HM5.out
            have e : (Value.agg #[.int .i64 u, .int .i64 l, .bool okb]) = entV (ent lfB ns (a : Int)) := by rw [HE.out]
            rw [e, mapE_next ns (L.take k) (L.take (k + 1)) (a : Int) (by rw [HTake.out]; simp)] at h
            have e2 : (mapE ns (L.take k) (a : Int)).isSome = false := by unfold mapE; rw [if_neg HNot.out]; rfl
            rw [e2] at h
            exact h
          go_roundw
          case rel => exact ⟨k + 1, by omega, by go_num, HO5.out, HM6.out⟩
          case measure => simp [intOf] <;> omega
    · have hnl : ¬ (k : Int) < (L.length : Int) := by omega
      obtain rfl : k = L.length := by omega
      go_wp2_with fail
      go_returns
      have h := HMp.out
      rw [List.take_length] at h
      exact ⟨m, rfl, h, HSz.out, (HO1.out.mono (by simp)).trans HO.out (fun y hy => .inr (by
        have e : y = m := by simpa using hy
        have := HSz.out
        omega))⟩
end Go.Proofs.YtigpnopeacicpaaDoor

/-
  The reference's Below: marks from the root down, then the marked ones, rising (plain law and walk).
-/
namespace Go.Proofs.YtigpnopeacicpaaDoor
open Go.RowKit
attribute [local go_sem] run_store_float

open Classical in
/-- Who is marked when all from k on have been looked at. -/
noncomputable def mkB (ns : List Nd) (root k : Nat) (j : Nat) : Bool := decide (j = root ∨ ∃ z : Int, (k : Int) ≤ z ∧ Reach ns (· ∈ [(root : Int)]) z ∧ (j : Int) ∈ kids (nodeAt ns z))
theorem reach_le {ns : List Nd} (ok : OkDag ns) {a x : Int} (hx : Reach ns (· ∈ [a]) x) : x ≤ a := by
  induction hx with
  | root x h _ _ => simp at h; omega
  | kid x c h hc ih =>
    have hr := h.range ok
    have := ok x hr.1 hr.2 c hc
    omega
open Classical in
theorem mkB_start {ns : List Nd} (ok : OkDag ns) (root j : Nat) : mkB ns root (root + 1) j = decide (j = root) := by
  unfold mkB
  congr 1
  apply propext
  constructor
  · rintro (h | ⟨z, hz, hr, _⟩)
    · exact h
    · have := reach_le ok hr
      omega
  · exact .inl
open Classical in
theorem mkB_reach {ns : List Nd} (ok : OkDag ns) {root i : Nat} (hr : root < ns.length) (hi : i ≤ root) : mkB ns root (i + 1) i = true ↔ Reach ns (· ∈ [(root : Int)]) (i : Int) := by
  unfold mkB
  rw [decide_eq_true_iff]
  constructor
  · rintro (h | ⟨z, hz, h, hk⟩)
    · subst h
      exact .root _ (by simp) (by omega) (by omega)
    · exact .kid _ _ h hk
  · intro h
    cases h with
    | root _ h _ _ => left; simp at h; omega
    | kid x _ h hc =>
      right
      have hx := h.range ok
      have := ok x hx.1 hx.2 _ hc
      exact ⟨x, by omega, h, hc⟩
open Classical in
theorem mkB_skip {ns : List Nd} {root i : Nat} (h : ¬ Reach ns (· ∈ [(root : Int)]) (i : Int)) (j : Nat) : mkB ns root i j = mkB ns root (i + 1) j := by
  unfold mkB
  congr 1
  apply propext
  constructor
  · rintro (h1 | ⟨z, hz, h1, h2⟩)
    · exact .inl h1
    · refine .inr ⟨z, ?_, h1, h2⟩
      have : z ≠ (i : Int) := fun e => h (e ▸ h1)
      omega
  · rintro (h1 | ⟨z, hz, h1, h2⟩)
    · exact .inl h1
    · exact .inr ⟨z, by omega, h1, h2⟩
open Classical in
theorem mkB_next {ns : List Nd} {root i : Nat} (h : Reach ns (· ∈ [(root : Int)]) (i : Int)) (j : Nat) : mkB ns root i j = (mkB ns root (i + 1) j || decide ((j : Int) ∈ kids (nodeAt ns (i : Int)))) := by
  unfold mkB
  rw [Bool.eq_iff_iff, Bool.or_eq_true, decide_eq_true_iff, decide_eq_true_iff, decide_eq_true_iff]
  constructor
  · rintro (h1 | ⟨z, hz, h1, h2⟩)
    · exact .inl (.inl h1)
    · by_cases e : z = (i : Int)
      · subst e; exact .inr h2
      · exact .inl (.inr ⟨z, by omega, h1, h2⟩)
  · rintro ((h1 | ⟨z, hz, h1, h2⟩) | h1)
    · exact .inl h1
    · exact .inr ⟨z, by omega, h1, h2⟩
    · exact .inr ⟨i, by omega, h, h1⟩
/-- The marks in memory. -/
def boolV (n : Nat) (f : Nat → Bool) : List Value := (List.range n).map fun j => .bool (f j)
theorem boolV_get (n : Nat) (f : Nat → Bool) (j : Nat) (h : j < n) : (boolV n f)[j]? = some (.bool (f j)) := by simp [boolV, h]
theorem boolV_set (n : Nat) (f : Nat → Bool) (a : Nat) (b : Bool) : (boolV n f).set a (.bool b) = boolV n (fun j => if j = a then b else f j) := by
  apply List.ext_getElem
  · simp [boolV]
  · intro i h1 h2
    simp only [boolV, List.getElem_set, List.getElem_map, List.getElem_range]
    by_cases e : a = i
    · subst e; simp
    · rw [if_neg e, if_neg (fun h => e h.symm)]
/-- Those marked, rising. -/
def marked (f : Nat → Bool) (k : Nat) : List Int := ((List.range k).filter fun j => f j).map fun (i : Nat) => (i : Int)
theorem marked_snoc (f : Nat → Bool) (k : Nat) : marked f (k + 1) = marked f k ++ if f k = true then [(k : Int)] else [] := by
  unfold marked
  rw [List.range_succ, List.filter_append, List.map_append]
  cases h : f k <;> simp [h]
open Classical in
theorem marked_below {ns : List Nd} (ok : OkDag ns) {root : Nat} (hr : root < ns.length) : marked (mkB ns root 0) (root + 1) = belowOf ns (root : Int) := by
  unfold marked belowOf belowL
  have e : List.range ns.length = List.range (root + 1) ++ (List.range (ns.length - (root + 1))).map fun x => root + 1 + x := by
    rw [← List.range_add]
    congr 1
    omega
  rw [e, List.filter_append, List.map_append]
  have h2 : ((List.range (ns.length - (root + 1))).map fun x => root + 1 + x).filter (fun (i : Nat) => decide (Reach ns (· ∈ [(root : Int)]) (i : Int))) = [] := by
    rw [List.filter_eq_nil_iff]
    intro x hx
    rw [List.mem_map] at hx
    obtain ⟨y, _, rfl⟩ := hx
    simp only [decide_eq_true_eq]
    intro h
    have := reach_le ok h
    omega
  rw [h2, List.map_nil, List.append_nil]
  congr 1
  apply List.filter_congr
  intro i hi
  rw [List.mem_range] at hi
  rw [Bool.eq_iff_iff, decide_eq_true_iff]
  have h3 : mkB ns root 0 i = true ↔ mkB ns root (i + 1) i = true := by
    unfold mkB
    rw [decide_eq_true_iff, decide_eq_true_iff]
    constructor
    · rintro (h1 | ⟨z, hz, h1, hk⟩)
      · exact .inl h1
      · have hx := h1.range ok
        have := ok z hx.1 hx.2 _ hk
        exact .inr ⟨z, by omega, h1, hk⟩
    · rintro (h1 | ⟨z, hz, h1, hk⟩)
      · exact .inl h1
      · exact .inr ⟨z, by omega, h1, hk⟩
  rw [h3]
  exact mkB_reach ok hr (by omega)
theorem below_out {ns : List Nd} {root : Int} (h : root < 0 ∨ (ns.length : Int) ≤ root) : belowOf ns root = [] := by
  unfold belowOf belowL
  rw [List.map_eq_nil_iff, List.filter_eq_nil_iff]
  intro i _
  simp only [decide_eq_true_eq]
  intro hr
  have : ∀ x, ¬ Reach ns (· ∈ [root]) x := by
    intro x hx
    induction hx with
    | root x hx h0 h1 => simp at hx; omega
    | kid x c _ _ ih => exact ih
  exact this _ hr
theorem Tryd.kboolInfo : (Tryd.prog.info? 4).map (fun i => (i.zero, i.size, i.bytes)) = some (some (.bool false), 1, 1) := by kernel_rfl
theorem bool_parts : ∃ i : TypeInfo, Tryd.prog.info? 4 = some i ∧ i.zero = some (.bool false) ∧ i.size = 1 ∧ i.bytes = 1 := by
  obtain ⟨i, h, e⟩ := Option.map_eq_some_iff.1 Tryd.kboolInfo
  simp only [Prod.mk.injEq] at e
  exact ⟨i, h, e.1, e.2.1, e.2.2⟩
set_option maxRecDepth 100000 in
/-- make([]bool, n). -/
theorem make_bools (w : World) (n : Nat) (z : Int) (hz : (n : Int) = z) (hn : (n : Int) ≤ 16000000) : ∃ w', (Instr.makeSlice 113 (.int .i64 z) (.int .i64 z)).run Tryd.prog w = .ok (.slice (some ⟨w.heap.size, 0, none⟩) n n) w' ∧
    Blk w' w.heap.size 4 (boolV n fun _ => false) ∧ Only [] w w' := by
  subst hz
  obtain ⟨i0, hi, hz0, hz1, hz2⟩ := bool_parts
  obtain ⟨w', hr, ho, hg⟩ := run_make_full (P := Tryd.prog) w 0 113 4 i0 _ 1 Tryd.underlying113 hi hz0 hz1 .i64 .i64 n (by rw [hz2]; omega) (by simp only [maxLen]; omega) (Nat.zero_le _)
  refine ⟨w', hr, ?_, Only.of_grown hg (by simp)⟩
  rcases ho.2 with ⟨h0, _⟩ | ⟨g, cap, cur, e, _, hb, _, _, hs, ht⟩
  · cases h0
  · injection e with e1 e2 e3
    injection e1 with e1
    injection e1 with e1 _ _
    subst e1 e3
    unfold Blk
    rw [hb]
    congr 2
    apply Array.ext'
    rw [← List.take_of_length_le (l := cur.toList) (i := n * 1) (by simp [hs]), ht]
    have e : (Value.bool false).cells = #[.bool false] := rfl
    simp only [madeCells, e, boolV]
    simp [Nat.mod_one]
set_option maxRecDepth 100000 in
/-- make([]int, 0, n). -/
theorem make_intsC (w : World) (n : Nat) (hn : (n : Int) ≤ 16000000) : ∃ w', (Instr.makeSlice 22 (.int .i64 0) (.int .i64 (n : Int))).run Tryd.prog w = .ok (.slice (some ⟨w.heap.size, 0, none⟩) 0 n) w' ∧
    IntsAt w' (.slice (some ⟨w.heap.size, 0, none⟩) 0 n) [] ∧ Only [] w w' := by
  obtain ⟨i0, hi, hz0, hz1, hz2⟩ := int_parts
  obtain ⟨w', hr, ho, hg⟩ := run_make_own (P := Tryd.prog) w 0 22 3 i0 _ 1 Tryd.underlying22 hi hz0 hz1 .i64 .i64 n (by rw [hz2]; omega) (by simp only [maxLen]; omega) (Nat.zero_le _)
  exact ⟨w', hr, ho, Only.of_grown hg (by simp)⟩

/-- The mark of an operand. -/
theorem mkB_kids {ns : List Nd} {root i : Nat} (h : Reach ns (· ∈ [(root : Int)]) (i : Int)) {K : List Nat} (hK : kids (nodeAt ns (i : Int)) = K.map fun (x : Nat) => (x : Int)) : mkB ns root i = fun j => mkB ns root (i + 1) j || decide (j ∈ K) := by
  funext j
  rw [mkB_next h, hK]
  congr 1
  have e : ((j : Int) ∈ K.map fun (x : Nat) => (x : Int)) = (j ∈ K) := by
    apply propext
    rw [List.mem_map]
    constructor
    · rintro ⟨x, hx, e⟩
      obtain rfl : x = j := by omega
      exact hx
    · exact fun h => ⟨j, h, rfl⟩
  simp only [e]

set_option maxHeartbeats 3200000 in
set_option maxRecDepth 100000 in
theorem rbelow_in (A : Option Addr) (c : Nat) (ns : List Nd) (r : Nat) (w : World) (hA : Hid (NRead w A ns)) (ok : Hid (OkDag ns)) (hl : (ns.length : Int) ≤ 20000) (hr : (r : Int) < (ns.length : Int)) :
    Calls Tryd.prog 40 #[.slice A ns.length c, .int .i64 (r : Int)] w fun e w' => ∃ u, e = .returned u ∧ IntsAt w' u (belowOf ns (r : Int)) ∧ (∀ g, u.ownBlock = some g → w.heap.size ≤ g) ∧ Only [] w w' := by
  obtain ⟨i0, hi, hz0, hz1, hz2⟩ := int_parts
  obtain ⟨w1, hmk, hb1, ho1⟩ := make_bools w (r + 1) ((r : Int) + 1) (by omega) (by omega)
  have c0 := hb1.cell r
  rw [boolV_get _ _ _ (by omega)] at c0
  have f0 := hb1.frozen r
  have HB1 : Hid (Blk (w1.setCell ⟨w.heap.size, r, none⟩ (.bool true)) w.heap.size 4 (boolV (r + 1) (mkB ns r (r + 1)))) := by
    have h := hb1.set_ r (.bool true)
    rw [boolV_set] at h
    have e : (fun j => if j = r then true else false) = mkB ns r (r + 1) := by
      funext j
      rw [mkB_start ok.out]
      by_cases e : j = r <;> simp [e]
    rw [e] at h
    exact h
  have HO1 : Hid (Only [] w (w1.setCell ⟨w.heap.size, r, none⟩ (.bool true))) := ho1.setCell (.inr (Nat.le_refl _)) _
  clear hb1 ho1
  have hr0 : ¬ (r : Int) < 0 := by omega
  go_enter Tryd.func40, Tryd.ntmps40
  go_wp2_with fail
  clear hmk c0 f0
  generalize hgg : w.heap.size = g at *
  have HG := Lib.hid hgg
  clear hgg
  generalize w1.setCell ⟨g, r, none⟩ (.bool true) = w2 at *
  go_loopw [6, 7] (fun n i wr => ∃ k : Nat, k ≤ r + 1 ∧ (∃ z : Int, i = .int .i64 z ∧ z + 1 = (k : Int)) ∧ (∃ m : Nat, n = .int .i64 (m : Int) ∧ m + k ≤ r + 1) ∧ Blk wr g 4 (boolV (r + 1) (mkB ns r k)) ∧ Only [] w wr) (fun _ i _ => (intOf i + 1).toNat)
  case atStart => exact ⟨r + 1, Nat.le_refl _, ⟨_, rfl, by omega⟩, ⟨0, rfl, by omega⟩, HB1.out, HO1.out⟩
  case round =>
    obtain ⟨k, hk, ⟨z, rfl, hz⟩, ⟨m, rfl, hm⟩, hB, ho⟩ := hrel
    have HB := Lib.hid hB
    have HO := Lib.hid ho
    clear hB ho HB1 HO1
    by_cases h0 : 0 ≤ z
    · obtain ⟨j, rfl⟩ : ∃ j : Nat, z = (j : Int) := ⟨z.toNat, by omega⟩
      obtain rfl : k = j + 1 := by omega
      have cj := HB.out.cell j
      rw [boolV_get _ _ _ (by omega)] at cj
      by_cases hR : Reach ns (· ∈ [(r : Int)]) (j : Int)
      · rw [(mkB_reach ok.out (by omega) (by omega)).2 hR] at cj
        obtain ⟨bb, o, rfl, hc⟩ := hA.out.only HO.out j (by omega)
        obtain ⟨n0, n1, n2, n3⟩ := hc
        have hkid := ok.out (j : Int) (by omega) (by omega)
        have hnode : nodeAt ns (j : Int) = ns[j]?.getD nd0 := by unfold nodeAt; rw [Int.toNat_natCast]; rfl
        have HN := Lib.hid hnode
        rw [hnode] at hkid
        generalize ns[j]?.getD nd0 = nd at n0 n1 n2 n3 hkid HN
        obtain ⟨nk, nf, na, nb⟩ := nd
        simp only at n0 n1 n2 n3
        have HRr := Lib.hid hR
        clear hR hnode n1
        by_cases hk0 : nk = 0
        · subst hk0
          have hBB : Hid (Blk wr g 4 (boolV (r + 1) (mkB ns r j))) := by
            rw [mkB_kids HRr.out (K := []) (by rw [HN.out]; rfl)]
            have e : (fun i => mkB ns r (j + 1) i || decide (i ∈ ([] : List Nat))) = mkB ns r (j + 1) := by funext i; simp
            rw [e]
            exact HB.out
          clear hkid
          go_wp2_with fail
          go_roundw
          case rel => exact ⟨j, by omega, ⟨_, rfl, by omega⟩, ⟨m + 1, by go_num, by omega⟩, hBB.out, HO.out⟩
          case measure => simp [intOf] <;> omega
        · have ha : 0 ≤ na ∧ na < (j : Int) := hkid na (by unfold kids; rw [if_neg hk0]; split <;> simp)
          obtain ⟨a, rfl⟩ : ∃ a : Nat, na = (a : Int) := ⟨na.toNat, by omega⟩
          have ca := HB.out.cell a
          rw [boolV_get _ _ _ (by omega)] at ca
          have fa := HB.out.frozen a
          have HB2 : Hid (Blk (wr.setCell ⟨g, a, none⟩ (.bool true)) g 4 (boolV (r + 1) (fun i => if i = a then true else mkB ns r (j + 1) i))) := by
            have h := HB.out.set_ a (.bool true)
            rw [boolV_set] at h
            exact h
          have HO2 : Hid (Only [] w (wr.setCell ⟨g, a, none⟩ (.bool true))) := HO.out.setCell (.inr (by have := HG.out; show _ ≤ g; omega)) _
          have hab : a < r + 1 := by omega
          generalize hv : mkB ns r (j + 1) a = va at ca
          clear hv
          by_cases hk5 : nk = 5
          · subst hk5
            have hBB : Hid (Blk (wr.setCell ⟨g, a, none⟩ (.bool true)) g 4 (boolV (r + 1) (mkB ns r j))) := by
              rw [mkB_kids HRr.out (K := [a]) (by rw [HN.out]; rfl)]
              have h := HB2.out
              have e : (fun i => if i = a then true else mkB ns r (j + 1) i) = fun i => mkB ns r (j + 1) i || decide (i ∈ [a]) := by
                funext i
                by_cases e : i = a <;> simp [e]
              rw [e] at h
              exact h
            clear hkid
            go_wp2_with fail
            go_roundw
            case rel => exact ⟨j, by omega, ⟨_, rfl, by omega⟩, ⟨m + 1, by go_num, by omega⟩, hBB.out, HO2.out⟩
            case measure => simp [intOf] <;> omega
          · have hb : 0 ≤ nb ∧ nb < (j : Int) := hkid nb (by unfold kids; rw [if_neg hk0, if_neg hk5]; simp)
            obtain ⟨b, rfl⟩ : ∃ b : Nat, nb = (b : Int) := ⟨nb.toNat, by omega⟩
            have cb := HB2.out.cell b
            rw [boolV_get _ _ _ (by omega)] at cb
            have fb := HB2.out.frozen b
            have hbb : b < r + 1 := by omega
            have HO3 : Hid (Only [] w ((wr.setCell ⟨g, a, none⟩ (.bool true)).setCell ⟨g, b, none⟩ (.bool true))) := HO2.out.setCell (.inr (by have := HG.out; show _ ≤ g; omega)) _
            have hBB : Hid (Blk ((wr.setCell ⟨g, a, none⟩ (.bool true)).setCell ⟨g, b, none⟩ (.bool true)) g 4 (boolV (r + 1) (mkB ns r j))) := by
              rw [mkB_kids HRr.out (K := [a, b]) (by rw [HN.out]; unfold kids; rw [if_neg hk0, if_neg hk5]; rfl)]
              have h := HB2.out.set_ b (.bool true)
              rw [boolV_set] at h
              have e : (fun i => if i = b then true else if i = a then true else mkB ns r (j + 1) i) = fun i => mkB ns r (j + 1) i || decide (i ∈ [a, b]) := by
                funext i
                by_cases e : i = a <;> by_cases e' : i = b <;> simp [e, e']
              rw [e] at h
              exact h
            generalize hv : (if b = a then true else mkB ns r (j + 1) b) = vb at cb
            clear hkid hv
            obtain ⟨d0, d2, d3⟩ : (wr.setCell ⟨g, a, none⟩ (.bool true)).cell? ⟨bb, o + j * 4, none⟩ = some (.int .i64 nk) ∧ True ∧ (wr.setCell ⟨g, a, none⟩ (.bool true)).cell? ⟨bb, o + j * 4 + 3, none⟩ = some (.int .i64 (b : Int)) := by
              obtain ⟨b', o', e, hc⟩ := hA.out.only HO2.out j (by omega)
              injection e with e
              injection e with e1 e2
              subst e1 e2
              have hnode := HN.out
              unfold nodeAt at hnode
              rw [Int.toNat_natCast] at hnode
              have hnode' : ns[j]?.getD nd0 = ⟨nk, nf, a, b⟩ := hnode
              rw [hnode'] at hc
              exact ⟨hc.1, trivial, hc.2.2.2⟩
            clear d2
            go_wp2_with fail
            go_roundw
            case rel => exact ⟨j, by omega, ⟨_, rfl, by omega⟩, ⟨m + 1, by go_num, by omega⟩, hBB.out, HO3.out⟩
            case measure => simp [intOf] <;> omega
      · have hf : mkB ns r (j + 1) j = false := by
          cases h : mkB ns r (j + 1) j
          · rfl
          · exact absurd ((mkB_reach ok.out (by omega) (by omega)).1 h) hR
        rw [hf] at cj
        have hBB : Hid (Blk wr g 4 (boolV (r + 1) (mkB ns r j))) := by
          have e : mkB ns r j = mkB ns r (j + 1) := funext (mkB_skip hR)
          rw [e]
          exact HB.out
        clear hR hf
        go_wp2_with fail
        go_roundw
        case rel => exact ⟨j, by omega, ⟨_, rfl, by omega⟩, ⟨m, by go_num, by omega⟩, hBB.out, HO.out⟩
        case measure => simp [intOf] <;> omega
    · obtain rfl : k = 0 := by omega
      clear hk
      obtain ⟨w3, hmk, hu, ho3⟩ := make_intsC wr m (by omega)
      have HB3 := Lib.hid (HB.out.only ho3 (by simp))
      have HO3 := Lib.hid (HO.out.nil_trans ho3)
      have HU := Lib.hid hu
      have HF3 : Hid (w.heap.size ≤ wr.heap.size) := HO.out.size
      clear hu ho3 HB
      generalize hff : mkB ns r 0 = f at *
      have HFf := Lib.hid hff
      clear hff
      go_wp2_with fail
      clear hmk
      generalize wr.heap.size = g3 at *
      go_loopw [8, 9] (fun out i wr => ∃ k : Nat, k ≤ r + 1 ∧ i = .int .i64 (k : Int) ∧ IntsAt wr out (marked f k) ∧ (∀ q, out.ownBlock = some q → w.heap.size ≤ q) ∧ Blk wr g 4 (boolV (r + 1) f) ∧ Only [] w wr) (fun _ i _ => r + 1 - (intOf i).toNat)
      case atStart => exact ⟨0, Nat.zero_le _, rfl, HU.out, fun q hq => by
        have e : g3 = q := by simpa [Value.ownBlock] using hq
        have := HF3.out
        omega, HB3.out, HO3.out⟩
      case round =>
        obtain ⟨k, hk, rfl, hu, hq, hB, ho⟩ := hrel
        have HBq := Lib.hid hB
        have HOq := Lib.hid ho
        have HUq := Lib.hid hu
        have HQ := Lib.hid hq
        obtain ⟨Au, cu, rfl, -⟩ := hu.shape
        clear hB ho hu hq HB3 HO3 HU
        by_cases hkr : (k : Int) ≤ (r : Int)
        · have ck := HBq.out.cell k
          rw [boolV_get _ _ _ (by omega)] at ck
          have hms := marked_snoc f k
          cases hfk : f k with
          | false =>
            rw [hfk] at ck hms
            have HM := Lib.hid hms
            clear hms
            go_wp2_with fail
            go_roundw
            case rel => exact ⟨k + 1, by omega, by go_num, by rw [HM.out]; simpa using HUq.out, HQ.out, HBq.out, HOq.out⟩
            case measure => simp [intOf] <;> omega
          | true =>
            rw [hfk] at ck hms
            have HM := Lib.hid hms
            have HL : Hid ((marked f k).length ≤ r + 1) := by
              have h := List.length_filter_le (fun j => f j) (List.range k)
              have e : (marked f k).length = ((List.range k).filter fun j => f j).length := by simp [marked]
              show _ ≤ _
              rw [e]
              rw [List.length_range] at h
              omega
            clear hms
            go_wp2_with (at_builtin; refine wpList_append_lies _ rfl _ _ _ rfl 0 3 i0 _ 1 8 Tryd.underlying22 hi hz0 hz1 hz2 rfl (by decide) (.slice Au (marked f k).length cu) (marked f k).length (ints (marked f k)) rfl (by have h := HUq.out.only ((Only.refl [] wr).alloc (.cells #[.int .i64 (k : Int)] 3)) (by simp); exact h) ⟨wr.heap.size, 0, none⟩ 1 1 [.int .i64 (k : Int)] rfl rfl (by exact cell_one_new _ _ _) (by simp [Value.oneCell']) (by decide) (by have := HL.out; simp only [maxLen]; omega) (by have := HL.out; omega) (Nat.zero_le _) (wr.heap.size + 1) (by simp) ?_; intro g' cap w4 hown hgr hat hlt)
            have ho4 : Only (Value.slice Au (marked f k).length cu).ownBlock.toList wr w4 := ((Only.refl _ wr).alloc (.cells #[.int .i64 (k : Int)] 3)).trans (Only.of_grown (S := (Value.slice Au (marked f k).length cu).ownBlock.toList) hgr (by simp)) (fun x hx => .inl hx)
            have hB4 : Blk w4 g 4 (boolV (r + 1) f) := HBq.out.only ho4 (fun hm => by
              obtain ⟨cs, fr, hc⟩ := HUq.out.typ (g := g) (by simpa using hm)
              exact heap_ne hc HBq.out (by intro e; injection e with _ e2; exact absurd e2 (by decide)) rfl)
            go_roundw
            case rel =>
              refine ⟨k + 1, by omega, by go_num, ?_, ?_, hB4, HOq.out.trans ho4 (fun x hx => .inr (HQ.out x (by simpa using hx)))⟩
              · rw [HM.out]
                unfold IntsAt
                simpa [ints] using hown
              · intro q hq
                have e : g' = q := by simpa [Value.ownBlock] using hq
                subst e
                rcases hat with h | h
                · exact HQ.out g' h
                · have := HOq.out.size
                  omega
            case measure => simp [intOf] <;> omega
        · obtain rfl : k = r + 1 := by omega
          go_wp2_with fail
          go_returns
          refine ⟨_, rfl, ?_, HQ.out, HOq.out⟩
          have h := HUq.out
          rw [← HFf.out, marked_below ok.out (by omega)] at h
          rw [← HFf.out, marked_below ok.out (by omega)]
          exact h

theorem rbelow_any (A : Option Addr) (c : Nat) (ns : List Nd) (root : Int) (w : World) (hA : Hid (NRead w A ns)) (ok : Hid (OkDag ns)) (hl : (ns.length : Int) ≤ 20000) :
    Calls Tryd.prog 40 #[.slice A ns.length c, .int .i64 root] w fun e w' => ∃ u, e = .returned u ∧ IntsAt w' u (belowOf ns root) ∧ (∀ g, u.ownBlock = some g → w.heap.size ≤ g) ∧ Only [] w w' := by
  by_cases h0 : root < 0
  · rw [below_out (.inl h0)]
    go_enter Tryd.func40, Tryd.ntmps40
    go_wp2_with fail
    go_returns
    exact ⟨_, rfl, World.ownsRow_nil _ _ _ _, fun g hg => by simp [Value.ownBlock] at hg, Only.refl _ _⟩
  · by_cases h1 : root < (ns.length : Int)
    · obtain ⟨r, rfl⟩ : ∃ r : Nat, root = (r : Int) := ⟨root.toNat, by omega⟩
      exact rbelow_in A c ns r w hA ok hl h1
    · rw [below_out (.inr (by omega))]
      have h2 : (ns.length : Int) ≤ root := by omega
      go_enter Tryd.func40, Tryd.ntmps40
      go_wp2_with fail
      go_returns
      exact ⟨_, rfl, World.ownsRow_nil _ _ _ _, fun g hg => by simp [Value.ownBlock] at hg, Only.refl _ _⟩
end Go.Proofs.YtigpnopeacicpaaDoor
