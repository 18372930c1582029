/-
  Joined texts.
-/
import Derived.Test.YtigpnopeacicpaaGreatDoorTrJ31
import Derived.Test.YtigpnopeacicpaaGreatDoorTrJ19
import Derived.Test.YtigpnopeacicpaaGreatDoorTrJ25
import Derived.Test.YtigpnopeacicpaaGreatDoorTrJ30
import Derived.Test.YtigpnopeacicpaaGreatDoorTrJ29
import Derived.Test.YtigpnopeacicpaaGreatDoorTrJ28
import Derived.Test.YtigpnopeacicpaaGreatDoorTrJ27
/-
  near.eval: the balls of what a number is made of, as far as combine tells them.
-/
namespace Go.Proofs.YtigpnopeacicpaaGreatDoor
set_option linter.unusedSimpArgs false
open Go.RowKit
attribute [local go_sem] run_store_float

structure NAt (w0 w : World) (m u nb nl : Nat) (c : Int) (s : NSt) : Prop where
  only : Only [] w0 w
  balls : BallsAt w m nb s.1
  left : LeftAt w u nl s.2
  ok : LeftOk c s.2
section
variable {w0 w w' : World} {m u nb nl : Nat} {c : Int} {s : NSt}
theorem NAt.step (h : NAt w0 w m u nb nl c s) (ho : Only [] w w') : NAt w0 w' m u nb nl c s := ⟨h.only.nil_trans ho, h.balls.only ho, h.left.only ho (by simp), h.ok⟩
theorem NAt.mono {nl' : Nat} {c' : Int} (h : NAt w0 w m u nb nl c s) (h1 : nl ≤ nl') (h2 : c ≤ c') : NAt w0 w m u nb nl' c' s := by
  obtain ⟨n', h3, h4⟩ := h.left
  exact ⟨h.only, h.balls, ⟨n', by omega, h4⟩, fun y z hy => by have := h.ok y z hy; omega⟩
theorem NAt.put {x : Int} {b : Dy × Dy} (h : NAt w0 w m u nb nl c s) (hB : BallsAt w' m (nb + 1) (putB s.1 x b)) (ho : Only [m] w w') (hmu : m ≠ u) (hm : w0.heap.size ≤ m) : NAt w0 w' m u (nb + 1) nl c (putB s.1 x b, s.2) :=
  ⟨h.only.trans ho (fun k hk => .inr (by simp at hk; omega)), hB, h.left.only ho (by simp; exact fun e => hmu e.symm), h.ok⟩
theorem ndrop_at (k : Int) (h : Hid (NAt w0 w m u nb nl c s)) (hk : Hid (Small k)) (hmu : Hid (m ≠ u)) (hm : w0.heap.size ≤ m) (hu : w0.heap.size ≤ u) (hc0 : 0 ≤ c) (hc1 : c ≤ 100000) (hnl : nl < 999999) :
    Calls Tryz.prog 119 #[.map (some m), .map (some u), .int .i64 k] w fun e w' => e = .returned (.tuple #[]) ∧ NAt w0 w' m u nb (nl + 1) (c + 1) (dropN k s) ∧ Only [m, u] w w' :=
  (drop_any k c (Lib.hid h.out.balls) (Lib.hid h.out.left) hmu hk (Lib.hid h.out.ok) hc0 hc1 hnl).mono fun e w' ⟨he, h1, h2, ho⟩ =>
    ⟨he, ⟨h.out.only.trans ho (fun k hk => .inr (by simp at hk; omega)), h1, h2, h.out.ok.drop hc0 k⟩, ho⟩
end
theorem useF_ok (ns : List Nd) (L : List Int) (h : L.length ≤ 20000) : LeftOk 0 (useF ns L) := by
  intro y z hy
  unfold useF at hy
  split at hy
  · injection hy with hy
    have := cnt_le ns L y
    omega
  · cases hy
def CombN (ns : List Nd) (L : List Int) (g : Int → Dy × Dy) (p : Int) (k : Nat) (lo hi : Dy) (ok : Bool) : Prop := ∀ (W : World) (va vb : Value), Tab6 W →
  BV W va (getB (runN ns g (useF ns L) (L.take k)).1 (nodeAt ns (L[k]?.getD 0)).a).1 (getB (runN ns g (useF ns L) (L.take k)).1 (nodeAt ns (L[k]?.getD 0)).a).2 →
  BV W vb (getB (runN ns g (useF ns L) (L.take k)).1 (nodeAt ns (L[k]?.getD 0)).b).1 (getB (runN ns g (useF ns L) (L.take k)).1 (nodeAt ns (L[k]?.getD 0)).b).2 →
  Calls Tryz.prog 117 #[(nodeAt ns (L[k]?.getD 0)).val, va, vb, .int .i64 p] W (QBPost lo hi ok W)
def NFits (x : Dy × Dy) : Prop := fitsP x.1 = true ∧ fitsP x.2 = true ∧ Bnd 8000000 x.1 ∧ Bnd 8000000 x.2

set_option maxHeartbeats 1600000 in
theorem fits_yes {w : World} {a : Value} {x : Dy} (ha : Hid (DV w a x)) (hx : Hid (Bnd 8000000 x)) (hf : Hid (fitsP x = true)) : Calls Tryz.prog 118 #[a] w fun e w' => e = .returned (.bool true) ∧ Only [] w w' := by
  obtain ⟨s, A, k, c, rfl, hv⟩ := ha.out
  have hk := (GB.start w).new 32 [.bool s, .slice A k c, .int .i64 x.e] (noLimb3 _ _ _ _ _)
  have HK := Lib.hid hk
  have HV := Lib.hid (hv.only hk.only)
  clear hk hv ha
  obtain ⟨c0, c1, c2⟩ := GB.c3 HK 0 rfl
  obtain ⟨q, hq⟩ : ∃ q, x.z.sign = q := ⟨_, rfl⟩
  go_enter Tryz.func118, Tryz.ntmps118
  go_wp2_with fail
  (with_reducible refine (signV_d q (DV.of HV) hq).mono ?_)
  rintro e w2 ⟨rfl, ho⟩
  replace HK := Lib.hid (HK.out.step ho)
  replace HV := Lib.hid (HV.out.only ho)
  clear ho c0 c1 c2
  obtain ⟨c0, c1, c2⟩ := GB.c3 HK 0 rfl
  by_cases h0 : q = 0
  · subst h0
    go_wp2_with fail
    go_returns
    exact ⟨rfl, HK.out.only⟩
  · have hne : (q == 0) = false := by simpa using h0
    obtain ⟨t, ht⟩ : ∃ t, topD x = t := ⟨_, rfl⟩
    have hr : -4194304 ≤ t ∧ t ≤ 4194304 := by
      have h := hf.out
      unfold fitsP at h
      rw [ht] at h
      have hz : decide (x.z = 0) = false := by
        rw [decide_eq_false_iff_not]
        intro hc
        rw [hc] at hq
        exact h0 hq.symm
      rw [hz] at h
      simpa using h
    have g1 := hr.1
    have g2 := hr.2
    have HTp := Lib.hid ht
    clear hr hq h0 ht
    go_wp2_with fail
    (with_reducible refine (top_d (DV.of HV) hx (by omega)).mono ?_)
    rw [HTp.out]
    rintro e w3 ⟨rfl, ho⟩
    replace HK := Lib.hid (HK.out.step ho)
    clear ho c0 c1 c2
    go_wp2_with fail
    all_goals (first | (go_returns; exact ⟨rfl, HK.out.only⟩) | (exfalso; omega))

set_option maxHeartbeats 16000000 in
set_option maxRecDepth 100000 in
theorem neval_any (d : Nat) (v : Value) (r : Option Nat) (ns : List Nd) (root : Nat) (p : Int) (w : World) (L : List Int) (g : Int → Dy × Dy) (K : Nat) (hd : DagIs w d v r ns) (ok : OkDag ns) (hns : ns.length ≤ 20000) (hroot : root < ns.length) (hp1 : decide (p < 1) = false) (hp2 : decide (65536 < p) = false)
    (hL : belowOf ns (root : Int) = L) (hK : K ≤ L.length) (hsm : Hid (∀ x : Nat, x < ns.length → Small (nodeAt ns (x : Int)).a ∧ Small (nodeAt ns (x : Int)).b)) (hkd : Hid (∀ x : Nat, x < ns.length → 0 ≤ (nodeAt ns (x : Int)).k ∧ (nodeAt ns (x : Int)).k ≤ 5))
    (HC : Hid (∀ k, k < K → CombN ns L g p k (g (L[k]?.getD 0)).1 (g (L[k]?.getD 0)).2 true ∧ NFits (g (L[k]?.getD 0)))) (HX : Hid (K < L.length → CombN ns L g p K ⟨0, 0⟩ ⟨0, 0⟩ false)) (hT : Hid (Tab6 w)) :
    Calls Tryz.prog 74 #[.pointer (some ⟨d, 0, none⟩), .int .i64 (root : Int), .int .i64 p, .bool false] w fun e w' => ∃ m, e = .returned (.tuple #[if K = L.length then .map (some m) else .map none, .bool (decide (K = L.length))]) ∧ (K = L.length → BallsAt w' m L.length (runN ns g (useF ns L) L).1) ∧ Only [] w w' := by
  have hmm := @run_makeMap Tryz.prog
  have HD := Lib.hid hd
  have HNs := Lib.hid hns
  have HOk := Lib.hid ok
  have HKl := Lib.hid hK
  have HLr := Lib.hid hL
  have HRo := Lib.hid hroot
  clear hd hns ok hK hL hroot
  go_enter Tryz.func74, Tryz.ntmps74
  go_wp2_with fail
  refine (dnode_in d v r ns root w HD.out HRo.out).mono ?_
  rintro e w1 ⟨rfl, ho1⟩
  obtain ⟨nk, nf, na, nb⟩ := ns[root]?.getD nd0
  simp only [Nd.val]
  go_upto_region 2 with fail
  have HO2 : Hid (Only [] w (w1.alloc (.cells #[.int .i64 nk, .float .f64 nf, .int .i64 na, .int .i64 nb] 95))) := ho1.alloc _
  clear ho1
  generalize w1.alloc (.cells #[.int .i64 nk, .float .f64 nf, .int .i64 na, .int .i64 nb] 95) = w2 at *
  generalize w1.heap.size = b1 at *
  go_upto_region 4 with fail
  go_wp2_with fail
  refine (uses_any d v r ns (root : Int) w2 (HD.out.only HO2.out (by simp)) HOk.out HNs.out).mono ?_
  rintro e w3 ⟨u, rfl, hus, hU, ho3⟩
  rw [HLr.out] at hU
  have hmu : u < w3.heap.size := hU.lt
  have HO3 := Lib.hid (HO2.out.nil_trans ho3)
  have HUs : Hid (w.heap.size ≤ u) := by have := HO2.out.size; show _ ≤ _; omega
  have HU3 := Lib.hid hU
  clear hU ho3 hus
  go_wp2_with fail
  have HA : Hid (IRead ((w3.alloc (.map #[] 0)).alloc (.cells #[.int .i64 (root : Int)] 3)) (some ⟨w3.heap.size + 1, 0, none⟩) [(root : Int)]) := fun k hk => ⟨w3.heap.size + 1, 0, rfl, by
    have e : k = 0 := by simpa using hk
    subst e
    have := (Blk.new (w3.alloc (.map #[] 0)) 3 [.int .i64 (root : Int)]).cell 0
    rw [World.size_alloc] at this
    exact this⟩
  have HO5 : Hid (Only [] w ((w3.alloc (.map #[] 0)).alloc (.cells #[.int .i64 (root : Int)] 3))) := (HO3.out.alloc _).alloc _
  refine (below_any d v r ns [(root : Int)] (some ⟨w3.heap.size + 1, 0, none⟩) 1 _ (HD.out.only HO5.out (by simp)) HOk.out HNs.out HA (by simp)).mono ?_
  rintro e w6 ⟨q, rfl, hLq, hfr, ho6⟩
  have HIds : Hid (Ids ns L) := HLr.out ▸ belowL_ids HOk.out (· ∈ [(root : Int)])
  have HAsc : Hid (L.Pairwise (· < ·)) := by
    show List.Pairwise _ _
    rw [← HLr.out]
    exact belowL_asc ns (· ∈ [(root : Int)])
  replace hLq : IntsAt w6 q L := HLr.out ▸ hLq
  obtain ⟨Au, cu, rfl, hread⟩ := hLq.shape
  have hlen : (L.length : Int) ≤ 20000 := by have := HIds.out.len; have := HNs.out; omega
  have HS0 : Hid (NAt w w6 w3.heap.size u 0 (L.length + 2 * 0) (2 * (0 : Nat) : Int) (runN ns g (useF ns L) (L.take 0))) := ⟨HO5.out.nil_trans ho6,
    ((BallsAt.made w3).only ((Only.refl [] _).alloc _)).only ho6,
    ⟨L.length, by omega, ((HU3.out.only ((Only.refl [] w3).alloc _) (by simp)).only ((Only.refl [] _).alloc _) (by simp)).only ho6 (by simp)⟩,
    by simpa [runN] using useF_ok ns L (by omega)⟩
  have HR := Lib.hid hread
  have HFr : Hid (∀ b o, Au = some ⟨b, o, none⟩ → b ≠ w3.heap.size ∧ b ≠ u) := by
    rintro b o rfl
    have := hfr b rfl
    rw [World.size_alloc, World.size_alloc] at this
    omega
  have HMu : Hid (w3.heap.size ≠ u) := by show _ ≠ _; omega
  have HSz : Hid (w.heap.size ≤ w3.heap.size) := HO3.out.size
  clear hLq hread ho6 HO5 HA hfr hmm HU3 HO3 HO2 hmu
  generalize w3.heap.size = m at HS0 HFr HMu HSz ⊢
  go_wp2_with fail
  go_loopw [45] (fun i wr => ∃ k : Nat, k ≤ L.length ∧ k ≤ K ∧ i = .int .i64 (k : Int) ∧ Only [m, u] w6 wr ∧ NAt w wr m u k (L.length + 2 * k) (2 * (k : Int)) (runN ns g (useF ns L) (L.take k))) (fun i _ => L.length - (intOf i).toNat)
  case atStart => exact ⟨0, Nat.zero_le _, Nat.zero_le _, rfl, Only.refl _ _, HS0.out⟩
  case round =>
    obtain ⟨k, hk, hkK, rfl, ho, hS⟩ := hrel
    have HO := Lib.hid ho
    have HS := Lib.hid hS
    clear ho hS HS0
    by_cases hlt : k < L.length
    · obtain ⟨a, ha, han⟩ := HIds.out.mem k hlt
      obtain ⟨b, o, rfl, hcell0⟩ := HR.out k hlt
      have hbm := HFr.out b o rfl
      have hcell := HO.out.cell hcell0 (by simp; omega)
      rw [ha] at hcell
      have hlt' : (k : Int) < (L.length : Int) := by omega
      have hsa : Small (a : Int) := by have := HNs.out; unfold Small; omega
      have HSa := Lib.hid hsa
      have hkn : k ≤ 20000 := by omega
      have HTake : Hid (L.take (k + 1) = L.take k ++ [(a : Int)]) := by
        show _ = _
        rw [List.take_succ_eq_append_getElem hlt, ← ha, List.getElem?_eq_getElem hlt]
        rfl
      have HCk : Hid ((k < K → CombN ns L g p k (g (a : Int)).1 (g (a : Int)).2 true ∧ NFits (g (a : Int))) ∧ (k = K → CombN ns L g p k ⟨0, 0⟩ ⟨0, 0⟩ false)) := by
        refine ⟨fun h => ?_, fun h => ?_⟩
        · have := HC.out k h
          rw [ha] at this
          exact this
        · subst h
          exact HX.out hlt
      have HSm := Lib.hid (hsm.out a han)
      have HKd := Lib.hid (hkd.out a han)
      clear hsa hcell0 hbm
      go_wp2_with fail
      refine (dnode_in d v r ns a wr (HD.out.only HS.out.only (by simp)) han).mono ?_
      rintro e w7 ⟨rfl, ho7⟩
      have HN : Hid (nodeAt ns (a : Int) = ns[a]?.getD nd0) := rfl
      have HRun : Hid (runN ns g (useF ns L) (L.take (k + 1)) = stepN ns g (runN ns g (useF ns L) (L.take k)) (a : Int)) := runN_snoc ns g _ HTake.out
      unfold CombN at HCk
      unfold stepN at HRun
      rw [ha, HN.out] at HCk
      rw [HN.out] at HSm HKd HRun
      generalize ns[a]?.getD nd0 = nd at HCk HSm HKd HRun ⊢
      obtain ⟨nk, nf, na, nb⟩ := nd
      simp only [Nd.val] at HCk ⊢
      simp only at HSm HKd HRun
      replace HS := Lib.hid (HS.out.step ho7)
      have HO7 := Lib.hid (HO.out.nil_trans ho7)
      clear ho7 HO hcell HN ha HC HX
      go_upto_region 10 with fail
      have hbx := Blk.new w7 95 [.int .i64 nk, .float .f64 nf, .int .i64 na, .int .i64 nb]
      have hoa : Only [] w7 (w7.alloc (.cells #[.int .i64 nk, .float .f64 nf, .int .i64 na, .int .i64 nb] 95)) := (Only.refl _ _).alloc _
      have hmlt := HS.out.balls.lt
      have hult := HS.out.left.lt
      have hbase := HS.out.only.size
      generalize w7.alloc (.cells #[.int .i64 nk, .float .f64 nf, .int .i64 na, .int .i64 nb] 95) = w8 at *
      generalize w7.heap.size = bx at *
      replace HS := Lib.hid (HS.out.step hoa)
      have HO8 := Lib.hid (HO7.out.nil_trans hoa)
      have HBx := Lib.hid hbx
      have HNe : Hid (bx ≠ m ∧ bx ≠ u ∧ w.heap.size ≤ bx) := by show _ ∧ _; omega
      have b0 := hbx.cell 0
      have b1_ := hbx.cell 1
      have b2 := hbx.cell 2
      have b3 := hbx.cell 3
      simp only [List.getElem?_cons_zero, List.getElem?_cons_succ] at b0 b1_ b2 b3
      obtain ⟨va, hlA, hva⟩ := HS.out.balls.look HSm.out.1
      obtain ⟨vb, hlB, hvb⟩ := HS.out.balls.look HSm.out.2
      have HVa := Lib.hid hva
      have HVb := Lib.hid hvb
      have HT8 := Lib.hid (hT.out.keep HS.out.only)
      clear hbx hoa HO7 hva hvb hmlt hult hbase
      obtain ⟨s, hs_⟩ : ∃ s, runN ns g (useF ns L) (L.take k) = s := ⟨_, rfl⟩
      rw [hs_] at HS HCk HVa HVb HRun
      by_cases hkK2 : k < K
      · obtain ⟨hcm, hfit⟩ := HCk.out.1 hkK2
        have HCm := Lib.hid (hcm w8 va vb HT8.out HVa.out.bv HVb.out.bv)
        have HFt := Lib.hid hfit
        obtain ⟨gg, hgg⟩ : ∃ gg, g (a : Int) = gg := ⟨_, rfl⟩
        rw [hgg] at HCm HFt HRun
        obtain ⟨lo, hi⟩ := gg
        obtain ⟨hf1, hf2, hb1, hb2⟩ := HFt.out
        have HF1 := Lib.hid hf1
        have HF2 := Lib.hid hf2
        have HB1 := Lib.hid hb1
        have HB2 := Lib.hid hb2
        simp only at HCm HF1 HF2 HB1 HB2
        clear hcm hfit HCk HVa HVb HFt hf1 hf2 hb1 hb2 hgg hs_ HT8
        go_upto_region 11 with (go_at_call 117; (with_reducible refine HCm.out.mono ?_); rintro e w9 ⟨s5, A5, k5, c5, s6, A6, k6, c6, rfl, hc5, hv5, hc6, hv6, ho9⟩)
        have hbl := Blk.new w9 34 [.bool s5, .slice A5 k5 c5, .int .i64 lo.e, .bool s6, .slice A6 k6 c6, .int .i64 hi.e]
        have hoa : Only [] w9 (w9.alloc (.cells #[.bool s5, .slice A5 k5 c5, .int .i64 lo.e, .bool s6, .slice A6 k6 c6, .int .i64 hi.e] 34)) := (Only.refl _ _).alloc _
        have hoc := ho9.nil_trans hoa
        have HC5 := Lib.hid hc5
        have HC6 := Lib.hid hc6
        have HV5 := Lib.hid (hv5.only hoa)
        have HV6 := Lib.hid (hv6.only hoa)
        generalize w9.alloc _ = w10 at *
        generalize w9.heap.size = bb at *
        replace HS := Lib.hid (HS.out.step hoc)
        have HO10 := Lib.hid (HO8.out.nil_trans hoc)
        replace HBx := Lib.hid (HBx.out.only hoc (by simp))
        have HBb := Lib.hid hbl
        clear hbl hoa hoc ho9 HO8 b0 b1_ b2 b3 hlA hlB hc5 hc6 hv5 hv6 HCm
        have q0 := HBb.out.cell 0
        have q1 := HBb.out.cell 1
        have q2 := HBb.out.cell 2
        have q3 := HBb.out.cell 3
        have q4 := HBb.out.cell 4
        have q5 := HBb.out.cell 5
        simp only [List.getElem?_cons_zero, List.getElem?_cons_succ] at q0 q1 q2 q3 q4 q5
        go_wp2_with fail
        (with_reducible refine (fits_yes (x := lo) (DV.of HV5) HB1 HF1).mono ?_)
        rintro e w11 ⟨rfl, ho11⟩
        replace HS := Lib.hid (HS.out.step ho11)
        have HO11 := Lib.hid (HO10.out.nil_trans ho11)
        replace HBx := Lib.hid (HBx.out.only ho11 (by simp))
        replace HBb := Lib.hid (HBb.out.only ho11 (by simp))
        replace HV5 := Lib.hid (HV5.out.only ho11)
        replace HV6 := Lib.hid (HV6.out.only ho11)
        clear ho11 HO10 q0 q1 q2 q3 q4 q5
        have q0 := HBb.out.cell 0
        have q1 := HBb.out.cell 1
        have q2 := HBb.out.cell 2
        have q3 := HBb.out.cell 3
        have q4 := HBb.out.cell 4
        have q5 := HBb.out.cell 5
        simp only [List.getElem?_cons_zero, List.getElem?_cons_succ] at q0 q1 q2 q3 q4 q5
        go_wp2_with fail
        (with_reducible refine (fits_yes (x := hi) (DV.of HV6) HB2 HF2).mono ?_)
        rintro e w12 ⟨rfl, ho12⟩
        replace HS := Lib.hid (HS.out.step ho12)
        have HO12 := Lib.hid (HO11.out.nil_trans ho12)
        replace HBx := Lib.hid (HBx.out.only ho12 (by simp))
        replace HBb := Lib.hid (HBb.out.only ho12 (by simp))
        replace HV5 := Lib.hid (HV5.out.only ho12)
        replace HV6 := Lib.hid (HV6.out.only ho12)
        clear ho12 HO11 q0 q1 q2 q3 q4 q5
        have q0 := HBb.out.cell 0
        have q1 := HBb.out.cell 1
        have q2 := HBb.out.cell 2
        have q3 := HBb.out.cell 3
        have q4 := HBb.out.cell 4
        have q5 := HBb.out.cell 5
        simp only [List.getElem?_cons_zero, List.getElem?_cons_succ] at q0 q1 q2 q3 q4 q5
        obtain ⟨w13, hup, hM13, ho13⟩ := HS.out.balls.store (b := (lo, hi)) (by omega) HSa.out (show NBV w12 (.agg #[.bool s5, .slice A5 k5 c5, .int .i64 lo.e, .bool s6, .slice A6 k6 c6, .int .i64 hi.e]) lo hi from ⟨s5, A5, k5, c5, s6, A6, k6, c6, rfl, HC5.out, HV5.out, HC6.out, HV6.out⟩)
        have HS13 := Lib.hid (HS.out.put hM13 ho13 HMu.out HSz.out)
        have HO13 : Hid (Only [m, u] w6 w13) := HO12.out.trans ho13 (fun y hy => .inl (by simp at hy; simp [hy]))
        have HBx13 := Lib.hid (HBx.out.only ho13 (by simp; exact HNe.out.1))
        clear hM13 ho13 HO12 HBx HV5 HV6
        have n0 := HBx13.out.cell 0
        have n2 := HBx13.out.cell 2
        have n3 := HBx13.out.cell 3
        simp only [List.getElem?_cons_zero, List.getElem?_cons_succ] at n0 n2 n3
        go_upto_region 15 with fail
        clear q0 q1 q2 q3 q4 q5 hup HS HBb
        have HNxt : Hid (∀ W, NAt w W m u (k + 1) (L.length + 2 * k + 2) (2 * (k : Int) + 2) (runN ns g (useF ns L) (L.take (k + 1))) → Only [m, u] w6 W → ∃ k' : Nat, k' ≤ L.length ∧ k' ≤ K ∧ (.int .i64 ((k : Int) + 1) : Value) = .int .i64 (k' : Int) ∧ Only [m, u] w6 W ∧ NAt w W m u k' (L.length + 2 * k') (2 * (k' : Int)) (runN ns g (useF ns L) (L.take k'))) := fun W hN hO =>
          ⟨k + 1, by omega, by omega, by congr 1, hO, hN.mono (by omega) (by omega)⟩
        have hk1 : IntKind.i64.wrap ((k : Int) + 1) = (k : Int) + 1 := wrap_i64 (by omega)
        rcases (by have := HKd.out; omega : nk = 0 ∨ nk = 5 ∨ nk = 1 ∨ nk = 2 ∨ nk = 3 ∨ nk = 4) with rfl | rfl | rfl | rfl | rfl | rfl
        · rw [if_pos rfl] at HRun
          go_wp2_with fail
          go_roundw
          case rel => exact HNxt.out _ (HRun.out ▸ HS13.out.mono (by omega) (by omega)) HO13.out
          case measure => simp [intOf] <;> omega
        · rw [if_neg (by decide), if_pos rfl] at HRun
          go_wp2_with fail
          (with_reducible refine (ndrop_at na HS13 (Lib.hid HSm.out.1) HMu HSz.out HUs.out (by omega) (by omega) (by omega)).mono ?_)
          rintro e w14 ⟨rfl, hN, ho14⟩
          have HS14 := Lib.hid hN
          have HO14 : Hid (Only [m, u] w6 w14) := HO13.out.trans ho14 (fun y hy => .inl hy)
          clear hN ho14 n0 n2 n3
          go_wp2_with fail
          go_roundw
          case rel => exact HNxt.out _ (HRun.out ▸ HS14.out.mono (by omega) (by omega)) HO14.out
          case measure => simp [intOf] <;> omega
        all_goals
          rw [if_neg (by decide), if_neg (by decide)] at HRun
          go_wp2_with fail
          (with_reducible refine (ndrop_at nb HS13 (Lib.hid HSm.out.2) HMu HSz.out HUs.out (by omega) (by omega) (by omega)).mono ?_)
          rintro e w14 ⟨rfl, hN, ho14⟩
          have HS14 := Lib.hid hN
          have HO14 : Hid (Only [m, u] w6 w14) := HO13.out.trans ho14 (fun y hy => .inl hy)
          have HBx14 := Lib.hid (HBx13.out.only ho14 (by have := HNe.out; simp; omega))
          clear hN ho14 n0 n2 n3
          have n2 := HBx14.out.cell 2
          simp only [List.getElem?_cons_zero, List.getElem?_cons_succ] at n2
          go_wp2_with fail
          (with_reducible refine (ndrop_at na HS14 (Lib.hid HSm.out.1) HMu HSz.out HUs.out (by omega) (by omega) (by omega)).mono ?_)
          rintro e w15 ⟨rfl, hN, ho15⟩
          have HS15 := Lib.hid hN
          have HO15 : Hid (Only [m, u] w6 w15) := HO14.out.trans ho15 (fun y hy => .inl hy)
          clear hN ho15 n2
          go_wp2_with fail
          go_roundw
          case rel => exact HNxt.out _ (HRun.out ▸ HS15.out.mono (by omega) (by omega)) HO15.out
          case measure => simp [intOf] <;> omega
      · have HCm := Lib.hid (HCk.out.2 (by omega) w8 va vb HT8.out HVa.out.bv HVb.out.bv)
        have HNk : Hid (¬ K = L.length) := by show ¬ _; omega
        clear HCk HVa HVb hs_ HRun HT8
        go_upto_region 11 with (go_at_call 117; (with_reducible refine HCm.out.mono ?_); rintro e w9 ⟨s5, A5, k5, c5, s6, A6, k6, c6, rfl, hc5, hv5, hc6, hv6, ho9⟩)
        have HE9 : Hid (Only [] w w9) := HS.out.only.nil_trans ho9
        clear hc5 hc6 hv5 hv6 ho9 HCm b0 b1_ b2 b3 hlA hlB
        go_wp2_with fail
        go_returns
        exact ⟨rfl, HE9.out.alloc _⟩
    · have hnl : ¬ (k : Int) < (L.length : Int) := by omega
      obtain rfl : k = L.length := by omega
      have HKe : Hid (K = L.length) := by have := HKl.out; show _ = _; omega
      go_wp2_with fail
      go_returns
      have h := HS.out
      rw [List.take_length] at h
      exact ⟨m, rfl, h.balls, h.only⟩
end Go.Proofs.YtigpnopeacicpaaGreatDoor

/-
  near.Of and near.Close, as functions of what eval tells.
-/
namespace Go.Proofs.YtigpnopeacicpaaGreatDoor
set_option linter.unusedSimpArgs false
open Go.RowKit
attribute [local go_sem] run_store_float

def EvYes (id : Int) (x y : Dy) (w : World) (e : Ending) (w' : World) : Prop := ∃ m n B, e = .returned (.tuple #[.map (some m), .bool true]) ∧ BallsAt w' m n B ∧ getB B id = (x, y) ∧ Only [] w w'
def OfYes (x y : Dy) (w : World) (e : Ending) (w' : World) : Prop := ∃ s A k c t B m d, e = .returned (.tuple #[.agg #[.bool s, .slice A k c, .int .i64 x.e, .bool t, .slice B m d, .int .i64 y.e], .bool true]) ∧ Cn s k x.z ∧ IV w' (.agg #[.bool s, .slice A k c]) x.z ∧ Cn t m y.z ∧ IV w' (.agg #[.bool t, .slice B m d]) y.z ∧ Only [] w w'
def OfNo (w : World) (e : Ending) (w' : World) : Prop := e = .returned (.tuple #[.agg #[.bool false, .slice none 0 0, .int .i64 0, .bool false, .slice none 0 0, .int .i64 0], .bool false]) ∧ Only [] w w'

set_option maxHeartbeats 1600000 in
theorem nof_yes (d : Nat) (id p : Int) (w : World) (x y : Dy) (hid : Hid (Small id)) (HE : Hid (∀ W : World, Only [] w W → Calls Tryz.prog 74 #[.pointer (some ⟨d, 0, none⟩), .int .i64 id, .int .i64 p, .bool false] W (EvYes id x y W))) :
    Calls Tryz.prog 38 #[.pointer (some ⟨d, 0, none⟩), .int .i64 id, .int .i64 p] w (OfYes x y w) := by
  have hk := (GB.start w).new 34 [.bool false, .slice none 0 0, .int .i64 0, .bool false, .slice none 0 0, .int .i64 0] (noLimb6 _ _ _ _ _ _ _ _ _ _)
  have HK := Lib.hid hk
  clear hk
  go_enter Tryz.func38, Tryz.ntmps38
  go_wp2_with fail
  refine (HE.out _ HK.out.only).mono ?_
  rintro e w1 ⟨m, n, B, rfl, hM, hg, ho⟩
  obtain ⟨v, hl, hv⟩ := hM.look hid.out
  rw [hg] at hv
  obtain ⟨s5, A5, k5, c5, s6, A6, k6, c6, rfl, hc5, hv5, hc6, hv6⟩ := hv
  simp only at hc5 hc6 hv5 hv6 hl
  have HC5 := Lib.hid hc5
  have HC6 := Lib.hid hc6
  have HV5 := Lib.hid hv5
  have HV6 := Lib.hid hv6
  replace HK := Lib.hid (HK.out.step ho)
  clear ho hM hg hv5 hv6 hc5 hc6 HE hid
  obtain ⟨q0, q1, q2, q3, q4, q5⟩ := GB.c6 HK 0 rfl
  obtain ⟨f0, f1, f2, f3, f4, f5⟩ := GB.f6 HK 0 rfl
  go_wp2_with fail
  refine bodyPost_ret (v := .tuple #[.agg #[.bool s5, .slice A5 k5 c5, .int .i64 x.e, .bool s6, .slice A6 k6 c6, .int .i64 y.e], .bool true]) (by simp [results, Tryz.results38, go_sem, q0, q1, q2, q3, q4, q5]) rfl ?_
  exact ⟨s5, A5, k5, c5, s6, A6, k6, c6, rfl, HC5.out, HV5.out.farS (only_set6 _ _ _ _ _ _ _ _) (fun g hg => by rw [List.mem_singleton] at hg; subst hg; exact HV5.out.far_blk (GB.blk HK 0 rfl) (noLimb6 _ _ _ _ _ _ _ _ _ _)), HC6.out, HV6.out.farS (only_set6 _ _ _ _ _ _ _ _) (fun g hg => by rw [List.mem_singleton] at hg; subst hg; exact HV6.out.far_blk (GB.blk HK 0 rfl) (noLimb6 _ _ _ _ _ _ _ _ _ _)), HK.out.only.trans (only_set6 _ _ _ _ _ _ _ _) (fun k hk => .inr (by simp at hk; omega))⟩
end Go.Proofs.YtigpnopeacicpaaGreatDoor

/-
  compasslaw10.Load: a dag of nodes that are right, each its own.
-/
namespace Go.Proofs.YtigpnopeacicpaaGreatDoor
open Go.RowKit
attribute [local go_sem] run_store_float

def idsN (n : Nat) : List Int := (List.range n).map fun (i : Nat) => (i : Int)
theorem idsN_succ (n : Nat) : idsN (n + 1) = idsN n ++ [(n : Int)] := by simp [idsN, List.range_succ]
theorem idsN_get (n i : Nat) (h : i < n) : (idsN n)[i]?.getD 0 = (i : Int) := by simp [idsN, h]
theorem reNd_ids {k : Nat} {n : Nd} (hn : takesB k n.k n.f n.a n.b = true) : reNd (idsN k) n = n := by
  obtain ⟨nk, nf, na, nb⟩ := n
  simp only at hn
  have hfine := fine_of _ _ _ _ _ hn
  unfold Fine at hfine
  have e : ∀ x : Int, 0 ≤ x → x < (k : Int) → (idsN k)[x.toNat]?.getD 0 = x := fun x h0 h1 => by
    rw [idsN_get _ _ (by omega)]
    omega
  rcases hfine with ⟨hv, h0, hf⟩ | ⟨hv, h5, ha⟩ | ⟨hv, h0, h5, ha, hb⟩
  · simp [reNd, h0]
  · simp only [validB, decide_eq_true_eq] at hv
    simp only [reNd, h5]
    rw [e na (by omega) (by omega)]
    simp
  · simp only [validB, decide_eq_true_eq] at hv
    simp only [reNd]
    rw [if_neg h0, if_neg (by omega), e na (by omega) (by omega), e nb (by omega) (by omega)]
theorem ld_none {L : List Nd} (hok : AllOk L) : ∀ k, k ≤ L.length → ld none (L.take k) = (L.take k, idsN k)
  | 0, _ => by simp [ld, idsN]
  | k + 1, h => by
    have ho : takesB k (L[k]?.getD nd0).k (L[k]?.getD nd0).f (L[k]?.getD nd0).a (L[k]?.getD nd0).b = true := hok k (by omega)
    rw [ld_take none L (by omega), ld_none hok k (by omega), ldStep, reNd_ids ho]
    have hl : (L.take k).length = k := by rw [List.length_take]; omega
    have e : L.take (k + 1) = L.take k ++ [L[k]?.getD nd0] := by
      rw [List.take_succ_eq_append_getElem (by omega), List.getElem?_eq_getElem (by omega)]
      rfl
    simp only [putNs, putId, hl, ho, if_true, ne_eq, not_true_eq_false, false_and, if_false]
    rw [e, idsN_succ]
theorem ok_dag {L : List Nd} (hok : AllOk L) : OkDag L := by
  intro x h0 h1 c hc
  have h := hok x.toNat (by omega)
  unfold okB at h
  have hfine := fine_of _ _ _ _ _ h
  have hn : nodeAt L x = L[x.toNat]?.getD nd0 := rfl
  rw [hn] at hc
  generalize L[x.toNat]?.getD nd0 = n at hfine hc
  unfold Fine at hfine
  unfold kids at hc
  rcases hfine with ⟨hv, h0', hf⟩ | ⟨hv, h5, ha⟩ | ⟨hv, h0', h5, ha, hb⟩
  · rw [if_pos h0'] at hc
    simp at hc
  · simp only [validB, decide_eq_true_eq] at hv
    rw [if_neg (by omega), if_pos h5] at hc
    have : c = n.a := by simpa using hc
    omega
  · simp only [validB, decide_eq_true_eq] at hv
    rw [if_neg h0', if_neg h5] at hc
    have : c = n.a ∨ c = n.b := by simpa using hc
    omega

def L10 (L : List Nd) (w : World) (e : Ending) (w' : World) : Prop := ∃ d v, e = .returned (.pointer (some ⟨d, 0, none⟩)) ∧ Own w w' d v none L

set_option maxHeartbeats 1600000 in
theorem load10_any (A : Option Addr) (c : Nat) (L : List Nd) (w : World) (hA : Hid (NRead w A L)) (hf : Hid (∀ k, k < L.length → (L[k]?.getD nd0).f < 2 ^ 64)) (hl : (L.length : Int) ≤ 1000) (hok : Hid (AllOk L)) :
    Calls Tryz.prog 70 #[.slice A L.length c] w (L10 L w) := by
  go_enter Tryz.func70, Tryz.ntmps70
  go_wp2_with fail
  refine (load_good false A c L w hA hf hl hok).mono ?_
  rintro e w1 ⟨d, r, v, u, rfl, hr, hrel⟩
  obtain rfl : r = none := hr.2 rfl
  have e1 : ld none L = (L, idsN L.length) := by
    have := ld_none hok.out L.length (Nat.le_refl _)
    rwa [List.take_length] at this
  rw [e1] at hrel
  have HOwn := Lib.hid hrel.own
  have hids := hrel.ids
  simp only at hids
  obtain ⟨Au, cu, rfl, hread⟩ := hids.shape
  have hlen : (idsN L.length).length = L.length := by simp [idsN]
  have HR := Lib.hid hread
  clear hrel hread hids hr
  rw [hlen]
  have HLen := Lib.hid hlen
  clear hlen e1
  go_wp2_with fail
  go_loopw [6] (fun i wr => ∃ k : Nat, k ≤ L.length ∧ i = .int .i64 (k : Int) ∧ Only [] w1 wr) (fun i _ => L.length - (intOf i).toNat)
  case atStart => exact ⟨0, Nat.zero_le _, rfl, Only.refl _ _⟩
  case round =>
    obtain ⟨k, hk, rfl, ho⟩ := hrel
    have Ho := Lib.hid ho
    clear ho
    by_cases hlt : k < L.length
    · obtain ⟨b, o, rfl, h1⟩ := HR.out k (by rw [HLen.out]; exact hlt)
      rw [idsN_get _ _ hlt] at h1
      have p0 := Ho.out.cell h1 (by simp)
      clear h1
      have hk' : (k : Int) < (L.length : Int) := by omega
      go_wp2_with fail
      go_roundw
      case rel => exact ⟨k + 1, by omega, by go_num, Ho.out⟩
      case measure => simp [intOf]; omega
    · have hnl : ¬ (k : Int) < (L.length : Int) := by omega
      go_wp2_with fail
      go_ret
      exact ⟨d, v, rfl, HOwn.out.other Ho.out (by simp) (by simp)⟩

end Go.Proofs.YtigpnopeacicpaaGreatDoor

/-
  float64(n) of a whole number, as a dyad; what a root is made of, of small dags.
-/
namespace Go.Proofs.YtigpnopeacicpaaGreatDoor
set_option linter.unusedSimpArgs false
open Go.RowKit

open Fl in
theorem rung_int {n : Nat} (h0 : n ≠ 0) (h : n < 9007199254740992) : ∃ r, r < INF ∧ Fl.NR r = n * 2 ^ 1074 := by
  have h1 := Nat.log2_self_le h0
  have h2 := Nat.lt_log2_self (n := n)
  have hb : Nat.log2 n ≤ 52 := by
    have : Nat.log2 n < 53 := (Nat.log2_lt h0).2 (by omega)
    omega
  obtain ⟨b, hbe⟩ : ∃ b, Nat.log2 n = b := ⟨_, rfl⟩
  rw [hbe] at h1 h2 hb
  have e1 : 2 ^ b * 2 ^ (52 - b) = 4503599627370496 := by rw [← Nat.pow_add, show b + (52 - b) = 52 by omega]
  have e2 : 2 ^ (b + 1) * 2 ^ (52 - b) = 9007199254740992 := by rw [← Nat.pow_add, show b + 1 + (52 - b) = 53 by omega]
  obtain ⟨k, hk⟩ : ∃ k, n * 2 ^ (52 - b) = k := ⟨_, rfl⟩
  have k1 : 4503599627370496 ≤ k := by rw [← e1, ← hk]; exact Nat.mul_le_mul_right _ h1
  have k2 : k < 9007199254740992 := by rw [← e2, ← hk]; exact Nat.mul_lt_mul_of_pos_right h2 (Nat.pow_pos (by omega))
  refine ⟨(1022 + b) * 4503599627370496 + k, ?_, ?_⟩
  · show _ < 9218868437227405312
    have : (1022 + b) * 4503599627370496 ≤ 1074 * 4503599627370496 := Nat.mul_le_mul_right _ (by omega)
    omega
  · rw [NR_base _ _ k1 (by omega), ← hk, Nat.mul_assoc, ← Nat.pow_add, show 52 - b + (1022 + b) = 1074 by omega]
open Fl in
theorem float_int (s : Bool) {n : Nat} (h0 : n ≠ 0) (h : n < 9007199254740992) : ∃ r, r < INF ∧ floatOfInt .f64 (sg s n) = wordB s r ∧ fD s r = nrm (sg s n) 0 := by
  obtain ⟨r, hr, hn⟩ := rung_int h0 h
  refine ⟨r, hr, ?_, Can.ext (fD_can _ _) (nrm_can _ _) ?_⟩
  · obtain ⟨f, rr, h1, h2, h3, h4⟩ := nearest_rung s 0 h0
    have hs : (decide (sg s n < 0)) = s := by
      cases s <;> simp [sg] <;> omega
    have ha : (sg s n).natAbs = n := by cases s <;> simp [sg]
    have e : floatOfInt .f64 (sg s n) = Ieee.double.nearest s n 0 := by
      show Ieee.double.nearest (decide (sg s n < 0)) (sg s n).natAbs 0 = _
      rw [hs, ha]
    rw [e, h1]
    rw [show ((-1074 : Int) - 0).toNat = 0 by decide, show ((0 : Int) + 1074).toNat = 1074 by decide, Nat.pow_zero, Nat.mul_one, ← hn] at h2
    rw [show ((-1074 : Int) - 0).toNat = 0 by decide, show ((0 : Int) + 1074).toNat = 1074 by decide, Nat.pow_zero, Nat.mul_one, ← hn] at h3
    rw [show ((-1074 : Int) - 0).toNat = 0 by decide, show ((0 : Int) + 1074).toNat = 1074 by decide, Nat.pow_zero, Nat.mul_one, ← hn] at h4
    have hf : f = r := by
      have g1 : f ≤ r := by
        rcases Nat.lt_or_ge r f with hc | hc
        · have := NR_lt_iff.2 hc; omega
        · exact hc
      have g2 : r < f + 1 := NR_lt_iff.1 h3
      omega
    subst hf
    have : rr = f := by
      rcases h4 with h4 | ⟨_, h4⟩
      · exact h4
      · omega
    subst this
    rw [Nat.min_eq_left (Nat.le_of_lt hr)]
  · rw [fD_q, nrm_q, hn]
    have e : (sg s (n * 2 ^ 1074) : Int) = sg s n * 2 ^ 1074 := (sg_pow s n 1074).symm
    rw [e]
    have h2 : ((2 ^ 1074 : Int) : Rat) = p2 1074 := (p2_nat 1074).symm
    rw [Rat.intCast_mul, h2, Rat.mul_assoc, ← p2_add]
    rfl

theorem below_is {ns : List Nd} (ok : OkDag ns) {root : Int} (S : Nat → Bool) (hroot : ∀ x : Nat, (x : Int) = root → S x = true) (hkid : ∀ x : Nat, x < ns.length → S x = true → ∀ c ∈ kids (nodeAt ns (x : Int)), ∀ y : Nat, (y : Int) = c → S y = true)
    (hreach : ∀ x : Nat, x < ns.length → S x = true → Reach ns (· ∈ [root]) (x : Int)) : belowOf ns root = ((List.range ns.length).filter S).map fun (i : Nat) => (i : Int) := by
  have hin : ∀ z : Int, Reach ns (· ∈ [root]) z → ∀ x : Nat, (x : Int) = z → S x = true := by
    intro z hz
    induction hz with
    | root z h h0 h1 =>
      intro x hx
      have e : z = root := by simpa using h
      exact hroot x (hx.trans e)
    | kid z c h hc ih =>
      intro x hx
      have hr := h.range ok
      have hz0 : (z.toNat : Int) = z := by omega
      exact hkid z.toNat (by omega) (ih z.toNat hz0) c (by rw [hz0]; exact hc) x hx
  unfold belowOf belowL
  congr 1
  apply List.filter_congr
  intro x hx
  rw [List.mem_range] at hx
  by_cases h : S x = true
  · rw [h]
    exact @decide_eq_true _ (Classical.propDecidable _) (hreach x hx h)
  · rw [Bool.not_eq_true] at h
    rw [h]
    exact @decide_eq_false _ (Classical.propDecidable _) (fun hc => by
      have := hin _ hc x rfl
      rw [h] at this
      cases this)
end Go.Proofs.YtigpnopeacicpaaGreatDoor

/-
  near.eval of what is not there; combine at the numbers of a dag; eval's two ends.
-/
namespace Go.Proofs.YtigpnopeacicpaaGreatDoor
set_option linter.unusedSimpArgs false
open Go.RowKit
attribute [local go_sem] run_store_float

theorem nev_yes (d : Nat) (v : Value) (r : Option Nat) (ns : List Nd) (root : Nat) (p : Int) (w : World) (L : List Int) (g : Int → Dy × Dy) (x y : Dy) (hd : DagIs w d v r ns) (ok : OkDag ns) (hns : ns.length ≤ 20000) (hroot : root < ns.length) (hp : 1 ≤ p ∧ p ≤ 65536)
    (hL : belowOf ns (root : Int) = L) (hsm : Hid (∀ x : Nat, x < ns.length → Small (nodeAt ns (x : Int)).a ∧ Small (nodeAt ns (x : Int)).b)) (hkd : Hid (∀ x : Nat, x < ns.length → 0 ≤ (nodeAt ns (x : Int)).k ∧ (nodeAt ns (x : Int)).k ≤ 5))
    (HC : ∀ k, k < L.length → CombN ns L g p k (g (L[k]?.getD 0)).1 (g (L[k]?.getD 0)).2 true ∧ NFits (g (L[k]?.getD 0))) (hg : getB (runN ns g (useF ns L) L).1 (root : Int) = (x, y)) (hT : Hid (Tab6 w)) :
    Calls Tryz.prog 74 #[.pointer (some ⟨d, 0, none⟩), .int .i64 (root : Int), .int .i64 p, .bool false] w (EvYes (root : Int) x y w) :=
  (neval_any d v r ns root p w L g L.length hd ok hns hroot (decide_eq_false (by omega)) (decide_eq_false (by omega)) hL (Nat.le_refl _) hsm hkd (Lib.hid HC) (Lib.hid fun h => absurd h (by omega)) hT).mono fun e w' ⟨m, he, hB, ho⟩ => ⟨m, L.length, _, by rw [he]; simp, hB rfl, hg, ho⟩
section
variable {ns : List Nd} {L : List Int} {g : Int → Dy × Dy} {p : Int} {k : Nat}
theorem combN_leaf (i : Int) (nf : Nat) (a b : Int) {z r : Dy} {N : Nat} (hi : L[k]?.getD 0 = i) (hn : nodeAt ns i = ⟨0, nf, a, b⟩) (hf : Hid (∀ W : World, Tab6 W → Calls Tryz.prog 144 #[.float .f64 nf] W (QDPost z true W))) (bz : Bnd N z) (hN : N ≤ 8000000) (hr : nrm z.z z.e = r) : CombN ns L g p k r r true := by
  intro W va vb hT ha hb
  rw [hi, hn] at *
  exact ncomb_leaf nf a b p r hr hf (Lib.hid bz) hN (Lib.hid ha) (Lib.hid hb) (Lib.hid hT)
theorem combN_mul (i : Int) (nf : Nat) (a b : Int) {x y u v lo hi : Dy} {N : Nat} (hi_ : L[k]?.getD 0 = i) (hn : nodeAt ns i = ⟨3, nf, a, b⟩) (ga : getB (runN ns g (useF ns L) (L.take k)).1 a = (x, y)) (gb : getB (runN ns g (useF ns L) (L.take k)).1 b = (u, v))
    (hlo : rndD (widthP p) false (mulLo x y u v) = lo) (hhi : rndD (widthP p) true (mulHi x y u v) = hi) (bx : Bnd N x) (by_ : Bnd N y) (bu : Bnd N u) (bv : Bnd N v) (hN : N ≤ 200000) : CombN ns L g p k lo hi true := by
  intro W va vb hT ha hb
  rw [hi_, hn] at *
  simp only at ha hb
  rw [ga] at ha
  rw [gb] at hb
  exact ncomb_mul nf a b p lo hi hlo hhi (Lib.hid ha) (Lib.hid hb) (Lib.hid bx) (Lib.hid by_) (Lib.hid bu) (Lib.hid bv) hN (Lib.hid hT)
theorem combN_root (i : Int) (nf : Nat) (a b : Int) {x y lo hi : Dy} {N : Nat} (hi_ : L[k]?.getD 0 = i) (hn : nodeAt ns i = ⟨5, nf, a, b⟩) (ga : getB (runN ns g (useF ns L) (L.take k)).1 a = (x, y)) (hy0 : 0 ≤ y.z) (hlo : sqrtQ (widthP p) false (if x.z < 0 then ⟨0, 0⟩ else x) = lo) (hhi : sqrtQ (widthP p) true y = hi) (bx : Bnd N x) (by_ : Bnd N y) (hN : N ≤ 100000) : CombN ns L g p k lo hi true := by
  intro W va vb hT ha hb
  rw [hi_, hn] at *
  simp only at ha hb
  rw [ga] at ha
  exact ncomb_root nf a b p hy0 hlo hhi (Lib.hid bx) (Lib.hid by_) hN (Lib.hid hT) (Lib.hid ha) (Lib.hid hb)
end
end Go.Proofs.YtigpnopeacicpaaGreatDoor

/-
  The dags of compasslaw13: their nodes, what each is made of, the balls; dag.Int.
-/
namespace Go.Proofs.YtigpnopeacicpaaGreatDoor
set_option linter.unusedSimpArgs false
open Go.RowKit
attribute [local go_sem] run_store_float

def LeafIs (f : Nat) (z : Int) : Prop := f < 2 ^ 64 ∧ finB f = true ∧ ∀ W : World, Tab6 W → Calls Tryz.prog 144 #[.float .f64 f] W (QDPost (nrm z 0) true W)
theorem leaf_int {z : Int} (h : z.natAbs < 9007199254740992) : LeafIs (floatOfInt .f64 z) z := by
  by_cases h0 : z = 0
  · subst h0
    refine ⟨by decide, by decide, fun W hT => ?_⟩
    exact Fl.fl_dyadV _ false (nrm 0 0) (r := 0) (by decide) (by decide) (by unfold Fl.fD; rw [show Fl.mantW 0 = 0 by decide]; rfl) W (Lib.hid hT)
  · obtain ⟨r, h1, h2, h3⟩ := float_int (decide (z < 0)) (n := z.natAbs) (by omega) h
    have hz : sg (decide (z < 0)) z.natAbs = z := by
      by_cases hn : z < 0
      · rw [decide_eq_true hn]; simp [sg]; omega
      · rw [decide_eq_false hn]; simp [sg]; omega
    rw [hz] at h2 h3
    rw [h2]
    have hr : r < 9223372036854775808 := Nat.lt_trans h1 (by decide)
    refine ⟨?_, Fl.finN _ h1, fun W hT => Fl.fl_dyadV _ _ (nrm z 0) h1 rfl h3 W (Lib.hid hT)⟩
    unfold Fl.wordB
    split <;> omega
set_option maxHeartbeats 1600000 in
theorem dintr_any (d : Nat) (v : Value) (r : Option Nat) (ns : List Nd) (x : Int) (f : Nat) (w : World) (hf : Hid (floatOfInt .f64 x = f)) (hf2 : Hid (f < 2 ^ 64)) (h1 : ¬ x < -9007199254740992) (h2 : ¬ 9007199254740992 < x) (hd : Hid (DagIs w d v r ns)) (hlen : Hid (ns.length < 20000)) :
    Calls Tryz.prog 37 #[.pointer (some ⟨d, 0, none⟩), .int .i64 x] w (PPost d v r ns ⟨0, f, 0, 0⟩ w) := by
  go_enter Tryz.func37, Tryz.ntmps37
  go_wp2_with fail
  rw [hf.out]
  (with_reducible refine (dleaf_any d v r ns f _ hf2 hd.out hlen).mono ?_)
  rintro e w1 ⟨v1, rfl, hd1, hst⟩
  have hst' := Lib.hid hst
  clear hst
  go_wp2_with fail
  go_ret
  exact ⟨v1, rfl, hd1, hst'.out⟩

def g5 (x : Int) : Dy × Dy := if x = 0 then (⟨3, 0⟩, ⟨3, 0⟩) else if x = 3 then (⟨-3, 0⟩, ⟨-3, 0⟩) else (⟨0, 0⟩, ⟨0, 0⟩)
section
variable (f h : Nat)
end
theorem fits_s {x : Dy} (h : x.z = 0 ∨ (-4194304 ≤ topD x ∧ topD x ≤ 4194304)) : fitsP x = true := by
  unfold fitsP
  rcases h with h | ⟨h1, h2⟩
  · simp [h]
  · simp [h1, h2]
section
variable {f h : Nat} {L : List Int} {p : Int} {k : Nat}
end
end Go.Proofs.YtigpnopeacicpaaGreatDoor
