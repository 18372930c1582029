/-
  Package guess: All, Of, Sign, as functions of what combine tells.
-/
import Derived.Test.YtmjnifjohfljaaaTaMapV
import Derived.Test.YtmjnifjohfljaaaTaRoots
import Derived.Test.YtmjnifjohfljaaaTaLd10
import Derived.Test.YtmjnifjohfljaaaTaGsA
namespace Go.Proofs.Ytmjnifjohfljaaa
set_option linter.unusedSimpArgs false
open Go.RowKit
attribute [local go_sem] run_store_float

/-- A gap's value. -/
abbrev gpv (lo hi : Nat) : Value := .agg #[.float .f64 lo, .float .f64 hi]
/-- Gaps at hand: those of P. -/
def mapG (g : Int → Nat × Nat) (P : List Int) : Int → Option Value := fun y => if y ∈ P then some (gpv (g y).1 (g y).2) else none
def atG (g : Int → Nat × Nat) (P : List Int) (y : Int) : Nat × Nat := if y ∈ P then g y else (0, 0)
theorem mapG_get (g : Int → Nat × Nat) (P : List Int) (y : Int) : (mapG g P y).getD (gpv 0 0) = gpv (atG g P y).1 (atG g P y).2 := by
  unfold mapG atG
  split <;> rfl
theorem mapG_next (g : Int → Nat × Nat) (P P' : List Int) (x : Int) (hP : ∀ y, y ∈ P' ↔ y ∈ P ∨ y = x) : (fun y => if y = x then some (gpv (g x).1 (g x).2) else mapG g P y) = mapG g P' := by
  funext y
  unfold mapG
  by_cases e : y = x
  · subst e
    rw [if_pos rfl, if_pos ((hP y).2 (.inr rfl))]
  · rw [if_neg e]
    by_cases h : y ∈ P
    · rw [if_pos h, if_pos ((hP y).2 (.inl h))]
    · rw [if_neg h, if_neg (fun h2 => by rcases (hP y).1 h2 with h3 | h3; exact h h3; exact e h3)]
theorem zeroGap (w : World) : (zeroValue 30).run Try.prog w = .ok (gpv 0 0) w := by kernel_rfl
/-- What combine tells of each that a root is made of. -/
def CombOk (ns : List Nd) (L : List Int) (g : Int → Nat × Nat) : Prop := ∀ k, k < L.length → ∀ W : World,
  Calls Try.prog 18 #[(nodeAt ns (L[k]?.getD 0)).val, gpv (atG g (L.take k) (nodeAt ns (L[k]?.getD 0)).a).1 (atG g (L.take k) (nodeAt ns (L[k]?.getD 0)).a).2, gpv (atG g (L.take k) (nodeAt ns (L[k]?.getD 0)).b).1 (atG g (L.take k) (nodeAt ns (L[k]?.getD 0)).b).2] W
    fun e w' => e = .returned (gpv (g (L[k]?.getD 0)).1 (g (L[k]?.getD 0)).2) ∧ Only [] W w'

set_option maxHeartbeats 3200000 in
set_option maxRecDepth 100000 in
theorem gall_any (d : Nat) (v : Value) (ns : List Nd) (root : Int) (w : World) (hd : DagIs w d v none ns) (ok : OkDag ns) (hns : ns.length ≤ 20000) (g : Int → Nat × Nat) (hsm : Hid (∀ x : Nat, x < ns.length → Small (nodeAt ns (x : Int)).a ∧ Small (nodeAt ns (x : Int)).b))
    (HC : Hid (CombOk ns (belowOf ns root) g)) :
    Calls Try.prog 10 #[.pointer (some ⟨d, 0, none⟩), .int .i64 root] w fun e w' => ∃ m, e = .returned (.map (some m)) ∧ MapV w' m (belowOf ns root).length (mapG g (belowOf ns root)) ∧ Only [] w w' := by
  have hmm := @run_makeMap Try.prog
  have HD := Lib.hid hd
  have HNs := Lib.hid hns
  have HOk := Lib.hid ok
  clear hd hns ok
  go_enter Try.func10, Try.ntmps10
  go_wp2_with fail
  have HA : Hid (IRead ((w.alloc (.map #[] 0)).alloc (.cells #[.int .i64 root] 3)) (some ⟨w.heap.size + 1, 0, none⟩) [root]) := fun k hk => ⟨w.heap.size + 1, 0, rfl, by
    have e : k = 0 := by simpa using hk
    subst e
    have := (Blk.new (w.alloc (.map #[] 0)) 3 [.int .i64 root]).cell 0
    rw [World.size_alloc] at this
    exact this⟩
  have HM : Hid (MapV (w.alloc (.map #[] 0)) w.heap.size 0 (fun _ => none)) := MapV.made w
  refine (below_any d v none ns [root] (some ⟨w.heap.size + 1, 0, none⟩) 1 _ (HD.out.only (((Only.refl [] w).alloc _).alloc _) (by simp)) HOk.out HNs.out HA (by simp)).mono ?_
  rintro e w1 ⟨u, rfl, hL, hfr, ho1⟩
  obtain ⟨L, hLe⟩ : ∃ L, L = belowOf ns root := ⟨_, rfl⟩
  have HIds : Hid (Ids ns L) := hLe ▸ belowL_ids HOk.out (· ∈ [root])
  have HAsc : Hid (L.Pairwise (· < ·)) := by
    show List.Pairwise _ _
    rw [hLe]
    exact belowL_asc ns (· ∈ [root])
  replace hL : IntsAt w1 u L := hLe ▸ hL
  rw [← hLe] at HC
  have HLe := Lib.hid hLe
  clear hLe
  obtain ⟨Au, cu, rfl, hread⟩ := hL.shape
  have HM1 : Hid (MapV w1 w.heap.size 0 (fun _ => none)) := (HM.out.only ((Only.refl [] _).alloc _) (by simp)).only ho1 (by simp)
  have HO1 : Hid (Only [] w w1) := (((Only.refl [] w).alloc _).alloc _).nil_trans ho1
  have HR := Lib.hid hread
  have HFr : Hid (∀ b o, Au = some ⟨b, o, none⟩ → b ≠ w.heap.size) := by
    rintro b o rfl
    have := hfr b rfl
    rw [World.size_alloc, World.size_alloc] at this
    omega
  have hlen : (L.length : Int) ≤ 20000 := by have := HIds.out.len; have := HNs.out; omega
  clear hL ho1 hread HA HM hfr hmm
  generalize hm : w.heap.size = m at HM1 HFr ⊢
  have HSz : Hid (w.heap.size ≤ m) := by show _ ≤ _; omega
  clear hm
  go_wp2_with fail
  go_loopw [18] (fun i wr => ∃ k : Nat, k ≤ L.length ∧ i = .int .i64 (k : Int) ∧ Only [m] w1 wr ∧ MapV wr m k (mapG g (L.take k))) (fun i _ => L.length - (intOf i).toNat)
  case atStart => exact ⟨0, Nat.zero_le _, rfl, Only.refl _ _, by
    have e : mapG g (L.take 0) = fun _ => none := by funext y; simp [mapG]
    rw [e]; exact HM1.out⟩
  case round =>
    obtain ⟨k, hk, rfl, ho, hD⟩ := hrel
    have HO := Lib.hid ho
    have HMp := Lib.hid hD
    clear ho hD HM1
    by_cases hlt : k < L.length
    · obtain ⟨a, ha, han⟩ := HIds.out.mem k hlt
      obtain ⟨b, o, rfl, hcell0⟩ := HR.out k hlt
      have hbm : b ≠ m := HFr.out b o rfl
      have hcell := HO.out.cell hcell0 (by simpa using hbm)
      rw [ha] at hcell
      have HHa := Lib.hid ha
      have hlt' : (k : Int) < (L.length : Int) := by omega
      have HW : Hid (Only [m] w wr) := (HO1.out.mono (by simp)).trans HO.out (by simp)
      have HDm : Hid (∀ q ∈ foot d v none, q ∉ [m]) := fun q hq => by
        have h1 := HD.out.lt q hq
        have h2 := HSz.out
        simp
        omega
      have hsa : Small (a : Int) := by have := HNs.out; unfold Small; omega
      have HSa := Lib.hid hsa
      have hkn : k ≤ 20000 := by omega
      have HTake : Hid (L.take (k + 1) = L.take k ++ [(a : Int)]) := by
        show _ = _
        rw [List.take_succ_eq_append_getElem hlt, ← ha, List.getElem?_eq_getElem hlt]
        rfl
      have HNot : Hid ((a : Int) ∉ L.take k) := by
        intro hm
        rw [List.mem_take_iff_getElem] at hm
        obtain ⟨j, hj, e⟩ := hm
        have h1 := (List.pairwise_iff_getElem.1 HAsc.out) j k (by omega) hlt (by omega)
        rw [List.getElem?_eq_getElem hlt, Option.getD_some] at ha
        omega
      have HCk := Lib.hid (HC.out k hlt)
      rw [ha] at HCk
      have HSm := Lib.hid (hsm.out a han)
      clear ha hsa
      go_wp2_with fail
      refine (dnode_in d v none ns a wr (HD.out.only HW.out HDm.out) han).mono ?_
      rintro e w2 ⟨rfl, ho2⟩
      have HN : Hid (nodeAt ns (a : Int) = ns[a]?.getD nd0) := rfl
      rw [HN.out] at HCk HSm
      generalize ns[a]?.getD nd0 = nd at HCk HSm HN ⊢
      obtain ⟨nk, nf, na, nb⟩ := nd
      simp only [Nd.val] at HCk ⊢
      simp only at HSm
      have HMp2 := Lib.hid (HMp.out.only ho2 (by simp))
      have HOw2 := Lib.hid (HO.out.nil_trans ho2)
      have hlm : m < w2.heap.size := HMp2.out.lt
      clear ho2 HMp HO hcell0 hcell HN HW HDm
      go_upto_region 8 with fail
      have hbx : Blk (w2.alloc (.cells #[.int .i64 nk, .float .f64 nf, .int .i64 na, .int .i64 nb] 26)) w2.heap.size 26 [.int .i64 nk, .float .f64 nf, .int .i64 na, .int .i64 nb] := Blk.new w2 _ _
      have hoa : Only [] w2 (w2.alloc (.cells #[.int .i64 nk, .float .f64 nf, .int .i64 na, .int .i64 nb] 26)) := (Only.refl _ _).alloc _
      generalize w2.alloc (.cells #[.int .i64 nk, .float .f64 nf, .int .i64 na, .int .i64 nb] 26) = w3 at *
      generalize w2.heap.size = bx at *
      have HMp3 := Lib.hid (HMp2.out.only hoa (by simp))
      have HOw3 := Lib.hid (HOw2.out.nil_trans hoa)
      have b0 := hbx.cell 0
      have b1 := hbx.cell 1
      have b2 := hbx.cell 2
      have b3 := hbx.cell 3
      simp only [List.getElem?_cons_zero, List.getElem?_cons_succ] at b0 b1 b2 b3
      have hlA := HMp3.out.look Try.underlying35 (zeroGap w3) HSm.out.1
      have hlB := HMp3.out.look Try.underlying35 (zeroGap w3) HSm.out.2
      rw [mapG_get] at hlA hlB
      generalize atG g (L.take k) na = pa at hlA HCk
      generalize atG g (L.take k) nb = pb at hlB HCk
      clear hbx hoa HMp2 HOw2
      go_wp2_with (go_at_call 18; (with_reducible refine (HCk.out w3).mono ?_); rintro e w4 ⟨rfl, ho4⟩; have HMp4 := Lib.hid (HMp3.out.only ho4 (by simp)); have HOw4 := Lib.hid (HOw3.out.nil_trans ho4); obtain ⟨w5, hup, hM5, hO5⟩ := HMp4.out.store Try.underlying35 (by omega) HSa.out (gpv (g (a : Int)).1 (g (a : Int)).2); have HM5 := Lib.hid hM5; have HO5 := Lib.hid hO5; clear ho4 hM5 hO5)
      have HM6 : Hid (MapV w5 m (k + 1) (mapG g (L.take (k + 1)))) := by
        have h := HM5.out
        rw [mapG_next g (L.take k) (L.take (k + 1)) (a : Int) (by rw [HTake.out]; simp)] at h
        have e : (mapG g (L.take k) (a : Int)).isSome = false := by unfold mapG; rw [if_neg HNot.out]; rfl
        rw [e] at h
        exact h
      go_roundw
      case rel => exact ⟨k + 1, by omega, by go_num, HOw4.out.trans HO5.out (fun y hy => .inl hy), HM6.out⟩
      case measure => simp [intOf] <;> omega
    · have hnl : ¬ (k : Int) < (L.length : Int) := by omega
      obtain rfl : k = L.length := by omega
      go_wp2_with fail
      go_returns
      have h := HMp.out
      rw [List.take_length] at h
      rw [HLe.out] at h
      exact ⟨m, rfl, h, (HO1.out.mono (by simp)).trans HO.out (fun y hy => .inr (by
        have e : y = m := by simpa using hy
        have := HSz.out
        omega))⟩
end Go.Proofs.Ytmjnifjohfljaaa
