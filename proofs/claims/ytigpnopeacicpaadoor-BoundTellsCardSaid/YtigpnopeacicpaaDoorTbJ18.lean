/-
  Joined texts.
-/
import Derived.Test.YtigpnopeacicpaaDoorTbJ17
import Derived.Test.YtigpnopeacicpaaDoorTbJ13
import Derived.Test.YtigpnopeacicpaaDoorTbJ0
import Derived.Test.YtigpnopeacicpaaDoorTbJ3
import Derived.StillTailTactics
import Derived.IntWalk
import Derived.Laws.MakeOwn
/-
  bound.All: the bounds of all that one is made of.
-/
namespace Go.Proofs.YtigpnopeacicpaaDoor
set_option linter.unusedSimpArgs false
open Go.RowKit
attribute [local go_sem] run_store_float

theorem RangV.only {w w' : World} {S : List Nat} {b r n cnt : Nat} {f : Int → Option Value} {left : Int → Bool} (h : RangV w b r n f left cnt) (ho : Only S w w') (hb : b ∉ S) (hr : r ∉ S) : RangV w' b r n f left cnt := by
  obtain ⟨D, lf, ⟨es, clock, since, seen, c0, h1, h2, h3, h4, h5, h6⟩, h7⟩ := h
  exact ⟨D, lf, ⟨es, clock, since, seen, c0, ho.heap h1 hb, h2, h3, h4, ho.heap h5 hr, h6⟩, h7⟩
theorem RangV.ne {w : World} {b r n cnt : Nat} {f : Int → Option Value} {left : Int → Bool} (h : RangV w b r n f left cnt) : r ≠ b ∧ r < w.heap.size := by
  obtain ⟨D, lf, h1, _⟩ := h
  exact ⟨h1.ne, h1.lt⟩
theorem nodup_sub : ∀ (xs ys : List Int), xs.Nodup → (∀ x ∈ xs, x ∈ ys) → xs.length ≤ ys.length
  | [], _, _, _ => by simp
  | x :: xs, ys, hn, h => by
    rw [List.nodup_cons] at hn
    have hx := h x (by simp)
    have h1 := nodup_sub xs (ys.erase x) hn.2 (fun z hz => by
      have hzx : z ≠ x := fun e => hn.1 (e ▸ hz)
      exact (List.mem_erase_of_ne hzx).2 (h z (by simp [hz])))
    rw [List.length_erase_of_mem hx] at h1
    have := List.length_pos_of_mem hx
    simp
    omega
/-- A number's bound. -/
noncomputable def bndOf (ns : List Nd) (y : Int) : Value := bndV (ent lfB ns y).u (ent lfB ns y).l (rootsL ns (belowOf ns y) : Nat)
/-- Bounds at hand: those of P. -/
noncomputable def mapB (ns : List Nd) (P : List Int) : Int → Option Value := fun y => if y ∈ P then some (bndOf ns y) else none
theorem mapB_next (ns : List Nd) (P : List Int) (x : Int) : (fun y => if y = x then some (bndOf ns x) else mapB ns P y) = mapB ns (x :: P) := by
  funext y
  unfold mapB
  by_cases e : y = x
  · subst e
    rw [if_pos rfl, if_pos (by simp)]
  · rw [if_neg e]
    by_cases h : y ∈ P
    · rw [if_pos h, if_pos (by simp [h])]
    · rw [if_neg h, if_neg (by simp [h, e])]
theorem mapB_same (ns : List Nd) {P L : List Int} (h : ∀ y, y ∈ P ↔ y ∈ L) : mapB ns P = mapB ns L := by
  funext y
  unfold mapB
  by_cases e : y ∈ L
  · rw [if_pos e, if_pos ((h y).2 e)]
  · rw [if_neg e, if_neg (fun h2 => e ((h y).1 h2))]
theorem zeroBnd (w : World) : (zeroValue 35).run Tryd.prog w = .ok (bndV 0 0 0) w := by kernel_rfl
theorem roots_L (d : Nat) (v : Value) (ns : List Nd) (R : Int → Prop) (L : List Int) (hL : Hid (belowL ns R = L)) (A : Option Addr) (c : Nat) (w : World) (hd : Hid (DagIs w d v none ns)) (ok : Hid (DagOk ns)) (hn : L.length ≤ 128) (hread : Hid (IRead w A L)) :
    Calls Tryd.prog 66 #[.pointer (some ⟨d, 0, none⟩), .slice A L.length c] w fun e w' => ∃ m, e = .returned (.map (some m)) ∧ MapX w' m L.length (cntF ns L) ∧ w.heap.size ≤ m ∧ Only [] w w' :=
  broots_any d v ns L A c w hd ok (Lib.hid (hL.out ▸ rootsOk_below ok.out.ok R)) hn hread
set_option maxHeartbeats 3200000 in
set_option maxRecDepth 100000 in
theorem ball_any (d : Nat) (v : Value) (ns : List Nd) (a : Int) (w : World) (hT : Hid (Tab6 w)) (hd : Hid (DagIs w d v none ns)) (ok : Hid (DagOk ns)) (hn : ns.length ≤ 128) :
    Calls Tryd.prog 37 #[.pointer (some ⟨d, 0, none⟩), .int .i64 a] w fun e w' => ∃ m, e = .returned (.map (some m)) ∧ MapV w' m (belowOf ns a).length (mapB ns (belowOf ns a)) ∧ w.heap.size ≤ m ∧ Only [] w w' := by
  have hmm := @run_makeMap Tryd.prog
  have HA : Hid (IRead (w.alloc (.cells #[.int .i64 a] 3)) (some ⟨w.heap.size, 0, none⟩) [a]) := fun k hk => ⟨w.heap.size, 0, rfl, by
    have e : k = 0 := by simpa using hk
    subst e
    exact (Blk.new w 3 [.int .i64 a]).cell 0⟩
  have HO0 : Hid (Only [] w (w.alloc (.cells #[.int .i64 a] 3))) := (Only.refl _ _).alloc _
  go_enter Tryd.func37, Tryd.ntmps37
  go_wp2_with fail
  refine (below_any d v none ns [a] (some ⟨w.heap.size, 0, none⟩) 1 _ (hd.out.only HO0.out (by simp)) ok.out.ok ok.out.len HA (by simp)).mono ?_
  rintro e w2 ⟨u, rfl, hL, -, ho2⟩
  obtain ⟨L, hLe⟩ : ∃ L, belowL ns (· ∈ [a]) = L := ⟨_, rfl⟩
  have HLe := Lib.hid hLe
  have HLb : Hid (belowOf ns a = L) := hLe
  rw [hLe] at hL
  have hll : L.length ≤ 128 := by
    have : (belowL ns (· ∈ [a])).length ≤ ns.length := (belowL_ids ok.out.ok (· ∈ [a])).len
    rw [hLe] at this
    omega
  clear hLe
  obtain ⟨Au, cu, rfl, hread⟩ := hL.shape
  have HO2 := Lib.hid (HO0.out.nil_trans ho2)
  have HR := Lib.hid hread
  have HMa : Hid (MapV (w2.alloc (.map #[] 0)) w2.heap.size 0 (fun _ => none)) := MapV.made w2
  have HO3 : Hid (Only [] w (w2.alloc (.map #[] 0))) := HO2.out.alloc _
  have HR3 : Hid (IRead (w2.alloc (.map #[] 0)) Au L) := HR.out.only ((Only.refl _ _).alloc _)
  have HGa : Hid (w.heap.size ≤ w2.heap.size) := HO2.out.size
  clear hL hread ho2 HA HO0 HO2 HR
  go_wp2_with fail
  generalize w2.alloc (.map #[] 0) = w3 at *
  generalize w2.heap.size = ma at *
  (with_reducible refine (roots_L d v ns (· ∈ [a]) L HLe Au cu w3 (Lib.hid (hd.out.only HO3.out (by simp))) ok hll HR3).mono ?_)
  rintro e w4 ⟨mc, rfl, hC, hgc, ho⟩
  have HC := Lib.hid hC
  have HO4 := Lib.hid (HO3.out.nil_trans ho)
  have HR4 := Lib.hid (HR3.out.only ho)
  have HMa4 := Lib.hid (HMa.out.only ho (by simp))
  have HNac : Hid (ma ≠ mc) := by have := HMa.out.lt; show ma ≠ mc; omega
  clear hC ho HMa HR3 HO3 hgc
  go_wp2_with fail
  (with_reducible refine (ents_L d v ns (· ∈ [a]) L HLe Au cu w4 (Lib.hid (hT.out.keep HO4.out)) (hd.out.only HO4.out (by simp)) ok HR4).mono ?_)
  rintro e w5 ⟨me, rfl, hE, hge, ho⟩
  have HE := Lib.hid hE
  have HO5 := Lib.hid (HO4.out.nil_trans ho)
  have HC5 := Lib.hid (HC.out.only ho (by simp))
  have HMa5 := Lib.hid (HMa4.out.only ho (by simp))
  have HNae : Hid (ma ≠ me ∧ mc ≠ me) := by have h1 := HMa4.out.lt; have h2 := HC.out.lt; show _ ∧ _; omega
  clear hE ho HMa4 HR4 HO4 HC hge
  go_wp2_with (first | (at_range; refine wpList_range_v _ 85 83 Tryd.underlying85 rfl _ rfl me L.length (mapE ns L) rfl HE.out ?_; intro w6 cnt hrg ho6))
  obtain ⟨r, hr⟩ : ∃ r, w5.heap.size = r := ⟨_, rfl⟩
  rw [hr] at hrg ⊢
  have HRn : Hid (w5.heap.size = r) := hr
  have HRg := Lib.hid hrg
  have HO56 := Lib.hid ho6
  have HC6 := Lib.hid (HC5.out.only ho6 (by simp))
  have HMa6 := Lib.hid (HMa5.out.only ho6 (by simp))
  have HO6 := Lib.hid (HO5.out.nil_trans ho6)
  have HO5s : Hid (w.heap.size ≤ w5.heap.size) := HO5.out.size
  have HNar : Hid (ma ≠ r ∧ mc ≠ r) := by have h1 := HMa5.out.lt; have h2 := HC5.out.lt; show _ ∧ _; omega
  have HAll : Hid (∀ y ∈ L, Small y) := by
    show ∀ y ∈ L, Small y
    rw [← HLe.out]
    intro y hy
    have h := ((mem_belowL ok.out.ok).1 hy).range ok.out.ok
    have := ok.out.len
    unfold Small
    omega
  have HNod : Hid L.Nodup := by
    show L.Nodup
    rw [← HLe.out]
    exact (belowL_asc ns (· ∈ [a])).imp (fun h => by omega)
  clear hr hrg ho6 HO5 HC5 HMa5 HE HO56
  go_frame
  go_loopw [] (fun wr => ∃ (P : List Int) (ct : Nat), RangV wr me r L.length (mapE ns L) (fun y => (mapE ns L y).isSome && !decide (y ∈ P)) ct ∧ P.Nodup ∧ (∀ y ∈ P, y ∈ L) ∧ MapV wr ma P.length (mapB ns P) ∧ MapX wr mc L.length (cntF ns L) ∧ Only [] w wr) (fun wr => wr.rangeLeft me r)
  case atStart => exact ⟨[], _, by
    have e : (fun y => (mapE ns L y).isSome && !decide (y ∈ ([] : List Int))) = fun y => (mapE ns L y).isSome := by funext y; simp
    rw [e]; exact HRg.out, List.nodup_nil, by simp, by
    have e : mapB ns [] = fun _ => none := by funext y; simp [mapB]
    rw [e]; exact HMa6.out, HC6.out, HO6.out⟩
  case round =>
    obtain ⟨P, ct, h1, h2, h3, h4, h5, h6⟩ := hrel
    have HR1 := Lib.hid h1
    have HPn := Lib.hid h2
    have HPs := Lib.hid h3
    have HMr := Lib.hid h4
    have HCr := Lib.hid h5
    have HOr := Lib.hid h6
    clear h1 h2 h3 h4 h5 h6 HRg HMa6 HC6 HO6
    have hPl : P.length ≤ 128 := by have := nodup_sub P L HPn.out HPs.out; omega
    go_wp2_with (first | (at_next; refine wpList_next_v _ rfl _ rfl me r L.length (mapE ns L) _ ct rfl HR1.out ?_ ?_) | go_in)
    · intro hc0 hdone
      have HDone := Lib.hid hdone
      clear hc0 hdone
      go_wp2_with fail
      go_returns
      have hsame : ∀ y, y ∈ P ↔ y ∈ L := fun y => ⟨HPs.out y, fun hy => by
        have hd := HDone.out y (HAll.out y hy)
        unfold mapE at hd
        rw [if_pos hy] at hd
        simpa using hd⟩
      have hlen : P.length = L.length := by
        have h1 := nodup_sub P L HPn.out HPs.out
        have h2 := nodup_sub L P HNod.out (fun x hx => (hsame x).2 hx)
        omega
      have hM := HMr.out
      rw [hlen, mapB_same ns hsame] at hM
      rw [HLb.out]
      exact ⟨ma, rfl, hM, HGa.out, HOr.out⟩
    · intro x vx w7 ct' hsx hfx hleft hxP hrg hlt ho hen
      have hxL : x ∈ L := by
        unfold mapE at hfx
        split at hfx
        · assumption
        · cases hfx
      have hvx : vx = entV (ent lfB ns x) := by
        unfold mapE at hfx
        rw [if_pos hxL] at hfx
        injection hfx with hfx
        exact hfx.symm
      subst hvx
      have HSx := Lib.hid hsx
      have HXP := Lib.hid hxP
      have HXL := Lib.hid hxL
      have HRg7 := Lib.hid hrg
      have HLt := Lib.hid hlt
      have HLe1 := Lib.hid HR1.out.left_eq
      have HM7 := Lib.hid (HMr.out.only ho (by have := HNar.out; simp; omega))
      have HC7 := Lib.hid (HCr.out.only ho (by have := HNar.out; simp; omega))
      have HrO : Hid (w.heap.size ≤ r) := by show _ ≤ _; have h1 := HRn.out; have h2 := HO5s.out; omega
      have HO7 : Hid (Only [] w w7) := (HOr.out.mono (by simp)).trans ho (fun y hy => .inr (by
        have e : y = r := by simpa using hy
        have := HrO.out
        omega))
      have HBd : Hid (bndOf ns x = bndV (ent lfB ns x).u (ent lfB ns x).l (rootsL ns (belowOf ns x) : Nat)) := rfl
      have hck : cntF ns L x = some (rootsL ns (belowOf ns x) : Int) := if_pos hxL
      generalize ent lfB ns x = ex at hen HBd
      obtain ⟨eu, el, eo⟩ := ex
      generalize rootsL ns (belowOf ns x) = K at hck HBd
      simp only at HBd
      clear hfx hleft hxP hrg hlt ho hsx hxL HMr HCr HOr HR1
      have HO8 : Hid (Only [] w7 (w7.alloc (.cells #[.int .i64 eu, .int .i64 el, .bool eo] 83))) := (Only.refl _ _).alloc _
      have HM8 := Lib.hid (HM7.out.only HO8.out (by simp))
      have HC8 := Lib.hid (HC7.out.only HO8.out (by simp))
      have HRg8 := Lib.hid (HRg7.out.only HO8.out (by simp) (by simp))
      have hlk := HC8.out.look HSx.out
      rw [hck] at hlk
      simp only [Option.getD_some] at hlk
      obtain ⟨w9, hup, hM9, hO9⟩ := HM8.out.store Tryd.underlying69 (by omega) HSx.out (bndV eu el K)
      have hnot : (mapB ns P x).isSome = false := by unfold mapB; rw [if_neg HXP.out]; rfl
      rw [hnot, ← HBd.out, mapB_next] at hM9
      have HM9 : Hid (MapV w9 ma (x :: P).length (mapB ns (x :: P))) := hM9
      have HC9 := Lib.hid (HC8.out.only hO9 (by have := HNac.out; simp; omega))
      have HRg9 := Lib.hid (HRg8.out.only hO9 (by have := HNae.out; simp; omega) (by have := HNar.out; simp; omega))
      have HO9 : Hid (Only [] w w9) := ((HO7.out.nil_trans HO8.out).mono (by simp)).trans hO9 (fun y hy => .inr (by
        have e : y = ma := by simpa using hy
        have := HGa.out
        omega))
      clear hM9 hO9 HM8 HC8 HRg8 HM7 HC7 HRg7 hck hnot
      go_wp2_with fail
      refine ⟨⟨x :: P, ct', ?_, List.nodup_cons.2 ⟨HXP.out, HPn.out⟩, ?_, HM9.out, HC9.out, HO9.out⟩, ?_⟩
      · have e : (fun y => (mapE ns L y).isSome && !decide (y ∈ x :: P)) = fun y => ((mapE ns L y).isSome && !decide (y ∈ P)) && !decide (y = x) := by
          funext y
          by_cases e1 : y = x <;> by_cases e2 : y ∈ P <;> simp [e1, e2]
        rw [e]
        exact HRg9.out
      · intro y hy
        rcases List.mem_cons.1 hy with e | h
        · exact e ▸ HXL.out
        · exact HPs.out y h
      · rw [HRg9.out.left_eq, HLe1.out]
        exact HLt.out
end Go.Proofs.YtigpnopeacicpaaDoor

/-
  The reference's Roots.
-/
namespace Go.Proofs.YtigpnopeacicpaaDoor
open Go.RowKit
attribute [local go_sem] run_store_float

set_option maxHeartbeats 1600000 in
set_option maxRecDepth 100000 in
theorem rroots_any (A : Option Addr) (c : Nat) (ns : List Nd) (root : Int) (w : World) (hA : Hid (NRead w A ns)) (ok : Hid (OkDag ns)) (hl : (ns.length : Int) ≤ 20000) :
    Calls Tryd.prog 68 #[.slice A ns.length c, .int .i64 root] w fun e w' => e = .returned (.int .i64 (rootsL ns (belowOf ns root) : Int)) ∧ Only [] w w' := by
  go_enter Tryd.func68, Tryd.ntmps68
  go_wp2_with fail
  refine (rbelow_any A c ns root w hA ok hl).mono ?_
  rintro e w1 ⟨u, rfl, hL, -, ho1⟩
  obtain ⟨L, hLe⟩ : ∃ L, L = belowOf ns root := ⟨_, rfl⟩
  have HLe := Lib.hid hLe
  have HIds : Hid (Ids ns L) := hLe ▸ belowL_ids ok.out (· ∈ [root])
  replace hL : IntsAt w1 u L := hLe ▸ hL
  clear hLe
  obtain ⟨Au, cu, rfl, hread⟩ := hL.shape
  have HO1 : Hid (Only [] w w1) := ho1
  have HR := Lib.hid hread
  have hlen : (L.length : Int) ≤ 20000 := by have := HIds.out.len; omega
  clear hL ho1 hread
  go_wp2_with fail
  go_loopw [5, 7] (fun c i wr => ∃ k : Nat, k ≤ L.length ∧ i = .int .i64 k ∧ c = .int .i64 (rootsL ns (L.take k) : Int) ∧ Only [] w1 wr) (fun _ i _ => L.length - (intOf i).toNat)
  case atStart => exact ⟨0, Nat.zero_le _, rfl, rfl, Only.refl _ _⟩
  case round =>
    obtain ⟨k, hk, rfl, rfl, ho⟩ := hrel
    have HO := Lib.hid ho
    clear ho
    by_cases hlt : k < L.length
    · obtain ⟨a, ha, han⟩ := HIds.out.mem k hlt
      obtain ⟨b, o, rfl, hcell⟩ := HR.out.only HO.out k hlt
      rw [ha] at hcell
      have HS := Lib.hid (rootsL_snoc ns L k hlt)
      have HHa := Lib.hid ha
      have hle : (rootsL ns (L.take k) : Int) ≤ 20000 := by have := rootsL_le ns (L.take k); have : (L.take k).length ≤ k := List.length_take_le _ _; omega
      obtain ⟨b', o', rfl, hc⟩ := hA.out.only (HO1.out.nil_trans HO.out) a han
      obtain ⟨n0, n1, n2, n3⟩ := hc
      have hnode : nodeAt ns (a : Int) = ns[a]?.getD nd0 := by unfold nodeAt; rw [Int.toNat_natCast]; rfl
      have HN := Lib.hid hnode
      generalize ns[a]?.getD nd0 = nd at n0 n1 n2 n3 HN
      obtain ⟨nk, nf, na, nb⟩ := nd
      simp only at n0
      clear ha n1 n2 n3 hnode
      have hk' : (k : Int) < (L.length : Int) := by omega
      by_cases h5 : nk = 5
      · have HE : Hid (rootsL ns (L.take (k + 1)) = rootsL ns (L.take k) + 1) := by
          show _ = _
          rw [HS.out, HHa.out, HN.out, if_pos h5]
        subst h5
        go_wp2_with fail
        go_roundw
        case rel => exact ⟨k + 1, by omega, by go_num, by rw [HE.out]; go_num, HO.out⟩
        case measure => simp [intOf] <;> omega
      · have HE : Hid (rootsL ns (L.take (k + 1)) = rootsL ns (L.take k)) := by
          show _ = _
          rw [HS.out, HHa.out, HN.out, if_neg h5]
          rfl
        have g5 : (nk == 5) = false := by simpa using h5
        clear h5
        go_wp2_with fail
        go_roundw
        case rel => exact ⟨k + 1, by omega, by go_num, by rw [HE.out], HO.out⟩
        case measure => simp [intOf] <;> omega
    · have hnl : ¬ (k : Int) < (L.length : Int) := by omega
      have e : k = L.length := by omega
      have HE : Hid (L.take k = L) := by
        show _ = _
        rw [e, List.take_length]
      clear e
      go_wp2_with fail
      go_returns
      exact ⟨by rw [← HLe.out, HE.out]; try rfl, HO1.out.nil_trans HO.out⟩
end Go.Proofs.YtigpnopeacicpaaDoor

/-
  Whole numbers as lists of digits of 32 bits, the lowest one first: the plain law (no program in sight; XVal.tpl turned by mkrval.py).
-/
namespace Go.Proofs.YtigpnopeacicpaaDoor
namespace R

/-- The base of the limbs. -/
def BB : Nat := 4294967296
theorem BB_val : BB = 4294967296 := rfl
theorem BB_pos : 0 < BB := by decide
theorem BB_two : 2 ≤ BB := by decide
theorem BB_pow : BB = 2 ^ 32 := by decide
attribute [irreducible] BB
theorem BB_pow_pos (n : Nat) : 0 < BB ^ n := Nat.pow_pos BB_pos

/-- What a list of limbs is worth. -/
def val : List Nat → Nat
  | [] => 0
  | x :: xs => x + BB * val xs
/-- Each is a limb. -/
def Limb (xs : List Nat) : Prop := ∀ x ∈ xs, x < BB

theorem val_append : ∀ xs ys : List Nat, val (xs ++ ys) = val xs + BB ^ xs.length * val ys
  | [], ys => by simp [val]
  | x :: xs, ys => by
    simp only [List.cons_append, val, val_append xs ys, List.length_cons, Nat.pow_succ, Nat.mul_add]
    rw [Nat.mul_comm (BB ^ xs.length) BB, Nat.mul_assoc, Nat.add_assoc]
theorem Limb.append {xs ys : List Nat} (h : Limb xs) (h' : Limb ys) : Limb (xs ++ ys) := fun x hx => by
  rcases List.mem_append.1 hx with h1 | h1
  · exact h x h1
  · exact h' x h1
theorem Limb.left {xs ys : List Nat} (h : Limb (xs ++ ys)) : Limb xs := fun x hx => h x (by simp [hx])
theorem Limb.right {xs ys : List Nat} (h : Limb (xs ++ ys)) : Limb ys := fun x hx => h x (by simp [hx])
theorem Limb.take {xs : List Nat} (h : Limb xs) (n : Nat) : Limb (xs.take n) := fun x hx => h x (List.mem_of_mem_take hx)
theorem Limb.drop {xs : List Nat} (h : Limb xs) (n : Nat) : Limb (xs.drop n) := fun x hx => h x (List.mem_of_mem_drop hx)
theorem Limb.tail {x : Nat} {xs : List Nat} (h : Limb (x :: xs)) : Limb xs := fun y hy => h y (by simp [hy])
theorem Limb.set {xs : List Nat} (h : Limb xs) (i v : Nat) (hv : v < BB) : Limb (xs.set i v) := fun x hx => by
  rcases List.mem_or_eq_of_mem_set hx with h1 | h1
  · exact h x h1
  · exact h1 ▸ hv
theorem Limb.get {xs : List Nat} (h : Limb xs) (i : Nat) : xs[i]?.getD 0 < BB := by
  cases hx : xs[i]? with
  | none => exact BB_pos
  | some x => exact h x (List.mem_of_getElem? hx)
theorem Limb.zeros (n : Nat) : Limb (List.replicate n 0) := fun x hx => by
  rw [List.eq_of_mem_replicate hx]
  exact BB_pos
theorem limb_nil : Limb [] := fun x hx => by simp at hx
theorem limb_one {x : Nat} (h : x < BB) : Limb [x] := fun y hy => by
  have : y = x := by simpa using hy
  exact this ▸ h
theorem val_zeros : ∀ n : Nat, val (List.replicate n 0) = 0
  | 0 => rfl
  | n + 1 => by rw [List.replicate_succ, val, val_zeros n]; omega
theorem val_lt : ∀ {xs : List Nat}, Limb xs → val xs < BB ^ xs.length
  | [], _ => by simp [val]
  | x :: xs, h => by
    have h1 := val_lt h.tail
    have h2 := h x (by simp)
    simp only [val, List.length_cons, Nat.pow_succ]
    have h3 : val xs + 1 ≤ BB ^ xs.length := h1
    have h4 : BB * (val xs + 1) ≤ BB * BB ^ xs.length := Nat.mul_le_mul_left _ h3
    rw [Nat.mul_add, Nat.mul_one, Nat.mul_comm BB (BB ^ xs.length)] at h4
    omega
theorem val_take_drop (xs : List Nat) (n : Nat) (hn : n ≤ xs.length) : val xs = val (xs.take n) + BB ^ n * val (xs.drop n) := by
  have h := val_append (xs.take n) (xs.drop n)
  rw [List.take_append_drop, List.length_take, Nat.min_eq_left hn] at h
  exact h
theorem val_snoc (xs : List Nat) (x : Nat) : val (xs ++ [x]) = val xs + BB ^ xs.length * x := by
  rw [val_append]
  simp [val]
theorem val_take_succ (xs : List Nat) (k : Nat) (hk : k < xs.length) : val (xs.take (k + 1)) = val (xs.take k) + BB ^ k * (xs[k]?.getD 0) := by
  rw [List.take_succ_eq_append_getElem hk, val_snoc, List.length_take, Nat.min_eq_left (by omega), List.getElem?_eq_getElem hk]
  rfl
theorem val_set (xs : List Nat) (i v : Nat) (hi : i < xs.length) : val (xs.set i v) + BB ^ i * (xs[i]?.getD 0) = val xs + BB ^ i * v := by
  have h1 := val_take_drop xs i (by omega)
  have h2 := val_take_drop (xs.set i v) i (by simp; omega)
  have e1 : (xs.set i v).take i = xs.take i := by rw [List.take_set_of_le (by omega)]
  have e2 : xs.drop i = xs[i] :: xs.drop (i + 1) := List.drop_eq_getElem_cons hi
  have e3 : (xs.set i v).drop i = v :: xs.drop (i + 1) := by
    rw [List.drop_eq_getElem_cons (by simpa using hi)]
    rw [List.getElem_set_self, List.drop_set_of_lt (by omega)]
  rw [e1, e3, val] at h2
  rw [e2, val] at h1
  rw [List.getElem?_eq_getElem hi, h1, h2]
  simp only [Option.getD_some, Nat.mul_add]
  omega

/-- The limbs of a number, none of 0 at the end. -/
def limbsOf (n : Nat) : List Nat := if _h : n = 0 then [] else n % BB :: limbsOf (n / BB)
termination_by n
decreasing_by exact Nat.div_lt_self (by omega) BB_two
theorem limbsOf_zero : limbsOf 0 = [] := by rw [limbsOf]; rfl
theorem limbsOf_pos {n : Nat} (h : n ≠ 0) : limbsOf n = n % BB :: limbsOf (n / BB) := by rw [limbsOf, dif_neg h]
theorem limbsOf_val_cons (x N : Nat) (hx : x < BB) (h : N ≠ 0 ∨ x ≠ 0) : limbsOf (x + BB * N) = x :: limbsOf N := by
  have hp := BB_pos
  have hne : x + BB * N ≠ 0 := by
    rcases h with h | h
    · have : 0 < BB * N := Nat.mul_pos hp (by omega)
      omega
    · omega
  rw [limbsOf_pos hne, Nat.add_mul_mod_self_left, Nat.mod_eq_of_lt hx, Nat.add_mul_div_left _ _ hp, Nat.div_eq_of_lt hx, Nat.zero_add]
theorem val_limbsOf : ∀ n : Nat, val (limbsOf n) = n := fun n => by
  induction n using Nat.strongRecOn with
  | ind n ih =>
    by_cases h : n = 0
    · rw [h, limbsOf_zero]; rfl
    · rw [limbsOf_pos h, val, ih _ (Nat.div_lt_self (by omega) BB_two), Nat.mod_add_div]
theorem limb_limbsOf : ∀ n : Nat, Limb (limbsOf n) := fun n => by
  induction n using Nat.strongRecOn with
  | ind n ih =>
    by_cases h : n = 0
    · rw [h, limbsOf_zero]; exact limb_nil
    · rw [limbsOf_pos h]
      intro x hx
      rcases List.mem_cons.1 hx with rfl | hx
      · exact Nat.mod_lt _ BB_pos
      · exact ih _ (Nat.div_lt_self (by omega) BB_two) x hx
/-- None of 0 at the end. -/
def Canon (xs : List Nat) : Prop := ∀ h : 0 < xs.length, xs[xs.length - 1] ≠ 0
theorem limbsOf_val : ∀ {xs : List Nat}, Limb xs → Canon xs → limbsOf (val xs) = xs
  | [], _, _ => limbsOf_zero
  | x :: xs, h, hc => by
    have hc' : Canon xs := fun h0 => by
      have := hc (by simp)
      simpa [List.getElem_cons, show xs.length ≠ 0 by omega] using this
    have ih := limbsOf_val h.tail hc'
    rw [val, limbsOf_val_cons x _ (h x (by simp)) ?_, ih]
    by_cases h0 : val xs = 0
    · right
      rw [h0, limbsOf_zero] at ih
      subst ih
      simpa using hc (by simp)
    · exact .inl h0
theorem canon_limbsOf : ∀ n : Nat, Canon (limbsOf n) := fun n => by
  induction n using Nat.strongRecOn with
  | ind n ih =>
    by_cases h : n = 0
    · rw [h, limbsOf_zero]; intro h0; simp at h0
    · rw [limbsOf_pos h]
      intro _
      have ih := ih _ (Nat.div_lt_self (by omega) BB_two)
      by_cases h1 : n / BB = 0
      · simp only [h1, limbsOf_zero, List.length_cons, List.length_nil]
        have := Nat.mod_add_div n BB
        rw [h1] at this
        simp
        omega
      · have hl : (limbsOf (n / BB)).length ≠ 0 := by rw [limbsOf_pos h1]; simp
        have := ih (by omega)
        simpa [List.getElem_cons, hl] using this
/-- Cut behind the last one that is not 0. -/
theorem limbsOf_take : ∀ {xs : List Nat}, Limb xs → xs.take (limbsOf (val xs)).length = limbsOf (val xs) ∧ (limbsOf (val xs)).length ≤ xs.length
  | [], _ => by simp [val, limbsOf_zero]
  | x :: xs, h => by
    obtain ⟨ih, ih2⟩ := limbsOf_take h.tail
    by_cases h0 : val xs ≠ 0 ∨ x ≠ 0
    · rw [val, limbsOf_val_cons x _ (h x (by simp)) h0]
      simp [ih, ih2]
    · have e : val xs = 0 ∧ x = 0 := by omega
      rw [val, e.1, e.2]
      simp [limbsOf_zero]
theorem limbsOf_len {xs : List Nat} (h : Limb xs) : (limbsOf (val xs)).length ≤ xs.length := (limbsOf_take h).2
theorem limbsOf_len_le {n k : Nat} (h : n < BB ^ k) : (limbsOf n).length ≤ k := by
  induction k generalizing n with
  | zero =>
    have : n = 0 := by simpa using h
    simp [this, limbsOf_zero]
  | succ k ih =>
    by_cases h0 : n = 0
    · simp [h0, limbsOf_zero]
    · rw [limbsOf_pos h0, List.length_cons]
      have := ih (n := n / BB) (by
        rw [Nat.div_lt_iff_lt_mul BB_pos]
        rwa [Nat.pow_succ] at h)
      omega
theorem lt_limbsOf (n : Nat) : n < BB ^ (limbsOf n).length := by
  have := val_lt (limb_limbsOf n)
  rwa [val_limbsOf] at this
theorem limbsOf_len0 {n : Nat} : (limbsOf n).length = 0 ↔ n = 0 := by
  constructor
  · intro h
    have := lt_limbsOf n
    rw [h] at this
    simpa using this
  · rintro rfl
    rw [limbsOf_zero]; rfl
/-- Where trim's loop stops: all behind n are 0, and the one ahead of it is not. -/
theorem trim_stop {xs : List Nat} (h : Limb xs) (n : Nat) (hn : n ≤ xs.length) (hz : ∀ j, n ≤ j → j < xs.length → xs[j]?.getD 0 = 0) (hc : 0 < n → xs[n - 1]?.getD 0 ≠ 0) : (limbsOf (val xs)).length = n ∧ xs.take n = limbsOf (val xs) := by
  have e : xs.drop n = List.replicate (xs.length - n) 0 := by
    apply List.ext_getElem
    · simp
    · intro i h1 h2
      have := hz (n + i) (by omega) (by simp at h1; omega)
      rw [List.getElem?_eq_getElem (by simp at h1; omega)] at this
      simpa using this
  have hv : val xs = val (xs.take n) := by
    rw [val_take_drop xs n hn, e, val_zeros]
    omega
  have hcan : Canon (xs.take n) := by
    intro h0
    have hl : (xs.take n).length = n := by rw [List.length_take]; omega
    have := hc (by omega)
    rw [List.getElem?_eq_getElem (by omega)] at this
    simp only [Option.getD_some] at this
    rw [List.getElem_take]
    simpa [hl] using this
  have := limbsOf_val (h.take n) hcan
  rw [hv, this]
  exact ⟨by rw [List.length_take]; omega, rfl⟩

/-- A limb as two digits. -/
def split : List Nat → List Nat
  | [] => []
  | x :: xs => x % BB :: x / BB :: split xs
theorem bb_sq : Go.Proofs.YtigpnopeacicpaaDoor.BB = BB * BB := by rw [Go.Proofs.YtigpnopeacicpaaDoor.BB_val, BB_val]
end R
end Go.Proofs.YtigpnopeacicpaaDoor
/-
  The reference's numbers: Trim, From, Limbs; SameLimbs and Is.
-/
namespace Go.Proofs.YtigpnopeacicpaaDoor
open Go.RowKit

/-- A reference's number: its digits, none of 0 at the end. -/
def RV (w : World) (v : Value) (n : Nat) : Prop := ∃ A c, v = .slice A (R.limbsOf n).length c ∧ LRead w A (R.limbsOf n) ∧ (R.limbsOf n).length ≤ c
theorem RV.only {w w' : World} {v : Value} {n : Nat} (h : RV w v n) (ho : Only [] w w') : RV w' v n := by
  obtain ⟨A, c, h1, h2, h3⟩ := h
  exact ⟨A, c, h1, h2.only ho, h3⟩
theorem RV.nil (w : World) : RV w (.slice none 0 0) 0 := ⟨none, 0, by rw [R.limbsOf_zero]; rfl, by rw [R.limbsOf_zero]; exact LRead.nil, by rw [R.limbsOf_zero]; simp⟩
/-- How many digits a number has that is not too great. -/
theorem Few.digits {n : Nat} (h : Few n) : ((R.limbsOf n).length : Int) ≤ 2000000 := by
  have h1 : n < R.BB ^ (2 * MX) := by
    rw [Nat.pow_mul, Nat.pow_two, ← R.bb_sq]
    exact h
  have h2 := R.limbsOf_len_le h1
  rw [MX_val] at h2
  omega
/-- What a reference's function leaves that tells a number. -/
def RPost (n : Nat) (w : World) (e : Ending) (w' : World) : Prop := ∃ A k c, e = .returned (.slice A k c) ∧ RV w' (.slice A k c) n ∧ (∀ a, A = some a → w.heap.size ≤ a.block) ∧ Only [] w w'

/-- One limb, or two, behind a row of the call's own. -/
theorem append_limbs {w : World} {ops : Array Oper} {rest : List Oper} {o : Oper} {a : Act} {Q : Exit → Act → World → Prop} (T : TypeId) (hT : Tryd.prog.underlying T = some (.slice 90)) (hgd : o.guard = none) (s x : Operand)
    (ho : o.op = .call { callee := .builtin .append, args := #[s, x], argTypes := #[T, T] }) (u : Value) (n : Nat) (xs zs : List Nat) (hs : a.eval s = u) (hu : LimbsAt w u xs) (hn : n = xs.length) (g m : Nat) (hx : a.eval x = .slice (some ⟨g, 0, none⟩) m m) (hm : m = zs.length) (hm0 : 0 < zs.length) (hb : Blk w g 90 (limbV zs))
    (hl : (n : Int) + m ≤ 16000000)
    (h : ∀ g' c w', LimbsAt w' (.slice (some ⟨g', 0, none⟩) (n + m) c) (xs ++ zs) → (u.ownBlock = some g' ∨ w.heap.size ≤ g') → Only u.ownBlock.toList w w' → wpList Tryd.prog ops Q rest (a.put o.dst (.slice (some ⟨g', 0, none⟩) (n + m) c)) w') : wpList Tryd.prog ops Q (o :: rest) a w := by
  subst hn hm
  obtain ⟨i0, hi, hz0, hz1, hz2⟩ := u64_parts
  refine wpList_append_own_at _ hgd s x T ho 0 90 i0 (.int .u64 0) 1 8 hT hi hz0 hz1 hz2 rfl (by decide) u xs.length (limbV xs) hs hu ⟨g, 0, none⟩ zs.length zs.length (limbV zs) hx (by simp [limbV]) (fun j v hj => by rw [addr_plus, hb.cell, Nat.zero_add]; exact hj) (by simp [limbV, Value.oneCell']) (by simp only [maxLen]; omega) (by omega) (Nat.zero_le _) ?_
  intro v' w' h1 h2 _ h4
  obtain ⟨g', c, rfl⟩ : ∃ g' c, v' = Value.slice (some ⟨g', 0, none⟩) (xs.length + zs.length) c := by
    rcases h1.2 with ⟨_, h0⟩ | ⟨gp, cap, cur, hv, _⟩
    · exact absurd h0 (by omega)
    · exact ⟨_, _, hv⟩
  refine h g' c w' ?_ ?_ (Only.of_grown h2 (fun k hk => by rw [hk]; simp))
  · have e : limbV (xs ++ zs) = limbV xs ++ limbV zs := by simp [limbV]
    show World.ownsRow _ _ _ _ _ _ _
    rw [e, List.length_append]
    exact h1
  · rcases h4 with h5 | h5
    · left; rw [← h5]; rfl
    · right
      simp [Value.ownBlock] at h5
      omega

theorem slice_three (A : Option Addr) (n c m : Nat) (h : m ≤ c) (w : World) : (Instr.slice 45 (.slice A n c) none (some (.int .i64 (m : Int))) (some (.int .i64 (m : Int)))).run Tryd.prog w = .ok (.slice A m m) w := by
  have hs : (sizeOf (Tryd.prog.elem 45)).run Tryd.prog w = .ok 1 w := by kernel_rfl
  rw [run_slice_hm (P := Tryd.prog) (w := w) 45 A n c (by kernel_rfl) .i64 .i64 (m : Int) (m : Int) (by omega) (by omega) (by omega), hs]
  simp only [Result.andThen, sliced, Int.toNat_natCast]
  cases A <;> simp [Addr.add]

set_option maxHeartbeats 800000 in
set_option maxRecDepth 100000 in
theorem rtrim_any (A : Option Addr) (n c : Nat) (xs : List Nat) (w : World) (h : Hid (LRead w A xs)) (hx : Hid (R.Limb xs)) (hn : Hid (n = xs.length)) (hc : n ≤ c) (hl : (n : Int) ≤ 8000000) :
    Calls Tryd.prog 64 #[.slice A n c] w fun e w' => e = .returned (.slice A (R.limbsOf (R.val xs)).length (R.limbsOf (R.val xs)).length) ∧ w = w' := by
  go_enter Tryd.func64, Tryd.ntmps64
  go_wp2_with fail
  go_loop [3] (fun t => ∃ k : Nat, k ≤ n ∧ t = .int .i64 (k : Int) ∧ ∀ j, k ≤ j → j < xs.length → xs[j]?.getD 0 = 0) (fun t => (intOf t).toNat)
  case atStart => exact ⟨n, Nat.le_refl _, rfl, fun j h1 h2 => by have := hn.out; omega⟩
  case round =>
    obtain ⟨k, hk, rfl, hz⟩ := hrel
    have HZ := Lib.hid hz
    clear hz
    cases k with
    | zero =>
      have HE : Hid ((R.limbsOf (R.val xs)).length = 0) := (R.trim_stop hx.out 0 (Nat.zero_le _) HZ.out (fun h => by omega)).1
      have h3 : (Instr.slice 45 (.slice A n c) none (some (.int .i64 0)) (some (.int .i64 0))).run Tryd.prog w = .ok (.slice A 0 0) w := slice_three A n c 0 (Nat.zero_le _) w
      go_wp2_with fail
      go_ret
      exact ⟨by rw [HE.out]; rfl, rfl⟩
    | succ m =>
      obtain ⟨b, o, rfl, hcell⟩ := h.out m (by have := hn.out; omega)
      have hm1 : ((m + 1 : Nat) : Int) - 1 = (m : Int) := by omega
      have hm2 : (0 : Int) < ((m + 1 : Nat) : Int) := by omega
      have hm3 : (m : Int) < (n : Int) := by omega
      by_cases h0 : xs[m]?.getD 0 = 0
      · have HZ' : Hid (∀ j, m ≤ j → j < xs.length → xs[j]?.getD 0 = 0) := fun j h1 h2 => by
          by_cases e : j = m
          · rw [e]; exact h0
          · exact HZ.out j (by omega) h2
        rw [h0] at hcell
        clear h0
        go_wp2_with fail
        go_round
        case rel => exact ⟨m, by omega, by go_num, HZ'.out⟩
        case measure => simp [intOf]
      · have HE : Hid ((R.limbsOf (R.val xs)).length = m + 1) := (R.trim_stop hx.out (m + 1) (by have := hn.out; omega) HZ.out (fun _ => by simpa using h0)).1
        have g0 : (((xs[m]?.getD 0 : Nat) : Int) == 0) = false := beq_eq_false_iff_ne.2 (by omega)
        have h3 := slice_three (some ⟨b, o, none⟩) n c (m + 1) (by omega) w
        generalize xs[m]?.getD 0 = x at hcell g0
        clear h0
        go_wp2_with fail
        go_ret
        exact ⟨by rw [HE.out]; rfl, rfl⟩
end Go.Proofs.YtigpnopeacicpaaDoor
/-
  The reference's numbers: SameLimbs, Limbs, Is, From.
-/
namespace Go.Proofs.YtigpnopeacicpaaDoor
open Go.RowKit

theorem frame_app {w wr wx w4 : World} {u : Value} (ho : Only [] w wr) (hfr : ∀ g, u.ownBlock = some g → w.heap.size ≤ g) (hx : Only [] wr wx) (h4 : Only u.ownBlock.toList wx w4) : Only [] w w4 :=
  (ho.nil_trans hx).trans h4 (fun k hk => .inr (hfr k (by simpa using hk)))

theorem fresh_app {w wr wx : World} {u : Value} {g' n c : Nat} (ho : Only [] w wr) (hfr : ∀ g, u.ownBlock = some g → w.heap.size ≤ g) (hx : Only [] wr wx) (h : u.ownBlock = some g' ∨ wx.heap.size ≤ g') : ∀ g, (Value.slice (some ⟨g', 0, none⟩) n c).ownBlock = some g → w.heap.size ≤ g := by
  intro g hg
  simp [Value.ownBlock] at hg
  subst hg
  rcases h with h | h
  · exact hfr _ h
  · have h1 := ho.size
    have h2 := hx.size
    omega

end Go.Proofs.YtigpnopeacicpaaDoor
/-
  The reference's numbers: Add, Small, Cmp, Sub.
-/
namespace Go.Proofs.YtigpnopeacicpaaDoor
open Go.RowKit

end Go.Proofs.YtigpnopeacicpaaDoor
/-
  The reference's numbers: Small, Mul.
-/
namespace Go.Proofs.YtigpnopeacicpaaDoor
open Go.RowKit

/-- Two digits of a limb. -/
theorem RV.of_row {w : World} {A : Option Addr} {os : List Nat} (h : LRead w A os) (hl : R.Limb os) : LRead w A (R.limbsOf (R.val os)) := by
  have h2 := (R.limbsOf_take hl).1
  rw [← h2]
  exact h.take _
set_option maxRecDepth 100000 in
theorem rsmall_any (v : Nat) (w : World) (hv : Hid (v < BB)) : Calls Tryd.prog 55 #[.int .u64 (v : Int)] w (RPost v w) := by
  have hr1 : (v : Int) % 4294967296 = ((v % R.BB : Nat) : Int) := by rw [R.BB_val]; omega
  have hr2 : (v : Int) / 4294967296 = ((v / R.BB : Nat) : Int) := by rw [R.BB_val]; omega
  have hr3 : (v : Int).tmod 4294967296 = ((v % R.BB : Nat) : Int) := by rw [Int.tmod_eq_emod_of_nonneg (by omega)]; exact hr1
  have hr4 : (v : Int).tdiv 4294967296 = ((v / R.BB : Nat) : Int) := by rw [Int.tdiv_eq_ediv_of_nonneg (by omega)]; exact hr2
  have hw5 : IntKind.u64.wrap ((v / R.BB : Nat) : Int) = ((v / R.BB : Nat) : Int) := u64_wrap (Nat.lt_of_le_of_lt (Nat.div_le_self _ _) hv.out)
  have hw6 : IntKind.u64.wrap ((v % R.BB : Nat) : Int) = ((v % R.BB : Nat) : Int) := u64_wrap (Nat.lt_of_le_of_lt (Nat.mod_le _ _) hv.out)
  have HV : Hid (R.val [v % R.BB, v / R.BB] = v) := by
    show _ = _
    simp only [R.val, Nat.mul_zero, Nat.add_zero]
    exact Nat.mod_add_div _ _
  have HL : Hid (R.Limb [v % R.BB, v / R.BB]) := fun d hd => by
    have h := hv.out
    rw [R.bb_sq] at h
    rcases List.mem_cons.1 hd with rfl | hd
    · exact Nat.mod_lt _ R.BB_pos
    · rw [List.mem_singleton.1 hd]
      rwa [Nat.div_lt_iff_lt_mul R.BB_pos]
  generalize v % R.BB = d0 at *
  generalize v / R.BB = d1 at *
  have hb : Blk (w.alloc (Obj.cells #[.int .u64 (d0 : Int), .int .u64 (d1 : Int)] 90)) w.heap.size 90 (limbV [d0, d1]) := Blk.new w 90 (limbV [d0, d1])
  have HRd : Hid (LRead (w.alloc (Obj.cells #[.int .u64 (d0 : Int), .int .u64 (d1 : Int)] 90)) (some ⟨w.heap.size, 0, none⟩) [d0, d1]) := .of_blk hb
  have htr := rtrim_any (some ⟨w.heap.size, 0, none⟩) 2 2 [d0, d1] _ HRd HL (Lib.hid rfl) (Nat.le_refl _) (by omega)
  rw [HV.out] at htr
  have HTr := Lib.hid htr
  clear htr hb
  go_enter Tryd.func55, Tryd.ntmps55
  go_wp2_with fail
  refine HTr.out.mono ?_
  rintro e w' ⟨rfl, rfl⟩
  go_wp2_with fail
  go_ret
  have h2 := RV.of_row HRd.out HL.out
  rw [HV.out] at h2
  exact ⟨_, _, _, rfl, ⟨_, _, rfl, h2, Nat.le_refl _⟩, fun a ha => by injection ha with ha; subst ha; exact Nat.le_refl _, (Only.refl [] w).alloc _⟩

theorem R.val_take_all (xs : List Nat) : xs.take xs.length = xs := List.take_of_length_le (Nat.le_refl _)

end Go.Proofs.YtigpnopeacicpaaDoor

/-
  nat.scale: a row times a limb, and a limb.
-/
namespace Go.Proofs.YtigpnopeacicpaaDoor
open Go.RowKit

/-- A row of limbs, whole: the limbs, and whatever is behind them. -/
theorem LimbsAt.row {w : World} {g n c : Nat} {xs : List Nat} (h : LimbsAt w (.slice (some ⟨g, 0, none⟩) n c) xs) : ∃ tl, Blk w g 90 (limbV xs ++ tl) ∧ xs.length + tl.length = c ∧ c ≤ maxLen ∧ n = xs.length := by
  rcases h.2 with ⟨h0, _⟩ | ⟨g', cap, cur, e, _, hg, hn, hm, hs, ht⟩
  · cases h0
  · injection e with e1 e2 e3
    injection e1 with e1
    injection e1 with e1 _ _
    subst e1 e3
    refine ⟨cur.toList.drop xs.length, ?_, ?_, hm, e2⟩
    · unfold Blk
      rw [hg]
      congr 2
      apply Array.ext'
      rw [Nat.mul_one] at ht
      rw [← ht]
      simp
    · rw [List.length_drop]
      simp at hs ⊢
      omega

end Go.Proofs.YtigpnopeacicpaaDoor
/-
  nat.Parse: the number of decimal digits.
-/
namespace Go.Proofs.YtigpnopeacicpaaDoor
open Go.RowKit

end Go.Proofs.YtigpnopeacicpaaDoor
