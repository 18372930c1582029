/-
  Joined texts.
-/
import Derived.Test.YtigpnopeacicpaaDoorTbJ13
import Derived.Test.YtigpnopeacicpaaDoorTbJ9
import Derived.Test.YtigpnopeacicpaaDoorTbJ11
import Derived.Test.YtigpnopeacicpaaDoorTbJ10
import Derived.Test.YtigpnopeacicpaaDoorTbJ12
/-
  bound.Of and bound.Sep.
-/
namespace Go.Proofs.YtigpnopeacicpaaDoor
set_option linter.unusedSimpArgs false
open Go.RowKit Go.Maps
attribute [local go_sem] run_store_float

/-- A bound's value. -/
abbrev bndV (u l k : Int) : Value := .agg #[.int .i64 u, .int .i64 l, .int .i64 k]
/-- A dag as it should be. -/
structure DagOk (ns : List Nd) : Prop where
  ok : OkDag ns
  len : ns.length ≤ 20000
  nodes : NodesOk ns
theorem below_self {ns : List Nd} (ok : OkDag ns) {a : Nat} (h : a < ns.length) : (a : Int) ∈ belowOf ns (a : Int) := (mem_belowL ok).2 (.root _ (by simp) (by omega) (by omega))

theorem roots_K (d : Nat) (v : Value) (r : Option Nat) (ns : List Nd) (a K : Nat) (w : World) (hd : DagIs w d v r ns) (ok : Hid (DagOk ns)) (hK : Hid (rootsL ns (belowOf ns (a : Int)) = K)) :
    Calls Tryd.prog 44 #[.pointer (some ⟨d, 0, none⟩), .int .i64 (a : Int)] w fun e w' => e = .returned (.int .i64 (K : Int)) ∧ Only [] w w' := by
  rw [← hK.out]
  exact roots_any d v r ns (a : Int) w hd ok.out.ok ok.out.len
theorem ents_L (d : Nat) (v : Value) (ns : List Nd) (R : Int → Prop) (L : List Int) (hL : Hid (belowL ns R = L)) (A : Option Addr) (c : Nat) (w : World) (hT : Hid (Tab6 w)) (hd : DagIs w d v none ns) (ok : Hid (DagOk ns)) (hread : Hid (IRead w A L)) :
    Calls Tryd.prog 42 #[.pointer (some ⟨d, 0, none⟩), .slice A L.length c] w fun e w' => ∃ m, e = .returned (.map (some m)) ∧ MapV w' m L.length (mapE ns L) ∧ w.heap.size ≤ m ∧ Only [] w w' := by
  obtain rfl : belowL ns R = L := hL.out
  exact ents_any d v ns R A c w hT hd ok.out.ok ok.out.len ok.out.nodes hread.out
set_option maxHeartbeats 3200000 in
set_option maxRecDepth 100000 in
theorem bof_in (d : Nat) (v : Value) (ns : List Nd) (a : Nat) (e0 : En) (K : Nat) (w : World) (hT : Hid (Tab6 w)) (hd : Hid (DagIs w d v none ns)) (ok : Hid (DagOk ns)) (ha : a < ns.length) (he : Hid (ent lfB ns (a : Int) = e0)) (hK : Hid (rootsL ns (belowOf ns (a : Int)) = K)) :
    Calls Tryd.prog 10 #[.pointer (some ⟨d, 0, none⟩), .int .i64 (a : Int)] w fun e w' => e = .returned (.tuple #[bndV e0.u e0.l K, .bool e0.ok]) ∧ Only [] w w' := by
  have HB0 := Lib.hid (Blk.new w 35 [.int .i64 0, .int .i64 0, .int .i64 0])
  have HO0 : Hid (Only [] w (w.alloc (.cells #[.int .i64 0, .int .i64 0, .int .i64 0] 35))) := (Only.refl _ _).alloc _
  have HI0 := Lib.hid ((Blk.new (w.alloc (.cells #[.int .i64 0, .int .i64 0, .int .i64 0] 35)) 3 [.int .i64 (a : Int)]).cell 0)
  rw [World.size_alloc] at HI0
  have HSm : Hid (Small (a : Int)) := by have := ok.out.len; show Small _; unfold Small; omega
  go_enter Tryd.func10, Tryd.ntmps10
  go_wp2_with fail
  generalize w.alloc (.cells #[.int .i64 0, .int .i64 0, .int .i64 0] 35) = w0 at *
  have HA : Hid (IRead (w0.alloc (.cells #[.int .i64 (a : Int)] 3)) (some ⟨w.heap.size + 1, 0, none⟩) [(a : Int)]) := fun k hk => ⟨w.heap.size + 1, 0, rfl, by
    have e : k = 0 := by simpa using hk
    subst e
    exact HI0.out⟩
  have HO1 : Hid (Only [] w (w0.alloc (.cells #[.int .i64 (a : Int)] 3))) := HO0.out.alloc _
  have HB1 := Lib.hid (HB0.out.alloc (.cells #[.int .i64 (a : Int)] 3))
  clear HI0 HB0 HO0
  generalize w0.alloc (.cells #[.int .i64 (a : Int)] 3) = w1 at *
  refine (below_any d v none ns [(a : Int)] (some ⟨w.heap.size + 1, 0, none⟩) 1 w1 (hd.out.only HO1.out (by simp)) ok.out.ok ok.out.len HA (by simp)).mono ?_
  rintro e w2 ⟨u, rfl, hL, -, ho2⟩
  obtain ⟨L, hLe⟩ : ∃ L, belowL ns (· ∈ [(a : Int)]) = L := ⟨_, rfl⟩
  have HLe := Lib.hid hLe
  rw [hLe] at hL
  clear hLe
  obtain ⟨Au, cu, rfl, hread⟩ := hL.shape
  have HR := Lib.hid hread
  have HO2 := Lib.hid (HO1.out.nil_trans ho2)
  have HB2 := Lib.hid (HB1.out.only ho2 (by simp))
  clear hL hread ho2 HA HO1 HB1
  go_wp2_with fail
  with_reducible refine (ents_L d v ns (· ∈ [(a : Int)]) L HLe Au cu w2 (Lib.hid (hT.out.keep HO2.out)) (hd.out.only HO2.out (by simp)) ok HR).mono ?_
  rintro e w3 ⟨m, rfl, hM, -, ho3⟩
  have HM := Lib.hid hM
  have HO3 := Lib.hid (HO2.out.nil_trans ho3)
  have HB3 := Lib.hid (HB2.out.only ho3 (by simp))
  have hlk := hM.look_ok Tryd.underlying85 (zeroEnt w3) HSm.out
  have hin : mapE ns L (a : Int) = some (entV e0) := by
    unfold mapE
    rw [← HLe.out, if_pos (show (a : Int) ∈ belowL ns (· ∈ [(a : Int)]) from below_self ok.out.ok ha), he.out]
  rw [hin] at hlk
  simp only [Option.getD_some, Option.isSome_some] at hlk
  clear hM ho3 HO2 HB2 HR hin HM
  go_upto_region 2 with fail
  have hgx : Hid (¬ w.heap.size = w3.heap.size) := by have := HB3.out.lt; show ¬ _; omega
  have HB4 := Lib.hid (HB3.out.alloc (.cells #[.int .i64 e0.u, .int .i64 e0.l, .bool e0.ok] 83))
  have HE4 := Lib.hid (Blk.new w3 83 [.int .i64 e0.u, .int .i64 e0.l, .bool e0.ok])
  have HO4 : Hid (Only [] w (w3.alloc (.cells #[.int .i64 e0.u, .int .i64 e0.l, .bool e0.ok] 83))) := HO3.out.alloc _
  clear hlk HB3 HO3
  generalize w3.alloc (.cells #[.int .i64 e0.u, .int .i64 e0.l, .bool e0.ok] 83) = w4 at *
  generalize w3.heap.size = bx at *
  generalize hg : w.heap.size = g at HB4 hgx ⊢
  have HG := Lib.hid hg
  clear hg
  go_upto_region 4 with fail
  have HN := hgx.out
  have HN2 : ¬ bx = g := fun h => HN h.symm
  have HE5 := Lib.hid (HE4.out.only (Only.refl [] w4).drew (by simp))
  have HB5 := Lib.hid (HB4.out.only (Only.refl [] w4).drew (by simp))
  have HO5 : Hid (Only [] w w4.drew) := HO4.out.nil_trans (Only.refl [] w4).drew
  have HRt := Lib.hid (roots_K d v none ns a K w4.drew (hd.out.only HO5.out (by simp)) ok hK)
  have q0 := HE4.out.cell 0
  have q1 := HE4.out.cell 1
  have q2 := HE4.out.cell 2
  simp only [List.getElem?_cons_zero, List.getElem?_cons_succ] at q0 q1 q2
  go_region_held3 (fun w' => w'.cell? ⟨bx, 0, none⟩ = some (.int .i64 e0.u) ∧ w'.cell? ⟨bx, 1, none⟩ = some (.int .i64 e0.l) ∧ w'.cell? ⟨bx, 2, none⟩ = some (.bool e0.ok)) (go_keep) (first | (go_at_call 44; (with_reducible refine HRt.out.mono ?_); rintro e5 w5 ⟨rfl, ho5⟩; have HE6 := Lib.hid (HE5.out.only ho5 (by simp)); have HB6 := Lib.hid (HB5.out.only ho5 (by simp)); have HO6 := Lib.hid (HO5.out.nil_trans ho5); clear ho5; have q0 := HE6.out.cell 0; have q1 := HE6.out.cell 1; have q2 := HE6.out.cell 2; have c0 := HB6.out.cell 0; have c1 := HB6.out.cell 1; have c2 := HB6.out.cell 2; have f0 := HB6.out.frozen 0; have f1 := HB6.out.frozen 1; have f2 := HB6.out.frozen 2; simp only [List.getElem?_cons_zero, List.getElem?_cons_succ] at q0 q1 q2 c0 c1 c2))
  go_wp2_with fail
  refine bodyPost_ret (v := .tuple #[.agg #[.int .i64 e0.u, .int .i64 e0.l, .int .i64 (K : Int)], .bool e0.ok]) (by simp [results, Tryd.results10, go_sem, c0, c1, c2]) rfl ⟨rfl, ?_⟩
  have h3 := HG.out
  exact ((HO6.out.setCell (.inr (by show w.heap.size ≤ g; omega)) _).setCell (.inr (by show w.heap.size ≤ g; omega)) _).setCell (.inr (by show w.heap.size ≤ g; omega)) _
/-- A look at an empty map, at any key. -/
theorem MapV.look_ok0 {w : World} {b : Nat} {f : Int → Option Value} {k : Int} {z : Value} {M E : TypeId} (h : MapV w b 0 f) (hM : Tryd.prog.underlying M = some (.map 3 E)) (hz : (zeroValue E).run Tryd.prog w = .ok z w) (hk : (Lit.int .i64 k).wf = true) : (Instr.lookup M (.map (some b)) (.int .i64 k) true).run Tryd.prog w = .ok (.tuple #[z, .bool false]) w := by
  obtain ⟨D, h1, h2, _⟩ := h
  obtain ⟨es, rfl⟩ := (h1.tidy (int_keyed Tryd.underlying3)).isMap
  have he : es = [] := by
    have : es.length = 0 := h2
    exact List.length_eq_zero_iff.1 this
  subst he
  obtain ⟨v, ps, hr, hv⟩ := h1.look_ok (int_keyed Tryd.underlying3) hM hz (zd := .held z) (zp := []) rfl (keyOf_int_mk Tryd.underlying3 hk)
  have e1 : (DataW.map [] : DataW Value).atKey (.int .i64 k) (.held z) = .held z := rfl
  rw [e1] at hv
  simp only [selfV, Option.some.injEq, Prod.mk.injEq, DataW.held.injEq] at hv
  rw [hr, hv.1]
  rfl
set_option maxHeartbeats 3200000 in
set_option maxRecDepth 100000 in
theorem bof_out (d : Nat) (v : Value) (ns : List Nd) (a : Int) (w : World) (hT : Hid (Tab6 w)) (hd : Hid (DagIs w d v none ns)) (ok : Hid (DagOk ns)) (ha : a < 0 ∨ (ns.length : Int) ≤ a) (hwf : (Lit.int .i64 a).wf = true) :
    Calls Tryd.prog 10 #[.pointer (some ⟨d, 0, none⟩), .int .i64 a] w fun e w' => e = .returned (.tuple #[bndV 0 0 0, .bool false]) ∧ Only [] w w' := by
  have HB0 := Lib.hid (Blk.new w 35 [.int .i64 0, .int .i64 0, .int .i64 0])
  have HO0 : Hid (Only [] w (w.alloc (.cells #[.int .i64 0, .int .i64 0, .int .i64 0] 35))) := (Only.refl _ _).alloc _
  have HI0 := Lib.hid ((Blk.new (w.alloc (.cells #[.int .i64 0, .int .i64 0, .int .i64 0] 35)) 3 [.int .i64 a]).cell 0)
  rw [World.size_alloc] at HI0
  have HWf := Lib.hid hwf
  have HLe : Hid (belowL ns (· ∈ [a]) = []) := below_out ha
  clear hwf ha
  go_enter Tryd.func10, Tryd.ntmps10
  go_wp2_with fail
  generalize w.alloc (.cells #[.int .i64 0, .int .i64 0, .int .i64 0] 35) = w0 at *
  have HA : Hid (IRead (w0.alloc (.cells #[.int .i64 a] 3)) (some ⟨w.heap.size + 1, 0, none⟩) [a]) := fun k hk => ⟨w.heap.size + 1, 0, rfl, by
    have e : k = 0 := by simpa using hk
    subst e
    exact HI0.out⟩
  have HO1 : Hid (Only [] w (w0.alloc (.cells #[.int .i64 a] 3))) := HO0.out.alloc _
  have HB1 := Lib.hid (HB0.out.alloc (.cells #[.int .i64 a] 3))
  clear HI0 HB0 HO0
  generalize w0.alloc (.cells #[.int .i64 a] 3) = w1 at *
  refine (below_any d v none ns [a] (some ⟨w.heap.size + 1, 0, none⟩) 1 w1 (hd.out.only HO1.out (by simp)) ok.out.ok ok.out.len HA (by simp)).mono ?_
  rintro e w2 ⟨u, rfl, hL, -, ho2⟩
  rw [HLe.out] at hL
  obtain ⟨Au, cu, rfl, hread⟩ := hL.shape
  have HR := Lib.hid hread
  have HO2 := Lib.hid (HO1.out.nil_trans ho2)
  have HB2 := Lib.hid (HB1.out.only ho2 (by simp))
  clear hL hread ho2 HA HO1 HB1
  go_wp2_with fail
  refine (ents_L d v ns (· ∈ [a]) [] HLe Au cu w2 (Lib.hid (hT.out.keep HO2.out)) (hd.out.only HO2.out (by simp)) ok HR).mono ?_
  rintro e w3 ⟨m, rfl, hM, -, ho3⟩
  have HO3 := Lib.hid (HO2.out.nil_trans ho3)
  have HB3 := Lib.hid (HB2.out.only ho3 (by simp))
  have hlk := hM.look_ok0 Tryd.underlying85 (zeroEnt w3) HWf.out
  have c0 := (HB3.out.alloc (.cells #[.int .i64 0, .int .i64 0, .bool false] 83)).cell 0
  have c1 := (HB3.out.alloc (.cells #[.int .i64 0, .int .i64 0, .bool false] 83)).cell 1
  have c2 := (HB3.out.alloc (.cells #[.int .i64 0, .int .i64 0, .bool false] 83)).cell 2
  have f0 := (HB3.out.alloc (.cells #[.int .i64 0, .int .i64 0, .bool false] 83)).frozen 0
  have f1 := (HB3.out.alloc (.cells #[.int .i64 0, .int .i64 0, .bool false] 83)).frozen 1
  have f2 := (HB3.out.alloc (.cells #[.int .i64 0, .int .i64 0, .bool false] 83)).frozen 2
  simp only [List.getElem?_cons_zero, List.getElem?_cons_succ] at c0 c1 c2
  clear hM ho3 HO2 HB2 HR HB3
  simp only [en0] at hlk
  go_wp2_with fail
  refine bodyPost_ret (v := .tuple #[.agg #[.int .i64 0, .int .i64 0, .int .i64 0], .bool false]) (by simp [results, Tryd.results10, go_sem, c0, c1, c2]) rfl ⟨rfl, ?_⟩
  have h3 := (HO3.out.alloc (.cells #[.int .i64 0, .int .i64 0, .bool false] 83))
  exact ((h3.setCell (.inr (Nat.le_refl _)) _).setCell (.inr (Nat.le_refl _)) _).setCell (.inr (Nat.le_refl _)) _
end Go.Proofs.YtigpnopeacicpaaDoor

/-
  bound.Sep.
-/
namespace Go.Proofs.YtigpnopeacicpaaDoor
set_option linter.unusedSimpArgs false
open Go.RowKit
attribute [local go_sem] run_store_float

set_option maxHeartbeats 1600000 in
set_option maxRecDepth 100000 in
theorem bsep_core (d : Nat) (a : Int) (u l : Int) (K : Nat) (ok : Bool) (w : World) (hA : ∀ W : World, Only [] w W → Calls Tryd.prog 10 #[.pointer (some ⟨d, 0, none⟩), .int .i64 a] W fun e w' => e = .returned (.tuple #[bndV u l K, .bool ok]) ∧ Only [] W w')
    (hu : 0 ≤ u ∧ u ≤ 1099511627776) (hl : 0 ≤ l ∧ l ≤ 1099511627776) (hK : K ≤ 100000) (s : Int) (is : Bool)
    (hs : (if ok = true ∧ K ≤ 20 ∧ max u l * 2 ^ K + 1 ≤ 1099511627776 then (max u l * 2 ^ K + 1, true) else (0, false)) = (s, is)) :
    Calls Tryd.prog 9 #[.pointer (some ⟨d, 0, none⟩), .int .i64 a] w fun e w' => e = .returned (.tuple #[.int .i64 s, .bool is]) ∧ Only [] w w' := by
  have HA := Lib.hid hA
  have HS := Lib.hid hs
  clear hA hs
  go_enter Tryd.func9, Tryd.ntmps9
  go_wp2_with fail
  refine (HA.out w (Only.refl _ _)).mono ?_
  rintro e w2 ⟨rfl, ho2⟩
  have HO2 : Hid (Only [] w (w2.alloc (.cells #[.int .i64 u, .int .i64 l, .int .i64 (K : Int)] 35))) := ho2.alloc _
  clear ho2
  cases ok
  · obtain ⟨rfl, rfl⟩ : s = 0 ∧ is = false := by
      have h := HS.out
      simp at h
      exact ⟨h.1.symm, h.2⟩
    go_wp2_with fail
    go_returns
    exact ⟨rfl, HO2.out⟩
  · by_cases hk : (20 : Int) < (K : Int)
    · obtain ⟨rfl, rfl⟩ : s = 0 ∧ is = false := by
        have h := HS.out
        rw [if_neg (by omega)] at h
        simp at h
        exact ⟨h.1.symm, h.2⟩
      go_wp2_with fail
      go_returns
      exact ⟨rfl, HO2.out⟩
    · obtain ⟨m, hm⟩ : ∃ m, max u l = m := ⟨_, rfl⟩
      obtain ⟨q, hq⟩ : ∃ q : Int, m * 2 ^ K = q := ⟨_, rfl⟩
      have hq0 : 0 ≤ q ∧ q ≤ 1152921504606846976 := by
        have h1 : (2 : Int) ^ K ≤ 2 ^ 20 := by exact_mod_cast Nat.pow_le_pow_right (by omega) (show K ≤ 20 by omega)
        have h2 : (0 : Int) ≤ 2 ^ K := Int.pow_nonneg (by omega)
        have h3 := Int.mul_le_mul (show m ≤ 1099511627776 by omega) h1 h2 (by omega)
        have h4 := Int.mul_nonneg (show 0 ≤ m by omega) h2
        rw [hq] at h3 h4
        exact ⟨h4, by omega⟩
      rw [hm, hq] at HS
      have hw1 : IntKind.i64.wrap q = q := wrap_i64 (by omega)
      have hw2 : IntKind.i64.wrap (q + 1) = q + 1 := wrap_i64 (by omega)
      have hKn : ¬ (K : Int) < 0 := by omega
      have HS1 : Hid (q + 1 ≤ 1099511627776 → s = q + 1 ∧ is = true) := fun h1 => by
        have h := HS.out
        rw [if_pos ⟨rfl, by omega, h1⟩] at h
        simp only [Prod.mk.injEq] at h
        exact ⟨h.1.symm, h.2.symm⟩
      have HS2 : Hid (1099511627776 < q + 1 → s = 0 ∧ is = false) := fun h1 => by
        have h := HS.out
        rw [if_neg (by omega)] at h
        simp only [Prod.mk.injEq] at h
        exact ⟨h.1.symm, h.2.symm⟩
      clear HS
      go_upto_region 5 with fail
      by_cases ht : 1099511627776 < q + 1
      · obtain ⟨rfl, rfl⟩ := HS2.out ht
        go_wp2_with fail
        go_returns
        exact ⟨rfl, HO2.out⟩
      · obtain ⟨rfl, rfl⟩ := HS1.out (by omega)
        go_wp2_with fail
        go_returns
        exact ⟨rfl, HO2.out⟩
/-- Sep of a number of the dag. -/
theorem bsep_in (d : Nat) (v : Value) (ns : List Nd) (a : Nat) (w : World) (hT : Hid (Tab6 w)) (hd : Hid (DagIs w d v none ns)) (ok : Hid (DagOk ns)) (ha : a < ns.length) :
    Calls Tryd.prog 9 #[.pointer (some ⟨d, 0, none⟩), .int .i64 (a : Int)] w fun e w' => e = .returned (.tuple #[.int .i64 (if sepB lfB ns (a : Int) = true then sepV lfB ns (a : Int) else 0), .bool (sepB lfB ns (a : Int))]) ∧ Only [] w w' := by
  have he := ent_ok lfB_ok ns (a : Int)
  unfold EnOk at he
  simp only [topB_val] at he
  have hr := rootsL_le ns (belowOf ns (a : Int))
  have hl := (belowL_ids ok.out.ok (· ∈ [(a : Int)])).len
  have hn := ok.out.len
  refine bsep_core d (a : Int) (ent lfB ns (a : Int)).u (ent lfB ns (a : Int)).l (rootsL ns (belowOf ns (a : Int))) (ent lfB ns (a : Int)).ok w (fun W ho => bof_in d v ns a _ _ W (Lib.hid (hT.out.keep ho)) (Lib.hid (hd.out.only ho (by simp))) ok ha (Lib.hid rfl) (Lib.hid rfl)) ⟨he.1, he.2.1⟩ ⟨he.2.2.1, he.2.2.2⟩ ?_ _ _ ?_
  · have : (belowOf ns (a : Int)).length ≤ ns.length := hl
    omega
  · have hB : sepB lfB ns (a : Int) = true ↔ ((ent lfB ns (a : Int)).ok = true ∧ rootsL ns (belowOf ns (a : Int)) ≤ 20 ∧ max (ent lfB ns (a : Int)).u (ent lfB ns (a : Int)).l * 2 ^ rootsL ns (belowOf ns (a : Int)) + 1 ≤ 1099511627776) := by
      unfold sepB
      simp only [Bool.and_eq_true, decide_eq_true_eq]
      simp only [topB_val]
      constructor
      · exact fun h => ⟨h.1, by omega, h.2.2⟩
      · exact fun h => ⟨h.1, by omega, h.2.2⟩
    by_cases h : sepB lfB ns (a : Int) = true
    · rw [if_pos (hB.1 h), if_pos h, h]
      rfl
    · rw [if_neg (fun h2 => h (hB.2 h2)), if_neg h]
      have : sepB lfB ns (a : Int) = false := by simpa using h
      rw [this]
theorem bsep_out (d : Nat) (v : Value) (ns : List Nd) (a : Int) (w : World) (hT : Hid (Tab6 w)) (hd : Hid (DagIs w d v none ns)) (ok : Hid (DagOk ns)) (ha : a < 0 ∨ (ns.length : Int) ≤ a) (hwf : (Lit.int .i64 a).wf = true) :
    Calls Tryd.prog 9 #[.pointer (some ⟨d, 0, none⟩), .int .i64 a] w fun e w' => e = .returned (.tuple #[.int .i64 0, .bool false]) ∧ Only [] w w' :=
  bsep_core d a 0 0 0 false w (fun W ho => bof_out d v ns a W (Lib.hid (hT.out.keep ho)) (Lib.hid (hd.out.only ho (by simp))) ok ha hwf) (by omega) (by omega) (by omega) 0 false (by simp)
end Go.Proofs.YtigpnopeacicpaaDoor

/-
  How deep a number is: the plain law.
-/
namespace Go.Proofs.YtigpnopeacicpaaDoor

def depF (ns : List Nd) : Nat → Int → Int
  | 0, _ => 0
  | m + 1, x => (kids (nodeAt ns x)).foldl (fun acc c => max acc (1 + depF ns m c)) 0
/-- How deep it is. -/
def dep (ns : List Nd) (x : Int) : Int := depF ns (x.toNat + 1) x

theorem kids_cases (n : Nd) : kids n = [] ∨ (∃ a, kids n = [a]) ∨ ∃ a b, kids n = [a, b] := by
  unfold kids
  split
  · exact .inl rfl
  · split
    · exact .inr (.inl ⟨_, rfl⟩)
    · exact .inr (.inr ⟨_, _, rfl⟩)
theorem depF_more {ns : List Nd} (ok : OkDag ns) : ∀ (m m' : Nat) (x : Int), 0 ≤ x → x < ns.length → x < m → x < m' → depF ns m x = depF ns m' x
  | 0, _, x, h0, _, h2, _ => by omega
  | _ + 1, 0, x, h0, _, _, h3 => by omega
  | m + 1, m' + 1, x, h0, h1, h2, h3 => by
    have hk := ok x h0 h1
    unfold depF
    have e : ∀ c ∈ kids (nodeAt ns x), depF ns m c = depF ns m' c := fun c hc => by
      have := hk c hc
      exact depF_more ok m m' c this.1 (by omega) (by omega) (by omega)
    rcases kids_cases (nodeAt ns x) with h | ⟨a, h⟩ | ⟨a, b, h⟩ <;> rw [h] at e ⊢ <;> simp only [List.foldl]
    · rw [e a (by simp)]
    · rw [e a (by simp), e b (by simp)]
theorem dep_eq {ns : List Nd} (ok : OkDag ns) {x : Int} (h0 : 0 ≤ x) (h1 : x < ns.length) : dep ns x = (kids (nodeAt ns x)).foldl (fun acc c => max acc (1 + dep ns c)) 0 := by
  have hk := ok x h0 h1
  unfold dep
  rw [depF]
  have e : ∀ c ∈ kids (nodeAt ns x), depF ns x.toNat c = depF ns (c.toNat + 1) c := fun c hc => by
    have := hk c hc
    exact depF_more ok _ _ c this.1 (by omega) (by omega) (by omega)
  rcases kids_cases (nodeAt ns x) with h | ⟨a, h⟩ | ⟨a, b, h⟩ <;> rw [h] at e ⊢ <;> simp only [List.foldl]
  · rw [e a (by simp)]
  · rw [e a (by simp), e b (by simp)]
end Go.Proofs.YtigpnopeacicpaaDoor

/-
  A map[int]int that the call has made, as a function of its keys, with its exact size.
-/
namespace Go.Proofs.YtigpnopeacicpaaDoor
open Go.RowKit Go.Maps

/-- Block b is a map of n entries; f k is what key k has. -/
def MapX (w : World) (b n : Nat) (f : Int → Option Int) : Prop :=
  ∃ D : DataW Unit, w.ownsMap Tryd.prog 3 (plainElem Tryd.prog 3) b n D ∧ Maps.size D = n ∧ ∀ k, Small k → Maps.has D (.int .i64 k) = (f k).isSome ∧ D.atKey (.int .i64 k) (.lit (.int .i64 0)) = .lit (.int .i64 ((f k).getD 0))
section
variable {w w' : World} {b n : Nat} {f : Int → Option Int} {k v : Int}
theorem MapX.toI (h : MapX w b n f) : MapI w b n f := by
  obtain ⟨D, h1, _, h2⟩ := h
  exact ⟨D, h1, h2⟩
theorem MapX.lt (h : MapX w b n f) : b < w.heap.size := h.toI.lt
theorem MapX.only {S : List Nat} (h : MapX w b n f) (ho : Only S w w') (hb : b ∉ S) : MapX w' b n f := by
  obtain ⟨D, ⟨es, clock, h1, h2⟩, h3⟩ := h
  exact ⟨D, ⟨es, clock, ho.heap h1 hb, h2⟩, h3⟩
theorem MapX.made (w : World) : MapX (w.alloc (.map #[] 0)) w.heap.size 0 (fun _ => none) :=
  ⟨.map [], World.ownsMap_made w _ _ _, rfl, fun _ _ => ⟨rfl, rfl⟩⟩
theorem MapX.look (h : MapX w b n f) (hk : Small k) : (Instr.lookup 110 (.map (some b)) (.int .i64 k) false).run Tryd.prog w = .ok (.int .i64 ((f k).getD 0)) w := h.toI.look hk
theorem MapX.len (h : MapX w b n f) (ty : TypeId) : (Builtin.len_ #[110] ty #[.map (some b)]).run Tryd.prog w = .ok (.int .i64 n) w := by
  obtain ⟨D, h1, h2, _⟩ := h
  rw [h1.len Tryd.underlying110, h2]
theorem MapX.store (h : MapX w b n f) (hn : n < 1000000) (hk : Small k) (hv : Small v) :
    ∃ w', (Instr.mapUpdate 110 (.map (some b)) (.int .i64 k) (.int .i64 v)).run Tryd.prog w = .ok () w' ∧ MapX w' b (if (f k).isSome then n else n + 1) (fun x => if x = k then some v else f x) ∧ Only [b] w w' := by
  obtain ⟨D, h1, h0, h2⟩ := h
  obtain ⟨w', hr, ho, hg⟩ := h1.update (int_keyed Tryd.underlying3) Tryd.underlying110 (by simp only [maxLen]; omega) (keyOf_int_mk Tryd.underlying3 hk.wf) (plainElem_int Tryd.underlying3 hv.wf)
  have ht : Tidy D := h1.tidy (int_keyed Tryd.underlying3)
  have hs : Maps.size (D.put (.int .i64 k) (.lit (.int .i64 v))) = if (f k).isSome then n else n + 1 := by
    rw [size_put ht, (h2 k hk).1, h0]
  refine ⟨w', hr, ⟨_, ?_, hs, fun x hx => ?_⟩, Only.of_grown hg (by simp)⟩
  · rw [← hs]
    obtain ⟨es, clock, q1, q2, q3, q4⟩ := ho
    refine ⟨es, clock, q1, q2, ?_, q4⟩
    rw [q4]
    simp [Maps.size, length_sorted]
  · show _ = (if x = k then some v else f x).isSome ∧ _ = DataW.lit (Lit.int .i64 ((if x = k then some v else f x).getD 0))
    by_cases e : x = k
    · subst e
      have hD := h1.isMap
      rw [if_pos rfl]
      exact ⟨by rw [has_put_same hD (by trivial)]; rfl, by rw [atKey_put_same hD (by trivial)]; rfl⟩
    · rw [if_neg e]
      have hne : Lit.int .i64 x ≠ Lit.int .i64 k := fun h => e (by injection h)
      exact ⟨by rw [has_put_other hne]; exact (h2 x hx).1, by rw [atKey_put_other hne]; exact (h2 x hx).2⟩
end
end Go.Proofs.YtigpnopeacicpaaDoor

/-
  walk.Uses: how often each is used.
-/
namespace Go.Proofs.YtigpnopeacicpaaDoor
open Go.RowKit
attribute [local go_sem] run_store_float

/-- How often y is an operand of those in P. -/
def cnt (ns : List Nd) (P : List Int) (y : Int) : Nat := (P.flatMap fun x => kids (nodeAt ns x)).count y

end Go.Proofs.YtigpnopeacicpaaDoor

/-
  walk.Depth: how deep a number is.
-/
namespace Go.Proofs.YtigpnopeacicpaaDoor
open Go.RowKit
attribute [local go_sem] run_store_float

/-- The map of depths: those of the ids of P, and c that of x. -/
def DepC (w : World) (m nn : Nat) (ns : List Nd) (P : List Int) (x c : Int) : Prop :=
  ∃ n' f, n' ≤ nn ∧ MapI w m n' f ∧ (f x).getD 0 = c ∧ ∀ y, y ≠ x → (f y).getD 0 = if y ∈ P then dep ns y else 0

def DepAt (w : World) (m nn : Nat) (ns : List Nd) (P : List Int) : Prop :=
  ∃ n' f, n' ≤ nn ∧ MapI w m n' f ∧ ∀ y, (f y).getD 0 = if y ∈ P then dep ns y else 0

section
variable {w w' : World} {m nn : Nat} {ns : List Nd} {P P' : List Int} {x c y : Int}

theorem DepC.done (h : DepC w m nn ns P x (dep ns x)) (hP : ∀ y, y ∈ P' ↔ y ∈ P ∨ y = x) {n2 : Nat} (hn : nn ≤ n2) : DepAt w m n2 ns P' := by
  obtain ⟨n', f, h1, h2, h3, h4⟩ := h
  refine ⟨n', f, by omega, h2, fun y => ?_⟩
  by_cases e : y = x
  · subst e
    rw [h3, if_pos ((hP y).2 (.inr rfl))]
  · rw [h4 y e]
    by_cases hy : y ∈ P
    · rw [if_pos hy, if_pos ((hP y).2 (.inl hy))]
    · rw [if_neg hy, if_neg (fun h => ((hP y).1 h).elim hy e)]

theorem DepC.lt (h : DepC w m nn ns P x c) : m < w.heap.size := by
  obtain ⟨n', f, h1, h2, h3⟩ := h
  exact h2.lt

theorem DepC.only (h : DepC w m nn ns P x c) (ho : Only [] w w') : DepC w' m nn ns P x c := by
  obtain ⟨n', f, h1, h2, h3⟩ := h
  exact ⟨n', f, h1, h2.only ho (by simp), h3⟩

end

end Go.Proofs.YtigpnopeacicpaaDoor

/-
  The laws on what numbers are made of: Load, alive.
-/
namespace Go.Proofs.YtigpnopeacicpaaDoor
open Go.RowKit
attribute [local go_sem] run_store_float

/-- Each node is made of the one before it. -/
structure Chain (ns : List Nd) : Prop where
  zero : kids (nodeAt ns 0) = []
  succ : ∀ i : Nat, i + 1 < ns.length → kids (nodeAt ns ((i + 1 : Nat) : Int)) = [(i : Int)] ∨ kids (nodeAt ns ((i + 1 : Nat) : Int)) = [(i : Int), (i : Int)]

theorem Chain.dep {ns : List Nd} (ok : OkDag ns) (h : Chain ns) : ∀ i : Nat, i < ns.length → dep ns (i : Int) = i
  | 0, hi => by
    rw [dep_eq ok (by omega) (by omega), show ((0 : Nat) : Int) = 0 from rfl, h.zero]
    rfl
  | i + 1, hi => by
    have ih := h.dep ok i (by omega)
    rw [dep_eq ok (by omega) (by omega)]
    rcases h.succ i hi with h2 | h2 <;> rw [h2] <;> simp [ih] <;> omega

end Go.Proofs.YtigpnopeacicpaaDoor

/-
  compasslaw10.Tree: nodes of any kinds, made right.
-/
namespace Go.Proofs.YtigpnopeacicpaaDoor
open Go.RowKit
attribute [local go_sem] run_store_float

theorem emod_of (x m : Int) : (x.tmod m + m) % m = x % m := by
  rw [Int.add_emod_right, Int.tmod_def, Int.sub_mul_emod_self_left]
theorem tmod_bd (x m : Int) (hm : 0 < m) : -m < x.tmod m ∧ x.tmod m < m := ⟨Int.lt_tmod_of_pos x hm, Int.tmod_lt_of_pos x hm⟩

def treeN (kinds refs : List Int) (i : Nat) : Nd :=
  if i = 0 ∨ (kinds[i]?.getD 0) % 6 = 0 then ndOne
  else ⟨(kinds[i]?.getD 0) % 6, 0, if 2 * i < refs.length then (refs[2 * i]?.getD 0) % (i : Int) else 0, if 2 * i + 1 < refs.length ∧ (kinds[i]?.getD 0) % 6 ≠ 5 then (refs[2 * i + 1]?.getD 0) % (i : Int) else 0⟩
def treeL (kinds refs : List Int) (k : Nat) : List Nd := (List.range k).map (treeN kinds refs)
theorem treeL_succ (kinds refs : List Int) (k : Nat) : treeL kinds refs (k + 1) = treeL kinds refs k ++ [treeN kinds refs k] := by simp [treeL, List.range_succ]
theorem treeL_len (kinds refs : List Int) (k : Nat) : (treeL kinds refs k).length = k := by simp [treeL]
theorem treeN_bits (kinds refs : List Int) (i : Nat) : (treeN kinds refs i).f < 2 ^ 64 := by
  unfold treeN
  split
  · decide
  · simp
theorem treeN_takes (kinds refs : List Int) (i : Nat) (hi : i ≤ 65535) : takesB i (treeN kinds refs i).k (treeN kinds refs i).f (treeN kinds refs i).a (treeN kinds refs i).b = true := by
  unfold treeN
  split
  · exact takes_one i
  · rename_i h
    have h0 : i ≠ 0 := fun e => h (.inl e)
    have h6 : (kinds[i]?.getD 0) % 6 ≠ 0 := fun e => h (.inr e)
    have b1 := Int.emod_nonneg (kinds[i]?.getD 0) (b := 6) (by omega)
    have b2 := Int.emod_lt_of_pos (kinds[i]?.getD 0) (b := 6) (by omega)
    have c1 := Int.emod_nonneg (refs[2 * i]?.getD 0) (b := (i : Int)) (by omega)
    have c2 := Int.emod_lt_of_pos (refs[2 * i]?.getD 0) (b := (i : Int)) (by omega)
    have d1 := Int.emod_nonneg (refs[2 * i + 1]?.getD 0) (b := (i : Int)) (by omega)
    have d2 := Int.emod_lt_of_pos (refs[2 * i + 1]?.getD 0) (b := (i : Int)) (by omega)
    have ha : 0 ≤ (if 2 * i < refs.length then (refs[2 * i]?.getD 0) % (i : Int) else 0) ∧ (if 2 * i < refs.length then (refs[2 * i]?.getD 0) % (i : Int) else 0) < i := by split <;> omega
    have hb : 0 ≤ (if 2 * i + 1 < refs.length ∧ (kinds[i]?.getD 0) % 6 ≠ 5 then (refs[2 * i + 1]?.getD 0) % (i : Int) else 0) ∧ (if 2 * i + 1 < refs.length ∧ (kinds[i]?.getD 0) % 6 ≠ 5 then (refs[2 * i + 1]?.getD 0) % (i : Int) else 0) < i ∧ ((kinds[i]?.getD 0) % 6 = 5 → (if 2 * i + 1 < refs.length ∧ (kinds[i]?.getD 0) % 6 ≠ 5 then (refs[2 * i + 1]?.getD 0) % (i : Int) else 0) = 0) := by
      split
      · rename_i h; exact ⟨by omega, by omega, fun e => absurd e h.2⟩
      · exact ⟨by omega, by omega, fun _ => rfl⟩
    generalize (if 2 * i < refs.length then (refs[2 * i]?.getD 0) % (i : Int) else 0) = a at ha
    generalize (if 2 * i + 1 < refs.length ∧ (kinds[i]?.getD 0) % 6 ≠ 5 then (refs[2 * i + 1]?.getD 0) % (i : Int) else 0) = b at hb
    generalize (kinds[i]?.getD 0) % 6 = x at h6 b1 b2 hb
    simp only [takesB, validB, hasB]
    by_cases h5 : x = 5
    · have := hb.2.2 h5
      subst this h5
      simp
      omega
    · simp [h6, h5]
      omega
theorem treeN_mid {kinds refs : List Int} {i : Nat} {x X a b : Int} (hx : kinds[i]?.getD 0 = x) (hX : x % 6 = X) (h0 : i ≠ 0) (h6 : X ≠ 0)
    (ha : a = if 2 * i < refs.length then (refs[2 * i]?.getD 0) % (i : Int) else 0) (hb : b = if 2 * i + 1 < refs.length ∧ X ≠ 5 then (refs[2 * i + 1]?.getD 0) % (i : Int) else 0) : (⟨X, 0, a, b⟩ : Nd) = treeN kinds refs i := by
  unfold treeN
  rw [hx, hX, if_neg (by omega), ha, hb]

/-- Where Tree's loop stands. -/
def TrRel (w0 : World) (kinds refs : List Int) (k : Nat) (u : Value) (wr : World) : Prop :=
  NodesAt wr u (treeL kinds refs k) ∧ (∀ g, u.ownBlock = some g → w0.heap.size ≤ g) ∧ Only [] w0 wr
theorem TrRel.push {w0 wr w1 w' : World} {kinds refs : List Int} {k : Nat} {u : Value} {g cap : Nat} (h : TrRel w0 kinds refs k u wr) (hW : Only [] wr w1) (n : Nd) (hn : n = treeN kinds refs k)
    (hown : w'.ownsRow 0 31 4 (.slice (some ⟨g, 0, none⟩) (k + 1) cap) (k + 1) (flat (treeL kinds refs k) ++ n.cells)) (hgr : w1.grownBy w' u.ownBlock) (hat : u.ownBlock = some g ∨ wr.heap.size ≤ g) : TrRel w0 kinds refs (k + 1) (.slice (some ⟨g, 0, none⟩) (k + 1) cap) w' := by
  subst hn
  obtain ⟨h1, h2, h3⟩ := h
  have ho : Only u.ownBlock.toList wr w' := (hW.mono (by simp)).trans (Only.of_grown (S := u.ownBlock.toList) hgr (by simp)) (fun k hk => .inl hk)
  refine ⟨?_, ?_, h3.trans ho (fun k hk => .inr (h2 k (by simpa using hk)))⟩
  · unfold NodesAt
    rw [treeL_succ, flat_snoc, List.length_append, treeL_len]
    exact hown
  · intro q hq
    have e : g = q := by simpa [Value.ownBlock] using hq
    subst e
    rcases hat with e | e
    · exact h2 g e
    · have := h3.size
      omega

theorem news4_two (w : World) (o : Obj) (x0 x1 x2 x3 : Value) (t : TypeId) : ∀ j u, [x0, x1, x2, x3][j]? = some u → ((w.alloc o).alloc (.cells #[x0, x1, x2, x3] t)).cell? ((⟨w.heap.size + 1, 0, none⟩ : Addr).add j) = some u := by
  have h := heap_alloc_new (w.alloc o) (.cells #[x0, x1, x2, x3] t)
  rw [World.size_alloc] at h
  exact news4 h

end Go.Proofs.YtigpnopeacicpaaDoor
