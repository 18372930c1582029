/-
  GuessShared: the chain of doublings; the law's walk.
-/
import Derived.Test.YtmjnifjohfljaaaTaGsE
namespace Go.Proofs.Ytmjnifjohfljaaa
set_option linter.unusedSimpArgs false
open Go.RowKit
attribute [local go_sem] run_store_float

def chN (v : Nat) : Nat → Nd
  | 0 => ⟨0, v, 0, 0⟩
  | i + 1 => ⟨1, 0, i, i⟩
def chL (v k : Nat) : List Nd := (List.range k).map (chN v)
theorem chL_len (v k : Nat) : (chL v k).length = k := by simp [chL]
theorem chL_get (v k i : Nat) (h : i < k) : (chL v k)[i]?.getD nd0 = chN v i := by simp [chL, h]
theorem chL_snoc (v k : Nat) : chL v (k + 1) = chL v k ++ [chN v k] := by simp [chL, List.range_succ]
theorem chL_node (v k i : Nat) (h : i < k) : nodeAt (chL v k) (i : Int) = chN v i := by
  unfold nodeAt
  rw [Int.toNat_natCast]
  exact chL_get v k i h
theorem chL_ok {v k : Nat} (hk : k ≤ 901) (hf : finB v = true) : AllOk (chL v k) := by
  intro j hj
  rw [chL_len] at hj
  unfold okB
  rw [chL_get _ _ _ hj]
  cases j with
  | zero => simp [chN, takesB, validB, hf]
  | succ j =>
    have h1 : validB 1 0 (j : Int) (j : Int) = true := by
      simp [validB]
      omega
    have h2 : hasB (j + 1) (j : Int) = true := by
      simp [hasB]
      omega
    simp [chN, takesB, h1, h2]
theorem chL_below {v n : Nat} (hn : n ≤ 900) (hf : finB v = true) : belowOf (chL v (n + 1)) (n : Int) = idsN (n + 1) := by
  have ok := ok_dag (chL_ok (v := v) (k := n + 1) (by omega) hf)
  refine below_all ok (by rw [chL_len]; omega) fun i hi => ?_
  have h : ∀ j : Nat, j ≤ n → Reach (chL v (n + 1)) (· ∈ [(n : Int)]) ((n - j : Nat) : Int) := by
    intro j
    induction j with
    | zero => exact fun _ => .root _ (by simp) (by omega) (by rw [chL_len]; omega)
    | succ j ih =>
      intro hj
      refine .kid _ _ (ih (by omega)) ?_
      rw [chL_node _ _ _ (by omega), show n - j = (n - (j + 1)) + 1 by omega]
      simp [chN, kids]
  have := h (n - i) (by omega)
  rwa [show n - (n - i) = i by omega] at this
def gC (r : Nat) (x : Int) : Nat × Nat := (Fl.loW r x.toNat, Fl.hiW r x.toNat)
open Fl in
theorem gadd_dbl {r k : Nat} (h1 : 4602678819172646912 ≤ r) (h2 : r ≤ 4616189618054758400) (hk : k ≤ 899) (w : World) :
    Calls Try.prog 28 #[gpv (loW r k) (hiW r k), gpv (loW r k) (hiW r k)] w fun e w' => e = .returned (gpv (loW r (k + 1)) (hiW r (k + 1))) ∧ Only [] w w' := by
  obtain ⟨a1, a2, a3⟩ := ends_ok (k := k) h1 h2 (by omega)
  obtain ⟨b1, b2, b3⟩ := ends_ok (k := k + 1) h1 h2 (by omega)
  have hI := inf_val
  have hkn : kn (loW r k) (hiW r k) = true := kn_pos a2 (by omega)
  have hkn2 : kn (loW r (k + 1)) (hiW r (k + 1)) = true := kn_pos b2 (by omega)
  have e1 : stepW false false (loW r k + 4503599627370496) = loW r (k + 1) := by rw [step_down (by omega) (by omega), loW_next]
  have e2 : stepW true false (hiW r k + 4503599627370496) = hiW r (k + 1) := by rw [step_up (by omega) (by omega), hiW_next]
  have hA : ∀ w : World, Calls Try.prog 42 #[.float .f64 (loW r k + 4503599627370496), .float .f64 (hiW r k + 4503599627370496)] w fun e w' => e = .returned (.agg #[.float .f64 (loW r (k + 1)), .float .f64 (hiW r (k + 1))]) ∧ Only [] w w' := fun w => by
    have h := around_any false false (r1 := loW r k + 4503599627370496) (r2 := hiW r k + 4503599627370496) (by omega) (by omega) e1 e2 (by omega) (by omega) w
    rw [show arW (loW r (k + 1)) (hiW r (k + 1)) = (loW r (k + 1), hiW r (k + 1)) by unfold arW; rw [hkn2]; rfl] at h
    exact h
  have l1 : loW r k < 18446744073709551616 := by omega
  have l2 : hiW r k < 18446744073709551616 := by omega
  exact add_core _ _ _ _ _ _ _ _ (Lib.hid l1) (Lib.hid l2) (Lib.hid l1) (Lib.hid l2) (by rw [hkn]; rfl) (dbl_word a1 (by omega)) (dbl_word (by omega) (by omega)) hA w
theorem combC {v n : Nat} (h1 : 4602678819172646912 ≤ v) (h2 : v ≤ 4616189618054758400) (hn : n ≤ 900) (hf : finB v = true) : CombOk (chL v (n + 1)) (idsN (n + 1)) (gC v) := by
  refine comb_ids fun k hk W => ?_
  rw [chL_node _ _ _ (by omega)]
  cases k with
  | zero =>
    have e : gC v ((0 : Nat) : Int) = (v, v) := by simp [gC, Fl.loW, Fl.hiW]
    rw [e]
    exact comb_leaf v 0 0 _ _ _ _ _ _ (fun w => Fl.at_yes _ (Lib.hid (by omega)) hf w) W
  | succ k =>
    have hm : (k : Int) ∈ idsN (k + 1) := by unfold idsN; simp; exact ⟨k, by omega, rfl⟩
    have e : atG (gC v) (idsN (k + 1)) (k : Int) = (Fl.loW v k, Fl.hiW v k) := by unfold atG; rw [if_pos hm]; simp [gC]
    have e2 : gC v ((k + 1 : Nat) : Int) = (Fl.loW v (k + 1), Fl.hiW v (k + 1)) := by unfold gC; rw [Int.toNat_natCast]
    rw [e2]
    show Calls Try.prog 18 #[.agg #[.int .i64 1, .float .f64 0, .int .i64 (k : Int), .int .i64 (k : Int)], gpv (atG (gC v) (idsN (k + 1)) (k : Int)).1 (atG (gC v) (idsN (k + 1)) (k : Int)).2, gpv (atG (gC v) (idsN (k + 1)) (k : Int)).1 (atG (gC v) (idsN (k + 1)) (k : Int)).2] W _
    rw [e]
    exact comb_add 0 k k _ _ _ _ _ _ (fun w => gadd_dbl h1 h2 (by omega) w) W

set_option maxHeartbeats 1600000 in
set_option maxRecDepth 100000 in
theorem gs_out (n : Int) (v : Nat) (w : World) (b5 b4 : Bool) (h5 : (FloatKind.f64.format.order v 4602678819172646912 == some .gt || FloatKind.f64.format.order v 4602678819172646912 == some .eq) = b5) (h4 : (FloatKind.f64.format.order v 4616189618054758400 == some .lt || FloatKind.f64.format.order v 4616189618054758400 == some .eq) = b4)
    (h : n < 0 ∨ (¬ n < 0 ∧ 900 < n) ∨ (¬ n < 0 ∧ ¬ 900 < n ∧ b5 = false) ∨ (¬ n < 0 ∧ ¬ 900 < n ∧ b5 = true ∧ b4 = false)) :
    Calls Try.prog 3 #[.int .i64 n, .float .f64 v] w fun e w' => e = .returned (.bool true) ∧ Only [] w w' := by
  rcases h with h | ⟨h, h1⟩ | ⟨h, h1, rfl⟩ | ⟨h, h1, rfl, rfl⟩
  all_goals
    go_enter Try.func3, Try.ntmps3
    go_wp2_with fail
    refine (alive12_any w).mono ?_
    rintro e w1 ⟨rfl, ho⟩
    have HO := Lib.hid ho
    clear ho
    go_wp2_with fail
    go_ret
    exact ⟨rfl, HO.out⟩

set_option maxRecDepth 100000 in
set_option maxRecDepth 100000 in
theorem eq_float (lo c : Nat) (w : World) : (Op.equalIn 9999 22 (.float .f64 lo) (.float .f64 c)).run Try.prog w = .ok (FloatKind.f64.format.order lo c == some .eq) w := by kernel_rfl
theorem ne_all {lo hi_ : Nat} (h : FloatKind.f64.format.order lo 18442240474082181120 = some .gt) (w : World) : (binOp .neq 30 (gpv lo hi_) (gpv 18442240474082181120 9218868437227405312)).run Try.prog w = .ok (.bool true) w := by
  have h1 := eq_float lo 18442240474082181120
  rw [h] at h1
  have h2 : ∀ w : World, (Op.equalIn 9999 22 (.float .f64 lo) (.float .f64 18442240474082181120)).run Try.prog w = .ok false w := fun w => h1 w
  simp [go_sem, h2]
/-- What the calls on the chain's dag tell. -/
theorem gs_calls {v k d : Nat} {vd : Value} {w4 : World} (hn : (k : Int) ≤ 900) (hv1 : Hid (4602678819172646912 ≤ v)) (hv2 : Hid (v ≤ 4616189618054758400)) (hf : Hid (finB v = true)) (HD : Hid (DagIs w4 d vd none (chL v (k + 1)))) :
    ∃ (lo hi_ : Nat) (f : Int → Option Value), (∀ W : World, Only [] w4 W → Calls Try.prog 6 #[.pointer (some ⟨d, 0, none⟩), .int .i64 (k : Int)] W fun e w' => e = .returned (gpv lo hi_) ∧ Only [] W w') ∧
      (∀ W : World, Only [] w4 W → Calls Try.prog 7 #[.pointer (some ⟨d, 0, none⟩), .int .i64 (k : Int)] W fun e w' => e = .returned (.tuple #[.int .i64 1, .bool true]) ∧ Only [] W w') ∧
      (∀ W : World, Only [] w4 W → Calls Try.prog 10 #[.pointer (some ⟨d, 0, none⟩), .int .i64 (k : Int)] W fun e w' => ∃ m, e = .returned (.map (some m)) ∧ MapV w' m (k + 1) f ∧ Only [] W w') ∧
      (∀ W : World, Calls Try.prog 8 #[gpv lo hi_] W fun e w' => e = .returned (.bool true) ∧ Only [] W w') ∧ FloatKind.f64.format.order lo 18442240474082181120 = some .gt := by
  have HOk := Lib.hid (ok_dag (chL_ok (v := v) (k := k + 1) (by omega) hf.out))
  have HBl := Lib.hid (chL_below (v := v) (n := k) (by omega) hf.out)
  have HCb : Hid (CombOk (chL v (k + 1)) (belowOf (chL v (k + 1)) (k : Int)) (gC v)) := by
    show CombOk _ _ _
    rw [HBl.out]
    exact combC hv1.out hv2.out (by omega) hf.out
  have HSm : Hid (∀ x : Nat, x < (chL v (k + 1)).length → Small (nodeAt (chL v (k + 1)) (x : Int)).a ∧ Small (nodeAt (chL v (k + 1)) (x : Int)).b) := fun x hx => by
    rw [chL_len] at hx
    rw [chL_node _ _ _ hx]
    unfold Small
    cases x with
    | zero => simp [chN]
    | succ x => simp only [chN]; omega
  have HIn : Hid ((k : Int) ∈ belowOf (chL v (k + 1)) (k : Int)) := by
    show _ ∈ _
    rw [HBl.out]
    unfold idsN
    simp
    exact ⟨k, by omega, rfl⟩
  have HNs : Hid ((chL v (k + 1)).length ≤ 20000) := by show _ ≤ _; rw [chL_len]; omega
  have hsk : Small (k : Int) := by unfold Small; omega
  have HSk := Lib.hid hsk
  obtain ⟨e1, e2, e3⟩ := Fl.ends_ok (k := k) hv1.out hv2.out (by omega)
  have hI := Fl.inf_val
  have hlo : Fl.loW v k < 18446744073709551616 := by omega
  have hhi : Fl.hiW v k < 18446744073709551616 := by omega
  have hkn2 : Fl.kn (Fl.loW v k) (Fl.hiW v k) = true := Fl.kn_pos e2 (by omega)
  have hgt : Fl.ord (Fl.loW v k) 0 = some .gt := by
    have h := Fl.ord_rung false false (r := Fl.loW v k) (s := 0) (by omega) (by omega)
    have hc : compare (sg false (Fl.loW v k)) (sg false 0) = .gt := Fl.compare_gt_iff.2 (by
      generalize Fl.loW v k = x at e1
      simp only [sg, Bool.false_eq_true, if_false]
      omega)
    rw [hc] at h
    exact h
  have hni : FloatKind.f64.format.order (Fl.loW v k) 18442240474082181120 = some .gt := by
    have h := Fl.ord_rung false true (r := Fl.loW v k) (s := Fl.INF) (by omega) (by omega)
    have hc : compare (sg false (Fl.loW v k)) (sg true Fl.INF) = .gt := Fl.compare_gt_iff.2 (by
      generalize Fl.loW v k = x
      simp only [sg, Bool.false_eq_true, if_false, if_true]
      omega)
    have hw : Fl.wordB true Fl.INF = 18442240474082181120 := by decide
    rw [hc, hw] at h
    exact h
  have egC : gC v (k : Int) = (Fl.loW v k, Fl.hiW v k) := by unfold gC; rw [Int.toNat_natCast]
  have HOf : Hid (∀ W : World, Only [] w4 W → Calls Try.prog 6 #[.pointer (some ⟨d, 0, none⟩), .int .i64 (k : Int)] W fun e w' => e = .returned (gpv (Fl.loW v k) (Fl.hiW v k)) ∧ Only [] W w') := fun W ho => by
    have h := gof_any d vd (chL v (k + 1)) (k : Int) W (HD.out.only ho (by simp)) HOk.out HNs.out (gC v) HSm HCb HIn.out HSk.out
    rw [egC] at h
    exact h
  have HSg : Hid (∀ W : World, Only [] w4 W → Calls Try.prog 7 #[.pointer (some ⟨d, 0, none⟩), .int .i64 (k : Int)] W fun e w' => e = .returned (.tuple #[.int .i64 1, .bool true]) ∧ Only [] W w') := fun W ho => by
    refine gsign_any d vd (chL v (k + 1)) (k : Int) W (HD.out.only ho (by simp)) HOk.out HNs.out (gC v) HSm HCb HIn.out HSk.out 1 true (by rw [egC]; exact hlo) (by rw [egC]; exact hhi) (by rw [egC]; exact hkn2) (by rw [egC, hgt]; rfl) (by rw [egC, hgt]; rfl)
  have HAl : Hid (∀ W : World, Only [] w4 W → Calls Try.prog 10 #[.pointer (some ⟨d, 0, none⟩), .int .i64 (k : Int)] W fun e w' => ∃ m, e = .returned (.map (some m)) ∧ MapV w' m (k + 1) (mapG (gC v) (belowOf (chL v (k + 1)) (k : Int))) ∧ Only [] W w') := fun W ho => by
    have h := gall_any d vd (chL v (k + 1)) (k : Int) W (HD.out.only ho (by simp)) HOk.out HNs.out (gC v) HSm HCb
    have e : (belowOf (chL v (k + 1)) (k : Int)).length = k + 1 := by rw [HBl.out]; simp [idsN]
    rw [e] at h
    exact h
  have HKn : Hid (∀ W : World, Calls Try.prog 8 #[gpv (Fl.loW v k) (Fl.hiW v k)] W fun e w' => e = .returned (.bool true) ∧ Only [] W w') := fun W => by
    have h := Fl.known_any _ _ hlo hhi W
    rw [hkn2] at h
    exact h
  exact ⟨_, _, _, HOf.out, HSg.out, HAl.out, HKn.out, hni⟩

set_option maxHeartbeats 3200000 in
set_option maxRecDepth 100000 in
theorem gs_in (n v : Nat) (w : World) (hn : (n : Int) ≤ 900) (h5 : (FloatKind.f64.format.order v 4602678819172646912 == some .gt || FloatKind.f64.format.order v 4602678819172646912 == some .eq) = true) (h4 : (FloatKind.f64.format.order v 4616189618054758400 == some .lt || FloatKind.f64.format.order v 4616189618054758400 == some .eq) = true)
    (hv1 : Hid (4602678819172646912 ≤ v)) (hv2 : Hid (v ≤ 4616189618054758400)) (hf : Hid (finB v = true)) :
    Calls Try.prog 3 #[.int .i64 (n : Int), .float .f64 v] w fun e w' => e = .returned (.bool true) ∧ Only [] w w' := by
  obtain ⟨i0, hi, hz0, hz1, hz2⟩ := info_parts Try.nodeInfo
  have hn0 : ¬ (n : Int) < 0 := by omega
  have hn9 : ¬ 900 < (n : Int) := by omega
  go_enter Try.func3, Try.ntmps3
  go_wp2_with fail
  refine (alive12_any w).mono ?_
  rintro e w1 ⟨rfl, ho⟩
  have HO1 := Lib.hid ho
  clear ho
  go_wp2_with (at_builtin; refine wpList_append_lies _ rfl _ _ _ rfl 0 26 i0 _ 4 32 Try.underlying24 hi hz0 hz1 hz2 rfl (by decide) (.slice none 0 0) 0 [] rfl (by exact World.ownsRow_nil _ _ _ _) ⟨w1.heap.size, 0, none⟩ 1 1 [.int .i64 0, .float .f64 v, .int .i64 0, .int .i64 0] rfl rfl (by exact news4 (heap_alloc_new w1 _)) (by simp [Value.oneCell']) (by decide) (by simp [maxLen]) (by omega) (Nat.zero_le _) (w1.heap.size + 1) (by simp) ?_; intro g cap w2 hown2 hgr2 hat2 hlt2)
  have HN2 : Hid (NodesAt w2 (.slice (some ⟨g, 0, none⟩) 1 cap) (chL v 1)) := hown2
  have HG2 : Hid (w1.heap.size ≤ g) := by
    rcases hat2 with h | h
    · simp [Value.ownBlock] at h
    · show _ ≤ _; omega
  have HO2 : Hid (Only [] w1 w2) := ((Only.refl [] w1).alloc (.cells #[.int .i64 0, .float .f64 v, .int .i64 0, .int .i64 0] 26)).nil_trans (Only.of_grown (S := []) hgr2 (by simp [Value.ownBlock]))
  clear hown2 hgr2 hat2 hlt2
  go_loopw [5, 6] (fun u i wr => ∃ k : Nat, k ≤ n ∧ i = .int .i64 (k : Int) ∧ NodesAt wr u (chL v (k + 1)) ∧ (∀ x, u.ownBlock = some x → w1.heap.size ≤ x) ∧ Only [] w1 wr) (fun _ i _ => n - (intOf i).toNat)
  case atStart => exact ⟨0, Nat.zero_le _, rfl, HN2.out, fun x hx => by
    have e : g = x := by simpa [Value.ownBlock] using hx
    have := HG2.out
    omega, HO2.out⟩
  case round =>
    obtain ⟨k, hk, rfl, hu, hg, ho⟩ := hrel
    have HU := Lib.hid hu
    have HGr := Lib.hid hg
    have HO := Lib.hid ho
    obtain ⟨A, c, rfl, -⟩ := hu.shape
    rw [chL_len]
    have HLn := Lib.hid (chL_len v (k + 1))
    rw [chL_len] at HU HGr
    clear hu hg ho HN2 HO2
    by_cases hkn : k < n
    · have hkn' : (k : Int) < (n : Int) := by omega
      go_wp2_with (at_builtin; refine wpList_append_lies _ rfl _ _ _ rfl 0 26 i0 _ 4 32 Try.underlying24 hi hz0 hz1 hz2 rfl (by decide) (.slice A (k + 1) c) (k + 1) (flat (chL v (k + 1))) rfl (by have h := HU.out.only ((Only.refl [] wr).alloc (.cells #[.int .i64 1, .float .f64 0, .int .i64 (k : Int), .int .i64 (k : Int)] 26)) (by simp); unfold NodesAt at h; rw [HLn.out] at h; exact h) ⟨wr.heap.size, 0, none⟩ 1 1 [.int .i64 1, .float .f64 0, .int .i64 (k : Int), .int .i64 (k : Int)] rfl rfl (by exact news4 (heap_alloc_new wr _)) (by simp [Value.oneCell']) (by decide) (by simp only [maxLen]; omega) (by omega) (Nat.zero_le _) (wr.heap.size + 1) (by simp) ?_; intro g' cap' w3 hown3 hgr3 hat3 hlt3)
      have ho3 : Only (Value.slice A (k + 1) c).ownBlock.toList wr w3 := ((Only.refl _ wr).alloc (.cells #[.int .i64 1, .float .f64 0, .int .i64 (k : Int), .int .i64 (k : Int)] 26)).trans (Only.of_grown (S := (Value.slice A (k + 1) c).ownBlock.toList) hgr3 (by simp)) (fun x hx => .inl hx)
      go_roundw
      case rel =>
        refine ⟨k + 1, by omega, by go_num, ?_, ?_, HO.out.trans ho3 (fun x hx => .inr (HGr.out x (by simpa using hx)))⟩
        · rw [chL_snoc]
          unfold NodesAt
          rw [List.length_append, HLn.out, flat_snoc]
          exact hown3
        · intro x hx
          have e : g' = x := by simpa [Value.ownBlock] using hx
          subst e
          rcases hat3 with h | h
          · exact HGr.out g' h
          · have := HO.out.size
            omega
      case measure => simp [intOf] <;> omega
    · have hnl : ¬ (k : Int) < (n : Int) := by omega
      obtain rfl : k = n := by omega
      have HNR : Hid (NRead wr A (chL v (k + 1))) := (NodesAt.read HU.out).2
      have HLd : Hid (Calls Try.prog 5 #[.slice A (k + 1) c] wr (L10 (chL v (k + 1)) wr)) := by
        have h := load10_any A c (chL v (k + 1)) wr HNR (fun j hj => by
          rw [chL_len] at hj
          rw [chL_get _ _ _ hj]
          cases j with
          | zero => show v < _; have := hv2.out; omega
          | succ j => show 0 < _; omega) (by rw [chL_len]; omega) (Lib.hid (chL_ok (by omega) hf.out))
        rw [chL_len] at h
        exact h
      go_wp2_with fail
      refine HLd.out.mono ?_
      rintro e w4 ⟨d, vd, rfl, hown⟩
      have HD := Lib.hid hown.is
      have HO4 := Lib.hid (HO.out.nil_trans hown.only)
      obtain ⟨lo, hi_, fm, q1, q2, q3, q4, q5⟩ := gs_calls hn hv1 hv2 hf HD
      have HOf := Lib.hid q1
      have HSg := Lib.hid q2
      have HAl := Lib.hid q3
      have HKn := Lib.hid q4
      have HNI := Lib.hid q5
      clear hown HLd HNR HO q1 q2 q3 q4 q5
      go_wp2_with fail
      refine (HOf.out w4 (Only.refl _ _)).mono ?_
      rintro e w5 ⟨rfl, ho⟩
      have HO5 := Lib.hid ho
      clear ho HOf
      go_upto_region 13 with fail
      have hbx : Blk (w5.alloc (.cells #[.float .f64 lo, .float .f64 hi_] 30)) w5.heap.size 30 [.float .f64 lo, .float .f64 hi_] := Blk.new w5 _ _
      have hoa : Only [] w5 (w5.alloc (.cells #[.float .f64 lo, .float .f64 hi_] 30)) := (Only.refl _ _).alloc _
      generalize w5.alloc (.cells #[.float .f64 lo, .float .f64 hi_] 30) = w6 at *
      generalize w5.heap.size = bx at *
      have HO6 := Lib.hid (HO5.out.nil_trans hoa)
      have HBx := Lib.hid hbx
      clear hbx hoa HO5
      go_wp2_with fail
      refine (HSg.out w6 HO6.out).mono ?_
      rintro e w7 ⟨rfl, ho⟩
      have HO7 := Lib.hid (HO6.out.nil_trans ho)
      have HB7 := Lib.hid (HBx.out.only ho (by simp))
      clear ho HSg HBx HO6
      have hne : ∀ w : World, (binOp .neq 30 (gpv lo hi_) (gpv 18442240474082181120 9218868437227405312)).run Try.prog w = .ok (.bool true) w := fun w => ne_all HNI.out w
      have hk1 : IntKind.i64.wrap ((k : Int) + 1) = (k : Int) + 1 := by rw [IntKind.wrap_i64]; omega
      have b0 := HB7.out.cell 0
      have b1 := HB7.out.cell 1
      simp only [List.getElem?_cons_zero, List.getElem?_cons_succ] at b0 b1
      go_upto_region 14 with fail
      go_region_with (first
        | (go_at_call 10; with_reducible refine (HAl.out _ (HO7.out.nil_trans Hx2.out)).mono ?_; rintro e x3 ⟨m, rfl, hM, ho3⟩; have hln := fun ty => hM.len Try.underlying35 ty; have Hx3 := Lib.hid (Hx2.out.nil_trans ho3); have d0 := Hx3.out.cell b0 (by simp); have d1 := Hx3.out.cell b1 (by simp); clear hM ho3)
        | (go_at_call 9; with_reducible refine (Fl.all_any _).mono ?_; rintro e x2 ⟨rfl, ho2⟩; have Hx2 := Lib.hid (Hx1.out.nil_trans ho2); have c0 := Hx2.out.cell b0 (by simp); have c1 := Hx2.out.cell b1 (by simp); clear ho2)
        | (go_at_call 8; with_reducible refine (HKn.out _).mono ?_; rintro e x1 ⟨rfl, ho1⟩; have Hx1 := Lib.hid ((Only.refl [] w7).drew.nil_trans ho1); have a0 := Hx1.out.cell b0 (by simp); have a1 := Hx1.out.cell b1 (by simp); clear ho1))
      all_goals go_wp2_with fail
      all_goals go_ret
      all_goals exact ⟨rfl, HO1.out.nil_trans (HO4.out.nil_trans (HO7.out.nil_trans Hx3.out))⟩

theorem guessShared_any (n : Int) (v : Nat) (w : World) (_ : (Lit.int .i64 n).wf = true) (hv : v < 18446744073709551616) : Calls Try.prog 3 #[.int .i64 n, .float .f64 v] w fun e w' => e = .returned (.bool true) ∧ Only [] w w' := by
  by_cases h0 : n < 0
  · exact gs_out n v w _ _ rfl rfl (.inl h0)
  · by_cases h9 : 900 < n
    · exact gs_out n v w _ _ rfl rfl (.inr (.inl ⟨h0, h9⟩))
    · cases h5 : (FloatKind.f64.format.order v 4602678819172646912 == some .gt || FloatKind.f64.format.order v 4602678819172646912 == some .eq) with
      | false => exact gs_out n v w _ _ h5 rfl (.inr (.inr (.inl ⟨h0, h9, rfl⟩)))
      | true =>
        cases h4 : (FloatKind.f64.format.order v 4616189618054758400 == some .lt || FloatKind.f64.format.order v 4616189618054758400 == some .eq) with
        | false => exact gs_out n v w _ _ h5 h4 (.inr (.inr (.inr ⟨h0, h9, rfl, rfl⟩)))
        | true =>
          obtain ⟨k, rfl⟩ : ∃ k : Nat, n = (k : Int) := ⟨n.toNat, by omega⟩
          obtain ⟨s, r, rfl, hr⟩ := Fl.word_split hv
          have hI := Fl.inf_val
          have hr2 : r ≤ Fl.INF := by
            apply Nat.le_of_not_lt
            intro hc
            have h := (Fl.ord_nan s hc (by omega) 4602678819172646912).1
            have h' : FloatKind.f64.format.order (Fl.wordB s r) 4602678819172646912 = none := h
            rw [h'] at h5
            exact absurd h5 (by decide)
          have o5 : FloatKind.f64.format.order (Fl.wordB s r) 4602678819172646912 = some (compare (sg s r) (sg false 4602678819172646912)) := Fl.ord_rung s false hr2 (by omega)
          have o4 : FloatKind.f64.format.order (Fl.wordB s r) 4616189618054758400 = some (compare (sg s r) (sg false 4616189618054758400)) := Fl.ord_rung s false hr2 (by omega)
          have h5' := h5
          have h4' := h4
          rw [o5, Fl.cmp_beq, Fl.cmp_beq, Bool.or_eq_true, decide_eq_true_iff, decide_eq_true_iff, Fl.compare_gt_iff, Fl.compare_eq_iff] at h5'
          rw [o4, Fl.cmp_beq, Fl.cmp_beq, Bool.or_eq_true, decide_eq_true_iff, decide_eq_true_iff, Fl.compare_lt_iff, Fl.compare_eq_iff] at h4'
          cases s with
          | true => simp [sg] at h5'; omega
          | false =>
            simp [sg] at h5' h4'
            have e : Fl.wordB false r = r := rfl
            rw [e] at h5 h4 ⊢
            have hfin : finB r = true := by
              have h := Fl.fin_word false (r := r) (by omega)
              rw [e] at h
              have h2 : Fl.finB r = true := by rw [h]; exact decide_eq_true (by omega)
              exact h2
            exact gs_in k r w (by omega) h5 h4 (Lib.hid (by omega)) (Lib.hid (by omega)) (Lib.hid hfin)
end Go.Proofs.Ytmjnifjohfljaaa
