/-
  guess.Of and Sign; the first call of compasslaw12.
-/
import Derived.Test.YtmjnifjohfljaaaTaGsC
namespace Go.Proofs.Ytmjnifjohfljaaa
set_option linter.unusedSimpArgs false
open Go.RowKit
attribute [local go_sem] run_store_float

theorem reach_leG {ns : List Nd} (ok : OkDag ns) {a x : Int} (hx : Reach ns (· ∈ [a]) x) : x ≤ a := by
  induction hx with
  | root x h _ _ => simp at h; omega
  | kid x c h hc ih =>
    have hr := h.range ok
    have := ok x hr.1 hr.2 c hc
    omega
theorem below_all {ns : List Nd} (ok : OkDag ns) {root : Nat} (hr : root < ns.length) (h : ∀ i : Nat, i ≤ root → Reach ns (· ∈ [(root : Int)]) (i : Int)) : belowOf ns (root : Int) = idsN (root + 1) := by
  unfold belowOf belowL idsN
  have e : List.range ns.length = List.range (root + 1) ++ (List.range (ns.length - (root + 1))).map fun x => root + 1 + x := by
    rw [← List.range_add]
    congr 1
    omega
  rw [e, List.filter_append, List.map_append]
  have h1 : (List.range (root + 1)).filter (fun (i : Nat) => @decide (Reach ns (· ∈ [(root : Int)]) (i : Int)) (Classical.propDecidable _)) = List.range (root + 1) := by
    rw [List.filter_eq_self]
    intro i hi
    rw [List.mem_range] at hi
    exact @decide_eq_true _ (Classical.propDecidable _) (h i (by omega))
  have h2 : ((List.range (ns.length - (root + 1))).map fun x => root + 1 + x).filter (fun (i : Nat) => @decide (Reach ns (· ∈ [(root : Int)]) (i : Int)) (Classical.propDecidable _)) = [] := by
    rw [List.filter_eq_nil_iff]
    intro x hx
    rw [List.mem_map] at hx
    obtain ⟨y, _, rfl⟩ := hx
    simp only [decide_eq_true_eq]
    intro h3
    have := reach_leG ok h3
    omega
  rw [h1, h2, List.map_nil, List.append_nil]

set_option maxHeartbeats 1600000 in
set_option maxRecDepth 100000 in
theorem gof_any (d : Nat) (v : Value) (ns : List Nd) (id : Int) (w : World) (hd : DagIs w d v none ns) (ok : OkDag ns) (hns : ns.length ≤ 20000) (g : Int → Nat × Nat) (hsm : Hid (∀ x : Nat, x < ns.length → Small (nodeAt ns (x : Int)).a ∧ Small (nodeAt ns (x : Int)).b))
    (HC : Hid (CombOk ns (belowOf ns id) g)) (hin : id ∈ belowOf ns id) (hid : Small id) :
    Calls Try.prog 6 #[.pointer (some ⟨d, 0, none⟩), .int .i64 id] w fun e w' => e = .returned (gpv (g id).1 (g id).2) ∧ Only [] w w' := by
  have hm : ∀ L : List Int, id ∈ L → mapG g L id = some (gpv (g id).1 (g id).2) := fun L h => by unfold mapG; rw [if_pos h]
  have HM := Lib.hid (hm _ hin)
  have HS := Lib.hid hid
  have HAll : Hid (∀ W : World, Only [] w W → Calls Try.prog 10 #[.pointer (some ⟨d, 0, none⟩), .int .i64 id] W fun e w' => ∃ m, e = .returned (.map (some m)) ∧ MapV w' m (belowOf ns id).length (mapG g (belowOf ns id)) ∧ Only [] W w') := fun W ho => gall_any d v ns id W (hd.only ho (by simp)) ok hns g hsm HC
  generalize hgg : g id = gg at HM ⊢
  obtain ⟨lo, hi⟩ := gg
  simp only at HM ⊢
  have HO0 : Hid (Only [] w (w.alloc (.cells #[.float .f64 0, .float .f64 0] 30))) := (Only.refl _ _).alloc _
  have HB0 := Lib.hid (Blk.new w 30 [.float .f64 0, .float .f64 0])
  clear hgg hd hm hin hid
  go_enter Try.func6, Try.ntmps6
  go_wp2_with (go_at_call 10; (with_reducible refine (HAll.out _ HO0.out).mono ?_); rintro e w1 ⟨m, rfl, hM, ho⟩; have hlk := hM.look_ok Try.underlying35 (zeroGap w1) HS.out; rw [HM.out] at hlk; simp only [Option.getD_some, Option.isSome_some] at hlk; have HB1 := Lib.hid (HB0.out.only ho (by simp)); have HO1 := Lib.hid (HO0.out.nil_trans ho); have hb2 := (HB1.out.alloc (.cells #[.float .f64 lo, .float .f64 hi] 30)); have d0 := hb2.cell 0; have d1 := hb2.cell 1; have f0 := hb2.frozen 0; have f1 := hb2.frozen 1; have hb3 := Blk.new w1 30 [.float .f64 lo, .float .f64 hi]; have c0 := hb3.cell 0; have c1 := hb3.cell 1; simp only [List.getElem?_cons_zero, List.getElem?_cons_succ] at c0 c1 d0 d1; clear hM ho)
  refine bodyPost_ret (v := .agg #[.float .f64 lo, .float .f64 hi]) (by simp [results, Try.results6, go_sem, d0, d1]) rfl ⟨rfl, ?_⟩
  exact ((HO1.out.alloc _).setCell (.inr (Nat.le_refl _)) _).setCell (.inr (Nat.le_refl _)) _

set_option maxHeartbeats 1600000 in
theorem gsign_any (d : Nat) (v : Value) (ns : List Nd) (id : Int) (w : World) (hd : DagIs w d v none ns) (ok : OkDag ns) (hns : ns.length ≤ 20000) (g : Int → Nat × Nat) (hsm : Hid (∀ x : Nat, x < ns.length → Small (nodeAt ns (x : Int)).a ∧ Small (nodeAt ns (x : Int)).b))
    (HC : Hid (CombOk ns (belowOf ns id) g)) (hin : id ∈ belowOf ns id) (hid : Small id) (s : Int) (k : Bool) (hl : (g id).1 < 18446744073709551616) (hh : (g id).2 < 18446744073709551616) (hk : Fl.kn (g id).1 (g id).2 = true)
    (h1 : (if Fl.ord (g id).1 0 = some .gt then (1 : Int) else if Fl.ord (g id).2 0 = some .lt then -1 else 0) = s) (h2 : (if Fl.ord (g id).1 0 = some .gt then true else if Fl.ord (g id).2 0 = some .lt then true else Fl.ord (g id).1 0 == some .eq && Fl.ord (g id).2 0 == some .eq) = k) :
    Calls Try.prog 7 #[.pointer (some ⟨d, 0, none⟩), .int .i64 id] w fun e w' => e = .returned (.tuple #[.int .i64 s, .bool k]) ∧ Only [] w w' := by
  have HOf := Lib.hid (gof_any d v ns id w hd ok hns g hsm HC hin hid)
  have HS : Hid (∀ W : World, Calls Try.prog 13 #[gpv (g id).1 (g id).2] W fun e w' => e = .returned (.tuple #[.int .i64 s, .bool k]) ∧ Only [] W w') := fun W => by
    have h := Fl.sign_any (g id).1 (g id).2 hl hh W hk
    rw [h1, h2] at h
    exact h
  clear hd ok hns hsm HC hin hid hl hh hk h1 h2
  generalize (g id).1 = lo at HOf HS
  generalize (g id).2 = hi at HOf HS
  go_enter Try.func7, Try.ntmps7
  go_wp2_with fail
  refine HOf.out.mono ?_
  rintro e w1 ⟨rfl, ho⟩
  have HO := Lib.hid ho
  clear ho
  go_wp2_with fail
  refine (HS.out _).mono ?_
  rintro e w2 ⟨rfl, ho⟩
  have HO2 := Lib.hid (HO.out.nil_trans ho)
  clear ho
  go_wp2_with fail
  go_returns
  exact ⟨rfl, HO2.out⟩
end Go.Proofs.Ytmjnifjohfljaaa
