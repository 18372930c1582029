/-
  code.Check: the first node that may not be there.
-/
import Derived.Test.YtmjnifjohfljaaaTaNodes
import Derived.Test.YtmjnifjohfljaaaTaExt
namespace Go.Proofs.Ytmjnifjohfljaaa
open Go.RowKit

/-- Does a node of a valid form stand behind i others? -/
def standsB (i : Int) (k : Int) (f : Nat) (a b : Int) : Bool := if k = 0 then finB f else if k = 5 then decide (a < i) else decide (a < i) && decide (b < i)

set_option maxHeartbeats 400000 in
theorem stands_any (k : Int) (f : Nat) (a b i : Int) (hf : Hid (f < 2 ^ 64)) (w : World) :
    Calls Try.prog 34 #[.agg #[.int .i64 k, .float .f64 f, .int .i64 a, .int .i64 b], .int .i64 i] w fun e w' => e = .returned (.bool (standsB i k f a b)) ∧ Only [] w w' := by
  go_enter Try.func34, Try.ntmps34
  go_wp2_with (go_at_call 14; (with_reducible refine (finite_any _ hf.out _).mono ?_); rintro e w' ⟨rfl, rfl⟩)
  all_goals go_ret
  all_goals (refine ⟨?_, ((Only.refl [] w).alloc _)⟩)
  all_goals (simp_all [standsB]; try omega)

theorem run_store_float (P : Program) (w : World) (a : Addr) (k : FloatKind) (n : Nat) (m : Mode) : (store a (.float k n) m).run P w = stored P w a (.float k n) m := run_store P w a _ m rfl
attribute [local go_sem] run_store_float

/-- A slice of nodes reads as L. -/
def NRead (w : World) (A : Option Addr) (L : List Nd) : Prop := ∀ k, k < L.length → ∃ b o, A = some ⟨b, o, none⟩ ∧ Cells4 w b (o + k * 4) (L[k]?.getD nd0)
theorem NRead.only {w w' : World} {A : Option Addr} {L : List Nd} (h : NRead w A L) (ho : Only [] w w') : NRead w' A L := fun k hk => by
  obtain ⟨b, o, h1, h2⟩ := h k hk
  exact ⟨b, o, h1, h2.only ho (by simp)⟩

theorem NodesAt.read {w : World} {A : Option Addr} {n c : Nat} {ns : List Nd} (h : NodesAt w (.slice A n c) ns) : n = ns.length ∧ NRead w A ns := by
  obtain ⟨A', c', e, _, _, hc⟩ := h.shape
  injection e with e1 e2 e3
  subst e1
  refine ⟨e2, fun k hk => ?_⟩
  obtain ⟨g, h1, h2⟩ := hc k hk
  exact ⟨g, 0, h1, by rw [Nat.zero_add]; exact h2⟩
theorem addr_add (b o j : Nat) : (⟨b, o, none⟩ : Addr).add j = ⟨b, o + j, none⟩ := by
  unfold Addr.add
  by_cases h : j = 0 <;> simp [h]
/-- A slice of ints reads as xs. -/
def IRead (w : World) (A : Option Addr) (xs : List Int) : Prop := ∀ k, k < xs.length → ∃ b o, A = some ⟨b, o, none⟩ ∧ w.cell? ⟨b, o + k, none⟩ = some (.int .i64 (xs[k]?.getD 0))
theorem IRead.only {w w' : World} {A : Option Addr} {xs : List Int} (h : IRead w A xs) (ho : Only [] w w') : IRead w' A xs := fun k hk => by
  obtain ⟨b, o, h1, h2⟩ := h k hk
  exact ⟨b, o, h1, ho.cell h2 (by simp)⟩

/-- May node j of L be where it is? -/
def okB (L : List Nd) (j : Nat) : Bool := takesB j (L[j]?.getD nd0).k (L[j]?.getD nd0).f (L[j]?.getD nd0).a (L[j]?.getD nd0).b
def AllOk (L : List Nd) : Prop := ∀ j, j < L.length → okB L j = true
def FirstBad (L : List Nd) (i : Nat) : Prop := i < L.length ∧ (∀ j, j < i → okB L j = true) ∧ okB L i = false
theorem takes_stands (j : Nat) (k : Int) (f : Nat) (a b : Int) : takesB j k f a b = (validB k f a b && standsB j k f a b) := by
  unfold takesB
  cases hv : validB k f a b
  · rfl
  · have hv' : (k = 0 ∨ 0 ≤ a ∧ 0 ≤ b) := by
      simp only [validB, decide_eq_true_eq] at hv
      omega
    simp only [Bool.true_and, standsB, hasB]
    by_cases h0 : k = 0
    · simp [h0]
    · simp only [h0, if_false]
      have h1 : 0 ≤ a ∧ 0 ≤ b := by omega
      by_cases h5 : k = 5
      · simp [h5, h1]
      · simp [h5, h1]

/-- The value that Check answers. -/
def CkPost (L : List Nd) (w : World) (e : Ending) (w' : World) : Prop :=
  ((AllOk L ∧ e = .returned .nilIface) ∨ ∃ i, FirstBad L i ∧ ∃ v, e = .returned v ∧ IsAt w w' (i : Int) (.iface 83 (.int .i64 1)) v) ∧ Only [] w w'

set_option maxHeartbeats 1600000 in
set_option maxRecDepth 100000 in
theorem ccheck_any (A : Option Addr) (c : Nat) (L : List Nd) (w : World) (hA : Hid (NRead w A L)) (hf : Hid (∀ k, k < L.length → (L[k]?.getD nd0).f < 2 ^ 64)) (hl : (L.length : Int) ≤ 1000) :
    Calls Try.prog 19 #[.slice A L.length c] w (CkPost L w) := by
  go_enter Try.func19, Try.ntmps19
  go_wp2_with fail
  go_loopw [11] (fun i wr => ∃ k : Nat, k ≤ L.length ∧ i = .int .i64 (k : Int) ∧ Only [] w wr ∧ (∀ j, j < k → okB L j = true)) (fun i _ => L.length - (intOf i).toNat)
  case atStart => exact ⟨0, Nat.zero_le _, rfl, Only.refl _ _, fun j hj => by omega⟩
  case round =>
    obtain ⟨k, hk, rfl, ho, hall⟩ := hrel
    have Ho := Lib.hid ho
    have Hall := Lib.hid hall
    clear ho hall
    by_cases hlt : k < L.length
    · obtain ⟨b, o, rfl, h1⟩ := hA.out k hlt
      obtain ⟨p0, p1, p2, p3⟩ := h1.only Ho.out (by simp)
      have hn := Lib.hid (hf.out k hlt)
      have hok : Hid (okB L k = (validB (L[k]?.getD nd0).k (L[k]?.getD nd0).f (L[k]?.getD nd0).a (L[k]?.getD nd0).b && standsB k (L[k]?.getD nd0).k (L[k]?.getD nd0).f (L[k]?.getD nd0).a (L[k]?.getD nd0).b)) := by show _ = _; exact takes_stands _ _ _ _ _
      clear h1
      generalize L[k]?.getD nd0 = n at p0 p1 p2 p3 hn hok
      obtain ⟨nk, nf, na, nb⟩ := n
      have hk' : (k : Int) < (L.length : Int) := by omega
      go_wp2_with fail
      refine (cvalid_any nk nf na nb _).mono ?_
      rintro e w1 ⟨rfl, ho1⟩
      have hB := (Blk.new wr 26 [.int .i64 nk, .float .f64 nf, .int .i64 na, .int .i64 nb])
      obtain ⟨q0, q1, q2, q3⟩ := box_cells hB ho1 (by simp)
      have Ho1 := Lib.hid ((Ho.out.alloc (.cells #[.int .i64 nk, .float .f64 nf, .int .i64 na, .int .i64 nb] 26)).nil_trans ho1)
      clear ho1 hB
      cases hv : validB nk nf na nb
      · have hok' : Hid (okB L k = false) := by show _ = _; rw [hok.out, hv]; rfl
        clear hok
        go_wp2_with fail
        (with_reducible refine (malformed_any _).mono ?_)
        rintro e w' ⟨rfl, rfl⟩
        go_wp2_with fail
        (with_reducible refine (node_any _ _ _ _).mono ?_)
        rintro e w2 ⟨v, rfl, hv2, ho2⟩
        go_wp2_with fail
        go_ret
        exact ⟨.inr ⟨k, ⟨hlt, Hall.out, hok'.out⟩, v, rfl, hv2.old Ho1.out.size⟩, Ho1.out.nil_trans ho2⟩
      · cases hs : standsB (k : Int) nk nf na nb
        · have hok' : Hid (okB L k = false) := by show _ = _; rw [hok.out, hv, hs]; rfl
          clear hok
          go_wp2_with fail
          (with_reducible refine (stands_any _ _ _ _ _ hn _).mono ?_)
          rintro e w2 ⟨rfl, ho2⟩
          have Ho2 := Lib.hid (Ho1.out.nil_trans ho2)
          clear ho2
          go_wp2_with fail
          (with_reducible refine (malformed_any _).mono ?_)
          rintro e w' ⟨rfl, rfl⟩
          go_wp2_with fail
          (with_reducible refine (node_any _ _ _ _).mono ?_)
          rintro e w3 ⟨v, rfl, hv2, ho3⟩
          go_wp2_with fail
          go_ret
          exact ⟨.inr ⟨k, ⟨hlt, Hall.out, hok'.out⟩, v, rfl, hv2.old Ho2.out.size⟩, Ho2.out.nil_trans ho3⟩
        · have hok' : Hid (okB L k = true) := by show _ = _; rw [hok.out, hv, hs]; rfl
          clear hok
          go_wp2_with fail
          (with_reducible refine (stands_any _ _ _ _ _ hn _).mono ?_)
          rintro e w2 ⟨rfl, ho2⟩
          have Ho2 := Lib.hid (Ho1.out.nil_trans ho2)
          clear ho2
          go_wp2_with fail
          go_roundw
          case rel =>
            refine ⟨k + 1, by omega, by go_num, Ho2.out, fun j hj => ?_⟩
            by_cases e : j = k
            · rw [e]; exact hok'.out
            · exact Hall.out j (by omega)
          case measure => simp [intOf]; omega
    · have hnl : ¬ (k : Int) < (L.length : Int) := by omega
      go_wp2_with fail
      go_ret
      exact ⟨.inl ⟨fun j hj => Hall.out j (by omega), rfl⟩, Ho.out⟩
end Go.Proofs.Ytmjnifjohfljaaa
