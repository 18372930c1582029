/-
  Gaps by value at a door seat: Known, All, unknown, around.
-/
import Derived.Test.YtmjnifjohfljaaaTaFlA
namespace Go.Proofs.Ytmjnifjohfljaaa
set_option linter.unusedSimpArgs false
open Go.RowKit

theorem run_store_float (P : Program) (w : World) (a : Addr) (k : FloatKind) (n : Nat) (m : Mode) : (store a (.float k n) m).run P w = stored P w a (.float k n) m := run_store P w a _ m rfl
namespace Fl
attribute [local go_sem] run_store_float
abbrev ord (x y : Nat) : Option Ordering := FloatKind.f64.format.order x y
def leB (x y : Nat) : Bool := ord x y == some .lt || ord x y == some .eq
def kn (lo hi : Nat) : Bool := finB lo && finB hi && leB lo hi
set_option maxHeartbeats 400000 in
theorem known_any (lo hi : Nat) (hlo : lo < 18446744073709551616) (hhi : hi < 18446744073709551616) (w : World) :
    Calls Try.prog 8 #[.agg #[.float .f64 lo, .float .f64 hi]] w fun e w' => e = .returned (.bool (kn lo hi)) ∧ Only [] w w' := by
  have Hlo := Lib.hid hlo
  have Hhi := Lib.hid hhi
  have ho := (Only.refl [] w).alloc (.cells #[.float .f64 lo, .float .f64 hi] 30)
  cases h1 : finB lo <;> cases h2 : finB hi
  all_goals
    go_enter Try.func8, Try.ntmps8
    go_wp2_with (go_at_call 14; (with_reducible refine (finite_any _ (by first | exact Hlo.out | exact Hhi.out) _).mono ?_); rintro e w' ⟨rfl, rfl⟩)
    all_goals go_ret
    all_goals exact ⟨by simp [kn, leB, ord, h1, h2], ho⟩

theorem only_new (w : World) (cs : List Value) (t : TypeId) : Only [] w (w.alloc (.cells cs.toArray t)) := (Only.refl [] w).alloc _

set_option maxHeartbeats 400000 in
theorem all_any (w : World) : Calls Try.prog 9 #[] w fun e w' => e = .returned (.agg #[.float .f64 18442240474082181120, .float .f64 9218868437227405312]) ∧ Only [] w w' := by
  go_enter Try.func9, Try.ntmps9
  go_wp2_with (go_at_call 15; first | ((with_reducible refine (infn_any _ _ (Lib.hid rfl)).mono ?_); rintro e w' ⟨rfl, rfl⟩) | ((with_reducible refine (infp_any _ _ (Lib.hid rfl)).mono ?_); rintro e w' ⟨rfl, rfl⟩))
  refine bodyPost_ret (v := .agg #[.float .f64 18442240474082181120, .float .f64 9218868437227405312]) (by simp [results, Try.results9, go_sem]) rfl ⟨rfl, only_new w [_, _] _⟩

theorem two_new (w : World) (a b : List Value) (t t' : TypeId) : Blk ((w.alloc (.cells a.toArray t)).alloc (.cells b.toArray t')) w.heap.size t a ∧ Blk ((w.alloc (.cells a.toArray t)).alloc (.cells b.toArray t')) (w.heap.size + 1) t' b ∧ Only [] w ((w.alloc (.cells a.toArray t)).alloc (.cells b.toArray t')) := by
  have e : (w.alloc (.cells a.toArray t)).heap.size = w.heap.size + 1 := World.size_alloc w _
  have h := Blk.new (w.alloc (.cells a.toArray t)) t' b
  rw [e] at h
  exact ⟨(Blk.new w t a).alloc _, h, (only_new w a t).alloc _⟩

theorem unknown_any (lo hi lo2 hi2 : Nat) (hlo : Hid (lo < 18446744073709551616)) (hhi : Hid (hi < 18446744073709551616)) (hlo2 : Hid (lo2 < 18446744073709551616)) (hhi2 : Hid (hi2 < 18446744073709551616)) (w : World) :
    Calls Try.prog 41 #[.agg #[.float .f64 lo, .float .f64 hi], .agg #[.float .f64 lo2, .float .f64 hi2]] w fun e w' => e = .returned (.bool (!(kn lo hi && kn lo2 hi2))) ∧ Only [] w w' := by
  obtain ⟨hB1, hB2, ho'⟩ := two_new w [.float .f64 lo, .float .f64 hi] [.float .f64 lo2, .float .f64 hi2] 30 30
  have ho := Lib.hid ho'
  clear ho' hB1
  cases hk : kn lo hi
  · go_enter Try.func41, Try.ntmps41
    go_wp2_with fail
    (with_reducible refine (known_any lo hi hlo.out hhi.out _).mono ?_)
    rw [hk]
    rintro e w' ⟨rfl, ho1⟩
    go_wp2_with fail
    go_ret
    exact ⟨by simp, ho.out.nil_trans ho1⟩
  · cases hk2 : kn lo2 hi2
    all_goals
      go_enter Try.func41, Try.ntmps41
      go_wp2_with fail
      (with_reducible refine (known_any lo hi hlo.out hhi.out _).mono ?_)
      rw [hk]
      rintro e w' ⟨rfl, ho1⟩
      have hC := hB2.only ho1 (by simp)
      have c0 := hC.cell 0
      have c1 := hC.cell 1
      simp only [List.getElem?_cons_zero, List.getElem?_cons_succ] at c0 c1
      have Ho1 := Lib.hid ho1
      clear ho1
      go_wp2_with fail
      (with_reducible refine (known_any lo2 hi2 hlo2.out hhi2.out _).mono ?_)
      rw [hk2]
      rintro e w'' ⟨rfl, ho2⟩
      go_wp2_with fail
      go_ret
      exact ⟨by simp, ho.out.nil_trans (Ho1.out.nil_trans ho2)⟩
end Fl
end Go.Proofs.Ytmjnifjohfljaaa
