/-
  DagMakes: the law's walk.
-/
import Derived.Test.YtkiongpfpjfaaaaMakes
import Derived.Deep.DeepCutAuto
namespace Go.Proofs.Ytkiongpfpjfaaaa
open Go.RowKit

def leafs (L : List Nat) : List Nd := L.map fun f => ⟨0, f, 0, 0⟩
def mk (L : List Nat) : List Nd := puts none (leafs L)
theorem mk_snoc (L : List Nat) (x : Nat) : mk (L ++ [x]) = putNs none (mk L) ⟨0, x, 0, 0⟩ := by simp [mk, leafs, puts_snoc]
theorem mk_le (L : List Nat) : (mk L).length ≤ L.length := by have := puts_le none (leafs L); simpa [mk, leafs] using this

def MRel (w1 : World) (d p : Nat) (L : List Nat) (k : Nat) (wr : World) : Prop := ∃ v u, Hid (Pair w1 wr d v (mk (L.take k)) p u (mk (L.take k)))

set_option maxRecDepth 100000 in
set_option maxHeartbeats 1600000 in
theorem makes_out (A B : Option Addr) (n c m c' : Nat) (x : Int) (w : World) (hn : 20 < n ∨ (¬ 20 < n ∧ 12 < m)) :
    Calls Try.prog 6 #[.slice A n c, .int .i64 x, .slice B m c'] w fun e w' => e = .returned (.bool true) ∧ Only [] w w' := by
  rcases hn with hn | ⟨hn, hm⟩
  · have h1 : (20 : Int) < (n : Int) := by omega
    clear hn
    go_enter Try.func6, Try.ntmps6
    go_wp2_with (go_at_call 7; (with_reducible refine (alive_any _).mono ?_); rintro e w1 ⟨rfl, ho1⟩)
    go_ret
    exact ⟨rfl, ho1⟩
  · have h1 : ¬ (20 : Int) < (n : Int) := by omega
    have h2 : (12 : Int) < (m : Int) := by omega
    clear hn hm
    go_enter Try.func6, Try.ntmps6
    go_wp2_with (go_at_call 7; (with_reducible refine (alive_any _).mono ?_); rintro e w1 ⟨rfl, ho1⟩)
    go_ret
    exact ⟨rfl, ho1⟩

theorem foldS_le (kind : Int) (l : List Int) (ns : List Nd) : (foldS none kind ns l).1.length ≤ ns.length + l.length := by
  cases l with
  | nil => simp [foldS]
  | cons x xs =>
    simp only [foldS]
    split
    · have := foldRun_le none kind xs ns x
      simp only [List.length_cons]
      omega
    · simp

/-- What the law puts of the int. -/
def wNs (ns : List Nd) (x : Int) : List Nd := if inR x then putNs none ns ⟨0, floatOfInt .f64 x, 0, 0⟩ else ns
def wId (ns : List Nd) (x : Int) : Int := if inR x then putId none ns ⟨0, floatOfInt .f64 x, 0, 0⟩ else -1
theorem wNs_le (ns : List Nd) (x : Int) : (wNs ns x).length ≤ ns.length + 1 := by
  unfold wNs
  split
  · exact putNs_le _ _ _
  · omega
theorem int_dp {w0 w : World} {d p : Nat} {v u : Value} {ns ms : List Nd} {x : Int} (h : Pair w0 w d v ns p u ms) (hl : Hid (ns.length < 20000)) :
    Calls Try.prog 23 #[.pointer (some ⟨d, 0, none⟩), .int .i64 x] w (DP w0 d p u ms (wId ns x) (wNs ns x)) := dp_of h (dint_any d v ns x w h.a.is hl)

end Go.Proofs.Ytkiongpfpjfaaaa
