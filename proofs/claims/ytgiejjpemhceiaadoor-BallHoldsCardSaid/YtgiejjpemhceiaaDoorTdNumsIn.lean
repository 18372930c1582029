/-
  An argument that is an array of four numbers by value, opened.
-/
import Derived.Test.YtgiejjpemhceiaaDoorTdLimbsIn
import Derived.Lib.SmallJoins
import Derived.ChangeArms
import Derived.ProofKit
import Derived.OpenShut
import Derived.ShutString
import Derived.ChangeOld
import Derived.Below
import Derived.Deep.Slices
import Derived.Deep.Fields
import Derived.ChangeSame
namespace Go.Proofs.YtgiejjpemhceiaaDoor
open Go.ChangeShapes Go.WideShapes Go.ChangeAt Go.RowKit Go.Deep Go.Joins

theorem trod_array4c3 {H : Type} {enc : TypeId × Value → H} {P : Program} {w : World} {base : Nat} {spare : Nat → Bool} {held : Bool} {t e : TypeId} {fuel : Nat} {a0 a1 a2 b0 b1 b2 c0 c1 c2 d0 d1 d2 : Value} {x : DataW H × List MemPlace} (ht : P.underlying t = some (.array 4 e)) (hce : P.cellsOf e = 3)
    (h : DataW.trod enc P w base spare held fuel t [a0, a1, a2, b0, b1, b2, c0, c1, c2, d0, d1, d2] = some x) :
    ∃ y0 y1 y2 y3 n, x = (.agg [y0.1, y1.1, y2.1, y3.1], y0.2 ++ (y1.2 ++ (y2.2 ++ y3.2))) ∧ DataW.trod enc P w base spare held n e [a0, a1, a2] = some y0 ∧ DataW.trod enc P w base spare held n e [b0, b1, b2] = some y1 ∧ DataW.trod enc P w base spare held n e [c0, c1, c2] = some y2 ∧ DataW.trod enc P w base spare held n e [d0, d1, d2] = some y3 := by
  cases fuel with
  | zero => simp [DataW.trod] at h
  | succ n =>
    unfold DataW.trod at h
    rw [ht] at h
    have r4 : List.range 4 = [0, 1, 2, 3] := rfl
    simp [r4, hce] at h
    obtain ⟨_, h⟩ := h
    cases h0 : DataW.trod enc P w base spare held n e [a0, a1, a2] with
    | none => simp [h0] at h
    | some y0 =>
      cases h1 : DataW.trod enc P w base spare held n e [b0, b1, b2] with
      | none => simp [h0, h1] at h
      | some y1 =>
        cases h2 : DataW.trod enc P w base spare held n e [c0, c1, c2] with
        | none => simp [h0, h1, h2] at h
        | some y2 =>
          cases h3 : DataW.trod enc P w base spare held n e [d0, d1, d2] with
          | none => simp [h0, h1, h2, h3] at h
          | some y3 =>
            simp [h0, h1, h2, h3] at h
            exact ⟨y0, y1, y2, y3, n, h.symm, h0, h1, h2, h3⟩
def NumIn4 (w : World) (a : Option Addr) (L : List Nat) (c : Nat) (e : Int) : Prop := LimbsIn w a L ∧ L.length ≤ c ∧ c ≤ maxLen ∧ -9223372036854775808 ≤ e ∧ e ≤ 9223372036854775807
theorem trod_struct3_one {H : Type} {enc : TypeId × Value → H} {P : Program} {w : World} {base : Nat} {spare : Nat → Bool} {held : Bool} {t : TypeId} {f0 f1 f2 : Field} {fuel : Nat} {c0 c1 c2 : Value} {x : DataW H × List MemPlace} (hs : P.underlying t = some (.struct #[f0, f1, f2])) (hone : oneCellFields P #[f0, f1, f2] = true)
    (hf : DataW.trod enc P w base spare held fuel t [c0, c1, c2] = some x) :
    ∃ y0 y1 y2 n, DataW.trod enc P w base spare held n f0.type [c0] = some y0 ∧ DataW.trod enc P w base spare held n f1.type [c1] = some y1 ∧ DataW.trod enc P w base spare held n f2.type [c2] = some y2 := by
  obtain ⟨y0, y1, y2, n, -, -, h0, h1, h2⟩ := trod_struct3 hs hf
  obtain ⟨o0, k0⟩ := hone_of hone 0 f0 rfl
  obtain ⟨o1, k1⟩ := hone_of hone 1 f1 rfl
  obtain ⟨o2, k2⟩ := hone_of hone 2 f2 rfl
  exact ⟨y0, y1, y2, n, by simpa [o0, k0] using h0, by simpa [o1, k1] using h1, by simpa [o2, k2] using h2⟩
set_option maxRecDepth 100000 in
theorem num_trod {H : Type} {enc : TypeId × Value → H} {w : World} {base : Nat} {spare : Nat → Bool} {held : Bool} {fuel : Nat} {c0 c1 c2 : Value} {y : DataW H × List MemPlace} (h : DataW.trod enc Tryd.prog w base spare held fuel 48 [c0, c1, c2] = some y) :
    ∃ n a L c e, c0 = .bool n ∧ c1 = .slice a (List.length L) c ∧ c2 = .int .i64 e ∧ NumIn4 w a L c e := by
  obtain ⟨y0, y1, y2, m, hy0, hy1, hy2⟩ := trod_struct3_one Tryd.underlying48 (by kernel_rfl) h
  obtain ⟨n, e0, -⟩ := DataW.trod_bool Tryd.underlying4 hy0
  obtain ⟨a, c, L, e1, g1, g2, hin⟩ := limbs_in Tryd.underlying28 hy1
  obtain ⟨z, e2, -, hwf⟩ := DataW.trod_int Tryd.underlying3 hy2
  simp only [List.cons.injEq, and_true] at e0 e1 e2
  have k1 : IntKind.i64.min = -9223372036854775808 := by kernel_rfl
  have k2 : IntKind.i64.max = 9223372036854775807 := by kernel_rfl
  simp only [Lit.wf, k1, k2, Bool.and_eq_true, decide_eq_true_eq] at hwf
  exact ⟨n, a, L, c, z, e0, e1, e2, hin, g1, g2, hwf.1, hwf.2⟩
theorem array_twelve {α : Type} {cs : Array α} (h : cs.size = 12) : ∃ a b c d e f g i j k l m, cs = #[a, b, c, d, e, f, g, i, j, k, l, m] := by
  obtain ⟨l⟩ := cs
  rcases l with _ | ⟨a, _ | ⟨b, _ | ⟨c, _ | ⟨d, _ | ⟨e, _ | ⟨f, _ | ⟨g, _ | ⟨i, _ | ⟨j, _ | ⟨k, _ | ⟨l, _ | ⟨m, _ | ⟨n, t⟩⟩⟩⟩⟩⟩⟩⟩⟩⟩⟩⟩⟩ <;> simp at h
  exact ⟨_, _, _, _, _, _, _, _, _, _, _, _, rfl⟩
set_option maxRecDepth 100000 in
theorem nums4_in {H : Type} {enc : TypeId × Value → H} {w : World} {base : Nat} {spare : Nat → Bool} {held : Bool} {r : Reach} {b0 : Nat} {v : Value} {d : DataW H} {p : List MemPlace} (hv : Value.okWide Tryd.prog w r b0 58 v) (h : DataW.Trod enc Tryd.prog w base spare held 58 v d p) :
    ∃ n0 a0 L0 c0 e0 n1 a1 L1 c1 e1 n2 a2 L2 c2 e2 n3 a3 L3 c3 e3, v = .agg #[.bool n0, .slice a0 (List.length L0) c0, .int .i64 e0, .bool n1, .slice a1 (List.length L1) c1, .int .i64 e1, .bool n2, .slice a2 (List.length L2) c2, .int .i64 e2, .bool n3, .slice a3 (List.length L3) c3, .int .i64 e3] ∧
      NumIn4 w a0 L0 c0 e0 ∧ NumIn4 w a1 L1 c1 e1 ∧ NumIn4 w a2 L2 c2 e2 ∧ NumIn4 w a3 L3 c3 e3 := by
  obtain ⟨cs, rfl, hsz, _⟩ : ∃ cs, v = .agg cs ∧ cs.size = Tryd.prog.cellsOf 58 ∧ Row.okWide Tryd.prog w r b0 58 cs := by simpa [Value.okWide, Tryd.underlying58] using hv
  rw [show Tryd.prog.cellsOf 58 = 12 by kernel_rfl] at hsz
  obtain ⟨x0, x1, x2, x3, x4, x5, x6, x7, x8, x9, x10, x11, rfl⟩ := array_twelve hsz
  obtain ⟨fuel, hf⟩ := h
  obtain ⟨y0, y1, y2, y3, m, -, hy0, hy1, hy2, hy3⟩ := trod_array4c3 Tryd.underlying58 (by kernel_rfl) hf
  obtain ⟨n0, a0, L0, c0, e0, q0, q1, q2, g0⟩ := num_trod hy0
  subst q0 q1 q2
  obtain ⟨n1, a1, L1, c1, e1, q0, q1, q2, g1⟩ := num_trod hy1
  subst q0 q1 q2
  obtain ⟨n2, a2, L2, c2, e2, q0, q1, q2, g2⟩ := num_trod hy2
  subst q0 q1 q2
  obtain ⟨n3, a3, L3, c3, e3, q0, q1, q2, g3⟩ := num_trod hy3
  subst q0 q1 q2
  exact ⟨n0, a0, L0, c0, e0, n1, a1, L1, c1, e1, n2, a2, L2, c2, e2, n3, a3, L3, c3, e3, rfl, g0, g1, g2, g3⟩
end Go.Proofs.YtgiejjpemhceiaaDoor
