/-
  Loads of boxes in a region in order, each by its own law.
-/
import Derived.Test.YtkibkmdgibemkaaGreatDoorTbGC
namespace Go.Proofs.YtkibkmdgibemkaaGreatDoor
set_option linter.unusedSimpArgs false
open Go.RowKit
theorem wpList_load {P : Program} {w : World} {ops : Array Oper} {rest : List Oper} {o : Oper} {ts : Array Value} {ds : List Deferred} {Q : Exit → Act → World → Prop} (T : TypeId) (e : Operand) (d : Tmp) (hgd : o.guard = none) (hdst : o.dst = some d) (ho : o.op = .load T e) {u v : Value} (hp : (⟨ts, ds⟩ : Act).eval e = u) (hl : (Instr.loadAt T u).run P w = .ok v w) (h : wpList P ops Q rest ⟨ts.setIfInBounds d v, ds⟩ w) : wpList P ops Q (o :: rest) ⟨ts, ds⟩ w := by
  refine wpList_plain hgd fun K hK => ?_
  unfold Oper.wp execOp
  simp only [ho, hp, Sem.run_bind, hl, Result.andThen_ok, Sem.run_pure, Oper.upon_value, hdst]
  exact hK _ _ h
theorem load_dy {w : World} {g : Nat} {s : Bool} {A : Option Addr} {k c : Nat} {e : Int} (c0 : w.cell? ⟨g, 0, none⟩ = some (.bool s)) (c1 : w.cell? ⟨g, 1, none⟩ = some (.slice A k c)) (c2 : w.cell? ⟨g, 2, none⟩ = some (.int .i64 e)) : (Instr.loadAt 59 (.pointer (some ⟨g, 0, none⟩))).run Tryz.prog w = .ok (.agg #[.bool s, .slice A k c, .int .i64 e]) w := by
  go_simp
end Go.Proofs.YtkibkmdgibemkaaGreatDoor
