/-
  The reference's dyads at hand, as a list; boxes of two cells.
-/
import Derived.Test.YtkibkmdgibemkaaGreatDoorTbGB
import Derived.Test.YtkibkmdgibemkaaGreatDoorTbGRd
namespace Go.Proofs.YtkibkmdgibemkaaGreatDoor
set_option linter.unusedSimpArgs false
open Go.RowKit
structure RX where
  s : Bool
  a : Option Addr
  k : Nat
  c : Nat
  x : Dy
/-- Numbers of the reference's at hand. -/
def RL (w : World) (L : List RX) : Prop := ∀ (i : Nat) (y : RX), L[i]? = some y → Cr y.s y.k y.x.z ∧ RV w (.slice y.a y.k y.c) y.x.z.natAbs
theorem RL.nil (w : World) : RL w [] := fun i y h => by simp at h
theorem RL.cons {w : World} {L : List RX} (h : RL w L) {s : Bool} {A : Option Addr} {k c : Nat} {x : Dy} (hv : Hid (RV w (.slice A k c) x.z.natAbs)) (hc : Hid (Cr s k x.z)) : RL w (⟨s, A, k, c, x⟩ :: L) := fun i y hy => by
  rcases i with _ | i
  · obtain rfl := (Option.some.inj hy).symm; exact ⟨hc.out, hv.out⟩
  · exact h i y hy
theorem RL.step {w w' : World} {L : List RX} (h : RL w L) (ho : Only [] w w') : RL w' L := fun i y hy => ⟨(h i y hy).1, (h i y hy).2.only ho⟩
theorem RL.far {w w' : World} {L : List RX} (h : RL w L) {g : Nat} {t : TypeId} {cs : List Value} (ho : Only [g] w w') (hb : Blk w g t cs) (hn : NoLimb cs) : RL w' L := fun i y hy =>
  ⟨(h i y hy).1, (h i y hy).2.farS ho (fun g' hg' => by rw [List.mem_singleton] at hg'; subst hg'; exact (h i y hy).2.far_blk hb hn)⟩
theorem RL.rd {w : World} {L : List RX} (h : Hid (RL w L)) (i : Nat) {s : Bool} {A : Option Addr} {k c : Nat} {x : Dy} (hi : L[i]? = some ⟨s, A, k, c, x⟩) : Hid (RD w (.agg #[.bool s, .slice A k c, .int .i64 x.e]) x) :=
  ⟨s, A, k, c, rfl, (h.out i _ hi).1, (h.out i _ hi).2⟩
theorem GB.c2 {w0 w : World} {L : List EB} (h : Hid (GB w0 w L)) (i : Nat) {g : Nat} {t : TypeId} {a b : Value} (hi : L[i]? = some ⟨g, t, [a, b]⟩) :
    w.cell? ⟨g, 0, none⟩ = some a ∧ w.cell? ⟨g, 1, none⟩ = some b :=
  have hb := GB.blk h i hi
  ⟨hb.cell 0, hb.cell 1⟩
theorem wpList_store {P : Program} {w w' : World} {ops : Array Oper} {rest : List Oper} {o : Oper} {a : Act} {Q : Exit → Act → World → Prop} (T : TypeId) (d e : Operand) (hgd : o.guard = none) (hdst : o.dst = none) (ho : o.op = .store T d e) {u v : Value} (hp : a.eval d = u) (hv : a.eval e = v) (hst : (Instr.storeAt T u v).run P w = .ok () w') (h : wpList P ops Q rest a w') : wpList P ops Q (o :: rest) a w := by
  refine wpList_plain hgd fun K hK => ?_
  unfold Oper.wp execOp
  simp only [ho, hp, hv, Sem.run_bind, hst, Result.andThen_ok, Sem.run_pure, Oper.upon_skip, hdst]
  exact hK _ _ h
theorem store_dy {w : World} {g : Nat} {x0 x1 x2 : Value} (hb : Blk w g 59 [x0, x1, x2]) (s : Bool) (A : Option Addr) (k c : Nat) (e : Int) : (Instr.storeAt 59 (.pointer (some ⟨g, 0, none⟩)) (.agg #[.bool s, .slice A k c, .int .i64 e])).run Tryz.prog w = .ok () (((w.setCell ⟨g, 0, none⟩ (.bool s)).setCell ⟨g, 1, none⟩ (.slice A k c)).setCell ⟨g, 2, none⟩ (.int .i64 e)) := by
  have c0 := hb.cell 0
  have c1 := hb.cell 1
  have c2 := hb.cell 2
  have f0 := hb.frozen 0
  have f1 := hb.frozen 1
  have f2 := hb.frozen 2
  simp only [List.getElem?_cons_zero, List.getElem?_cons_succ] at c0 c1 c2
  clear hb
  go_simp
theorem store_rd {w : World} {g : Nat} {x0 x1 x2 : Value} (hb : Blk w g 62 [x0, x1, x2]) (s : Bool) (A : Option Addr) (k c : Nat) (e : Int) : (Instr.storeAt 62 (.pointer (some ⟨g, 0, none⟩)) (.agg #[.bool s, .slice A k c, .int .i64 e])).run Tryz.prog w = .ok () (((w.setCell ⟨g, 0, none⟩ (.bool s)).setCell ⟨g, 1, none⟩ (.slice A k c)).setCell ⟨g, 2, none⟩ (.int .i64 e)) := by
  have c0 := hb.cell 0
  have c1 := hb.cell 1
  have c2 := hb.cell 2
  have f0 := hb.frozen 0
  have f1 := hb.frozen 1
  have f2 := hb.frozen 2
  simp only [List.getElem?_cons_zero, List.getElem?_cons_succ] at c0 c1 c2
  clear hb
  go_simp
theorem withs_guardM {P : Program} {l : List Oper} {Ps : List VP} {w : World} {o : Oper} {p : VP} {js : List Nat} {a0 : Act} {g d : Nat} {want : Bool} (b : Bool) (hb : want = !b) (hg : o.guard = some (g, want)) (hd : dstOf l g = some d) (h : withs l Ps w (fun a => a.tmps[d]? = some (.bool b) ∧ p undef w) js a0) : withs l Ps w (fun a => growIf P l o a w p) js a0 :=
  withs_mono (fun _ hh => growIf_no hg hd hh.1 hb hh.2) js a0 h
end Go.Proofs.YtkibkmdgibemkaaGreatDoor
