/-
  A region that draws its order, whose operations read and whose callees only make new memory: one walk in the order of the text (over the kit's wp_region_quiet, at the class 'w but for new blocks').
-/
import Derived.Test.YtljeaomdcednlaaTaMem
namespace Go.Proofs.Ytljeaomdcednlaa
open Go.RowKit

/-- The worlds that are w but for new blocks and draws. -/
def Ext (w : World) : Type := { x : World // Only [] w x }
instance extNonempty (w : World) : Nonempty (Ext w) := ⟨⟨w, Only.refl [] w⟩⟩
def Ext.w {w : World} (g : Ext w) : World := g.1
theorem Ext.ho {w : World} (g : Ext w) : Only [] w g.w := g.2
theorem Ext.cell {w : World} {p : Addr} {v : Value} (h : w.cell? p = some v) (g : Ext w) : g.w.cell? p = some v := g.ho.cell h (by simp)

theorem wp_region_ext {P : Program} {id : Nat} {Q : Exit → Act → World → Prop} {a : Act} {w : World} {l : List Oper} (hm : P.follows .mixedOrders = true) (hB : Region.lexB .any l.toArray = true)
    (h : wpQuiet P l.toArray (fun w' => ∃ g : Ext w, w' = g.w) (fun a' => ∀ w', (∃ g : Ext w, w' = g.w) → Q .normal a' w') l a) : (Code.region id l.toArray true).wp P Q a w :=
  wp_region_quiet (C := fun w' => ∃ g : Ext w, w' = g.w) hm hB ⟨⟨w.drew, (Only.refl [] w).drew⟩, rfl⟩ (by simpa using h)

/-- A contract whose callee only makes new memory, met in such a region. -/
theorem ext_of {P : Program} {f : FuncId} {args : Array Value} {w : World} {g : Ext w} {v : Value} (h : Calls P f args g.w fun e w' => e = .returned v ∧ Only [] g.w w') :
    Calls P f args g.w fun e w'' => e = .returned v ∧ ∃ g' : Ext w, w'' = g'.w :=
  h.mono fun _ w'' ⟨he, ho⟩ => ⟨he, ⟨w'', g.ho.nil_trans ho⟩, rfl⟩
end Go.Proofs.Ytljeaomdcednlaa
