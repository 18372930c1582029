/-
  A region that draws its order, whose operations read and whose callees only make new memory: one walk in the order of the text (over the kit's wp_region_quiet, at the class 'w but for new blocks').
-/
import Derived.Test.YtigpnopeacicpaaDoorTaMem
namespace Go.Proofs.YtigpnopeacicpaaDoor
open Go.RowKit

/-- The worlds that are w but for new blocks and draws. -/
def Ext (w : World) : Type := { x : World // Only [] w x }
instance extNonempty (w : World) : Nonempty (Ext w) := ⟨⟨w, Only.refl [] w⟩⟩
def Ext.w {w : World} (g : Ext w) : World := g.1
theorem Ext.ho {w : World} (g : Ext w) : Only [] w g.w := g.2
theorem Ext.cell {w : World} {p : Addr} {v : Value} (h : w.cell? p = some v) (g : Ext w) : g.w.cell? p = some v := g.ho.cell h (by simp)

end Go.Proofs.YtigpnopeacicpaaDoor
