/-
  walk.Roots: how many roots.
-/
import Derived.Test.YtmjnifjohfljaaaTaBelowD
namespace Go.Proofs.Ytmjnifjohfljaaa
open Go.RowKit
attribute [local go_sem] run_store_float

/-- What is known of a list that Below tells. -/
structure Ids (ns : List Nd) (L : List Int) : Prop where
  mem : ∀ k, k < L.length → ∃ a : Nat, L[k]?.getD 0 = (a : Int) ∧ a < ns.length
  len : L.length ≤ ns.length

theorem belowL_ids {ns : List Nd} (ok : OkDag ns) (R : Int → Prop) : Ids ns (belowL ns R) := by
  constructor
  · intro k hk
    have hm : (belowL ns R)[k] ∈ belowL ns R := List.getElem_mem hk
    have hr := ((mem_belowL ok).1 hm).range ok
    refine ⟨((belowL ns R)[k]).toNat, ?_, by omega⟩
    rw [List.getElem?_eq_getElem hk]
    simp only [Option.getD_some]
    omega
  · unfold belowL
    rw [List.length_map]
    exact Nat.le_trans (List.length_filter_le _ _) (by simp)

/-- All that one is made of. -/
noncomputable def belowOf (ns : List Nd) (root : Int) : List Int := belowL ns (· ∈ [root])

end Go.Proofs.Ytmjnifjohfljaaa
