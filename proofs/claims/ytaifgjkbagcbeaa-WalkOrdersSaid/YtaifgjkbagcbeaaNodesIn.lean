/-
  An argument that is a slice of nodes, opened.
-/
import Derived.Test.YtaifgjkbagcbeaaNodes
import Derived.Test.YtaifgjkbagcbeaaOwn
import Derived.ProofKit
import Derived.OpenShut
import Derived.ShutString
import Derived.ChangeOld
import Derived.Below
import Derived.Deep.Slices
import Derived.Deep.Fields
import Derived.ChangeSame
namespace Go.Proofs.Ytaifgjkbagcbeaa
open Go.ChangeShapes Go.WideShapes Go.ChangeAt Go.RowKit Go.Deep

section
variable {H : Type} {enc : TypeId × Value → H} {P : Program} {w : World} {base : Nat} {spare : Nat → Bool} {held : Bool}
theorem trod_float {k : FloatKind} {t : TypeId} {fuel : Nat} {cs : List Value} {x : DataW H × List MemPlace} (ht : P.underlying t = some (.float k)) (h : DataW.trod enc P w base spare held fuel t cs = some x) :
    ∃ b, cs = [.float k b] ∧ (Lit.float k b).wf = true := by
  cases fuel with
  | zero => simp [DataW.trod] at h
  | succ n =>
    unfold DataW.trod at h
    rw [ht] at h
    split at h <;> simp_all
end

theorem one_of {l : List Value} {i : Nat} {v : Value} (h : (l.drop i).take 1 = [v]) : l[i]? = some v := by
  cases hd : l.drop i with
  | nil => rw [hd] at h; simp at h
  | cons x r =>
    rw [hd] at h
    have hx : x = v := by simpa using h
    have : (l.drop i)[0]? = some x := by rw [hd]; rfl
    rw [List.getElem?_drop] at this
    simpa [hx] using this

set_option maxRecDepth 100000 in
theorem node_cells {H : Type} {enc : TypeId × Value → H} {w : World} {base : Nat} {spare : Nat → Bool} {held : Bool} {fuel : Nat} {cs : List Value} {x : DataW H × List MemPlace} (h : DataW.trod enc Try.prog w base spare held fuel 45 cs = some x) :
    ∃ n : Nd, cs = n.cells ∧ n.f < 2 ^ 64 := by
  obtain ⟨xs, n, rfl, _, hlen, hxl, hf⟩ := DataW.trod_struct Try.underlying45 h
  have hC : Try.prog.cellsOf 45 = 4 := by kernel_rfl
  have hI : Try.prog.cellsOf 3 = 1 := by kernel_rfl
  have hF : Try.prog.cellsOf 43 = 1 := by kernel_rfl
  have h0 : DataW.trod enc Try.prog w base spare held n 3 ((cs.drop 0).take (Try.prog.cellsOf 3)) = xs[0]? := hf 0 _ rfl
  have h1 : DataW.trod enc Try.prog w base spare held n 43 ((cs.drop 1).take (Try.prog.cellsOf 43)) = xs[1]? := hf 1 _ rfl
  have h2 : DataW.trod enc Try.prog w base spare held n 3 ((cs.drop 2).take (Try.prog.cellsOf 3)) = xs[2]? := hf 2 _ rfl
  have h3 : DataW.trod enc Try.prog w base spare held n 3 ((cs.drop 3).take (Try.prog.cellsOf 3)) = xs[3]? := hf 3 _ rfl
  have hx4 : xs.length = 4 := hxl
  simp only [hI, hF] at h0 h1 h2 h3
  rw [List.getElem?_eq_getElem (by omega)] at h0 h1 h2 h3
  obtain ⟨k, e0, _, _⟩ := DataW.trod_int Try.underlying3 h0
  obtain ⟨f, e1, hfw⟩ := trod_float Try.underlying43 h1
  obtain ⟨a, e2, _, _⟩ := DataW.trod_int Try.underlying3 h2
  obtain ⟨b, e3, _, _⟩ := DataW.trod_int Try.underlying3 h3
  have g0 := one_of e0
  have g1 := one_of e1
  have g2 := one_of e2
  have g3 := one_of e3
  refine ⟨⟨k, f, a, b⟩, ?_, by simpa [Lit.wf] using hfw⟩
  rw [hC] at hlen
  match cs, hlen with
  | [c0, c1, c2, c3], _ =>
    simp at g0 g1 g2 g3
    simp [Nd.cells, g0, g1, g2, g3]

theorem choose_list (R : Nat → Nd → Prop) : ∀ len : Nat, (∀ i, i < len → ∃ n, R i n) → ∃ L : List Nd, L.length = len ∧ ∀ i, i < len → R i (L[i]?.getD nd0)
  | 0, _ => ⟨[], rfl, fun i hi => by omega⟩
  | len + 1, key => by
    obtain ⟨L, hL, hall⟩ := choose_list R len (fun i hi => key i (by omega))
    obtain ⟨n, hn⟩ := key len (by omega)
    refine ⟨L ++ [n], by simp [hL], fun i hi => ?_⟩
    by_cases e : i = len
    · subst e
      have : (L ++ [n])[i]? = some n := by rw [List.getElem?_append_right (by omega), hL]; simp
      rw [this]
      exact hn
    · rw [List.getElem?_append_left (by omega)]
      exact hall i (by omega)

set_option maxRecDepth 100000 in
theorem nodes_in {H : Type} {enc : TypeId × Value → H} {w : World} {base : Nat} {spare : Nat → Bool} {held : Bool} {fuel : Nat} {cs : List Value} {x : DataW H × List MemPlace} (h : DataW.trod enc Try.prog w base spare held fuel 24 cs = some x) :
    ∃ A c L, cs = [.slice A (List.length L) c] ∧ NodesIn w A L := by
  rcases open_slice Try.underlying24 h with ⟨rfl, _⟩ | ⟨a, len, cap, m, n, D, Pl, rfl, _, hl, _, hm, _, hi⟩
  · exact ⟨none, 0, [], rfl, fun k hk => by simp at hk⟩
  · have hC : Try.prog.cellsOf 45 = 4 := by kernel_rfl
    have hlm : len ≤ m := by rw [hm]; split <;> omega
    have key : ∀ i, i < len → ∃ n : Nd, (∀ j, j < 4 → w.cell? ((a.add (i * 4)).add j) = n.cells[j]?) ∧ n.f < 2 ^ 64 := by
      intro i hil
      obtain ⟨cs', hc, ht⟩ := hi i (by omega)
      rw [hC] at hc
      obtain ⟨_, _, hat⟩ := World.cells?_some hc
      obtain ⟨n, rfl, hf⟩ := node_cells ht
      exact ⟨n, hat, hf⟩
    obtain ⟨L, hL, hall⟩ := choose_list (fun i n => (∀ j, j < 4 → w.cell? ((a.add (i * 4)).add j) = (Nd.cells n)[j]?) ∧ n.f < 2 ^ 64) len key
    refine ⟨some a, cap, L, by rw [hL], fun k hk => ?_⟩
    obtain ⟨hc, hf⟩ := hall k (by omega)
    obtain ⟨b, o, sp⟩ := a
    have h00 := hc 0 (by omega)
    have hsp : sp = none := by
      have h1 : w.cell? (((⟨b, o, sp⟩ : Addr).add (k * 4)).add 1) = _ := hc 1 (by omega)
      have h2 : w.cell? (((⟨b, o, sp⟩ : Addr).add (k * 4)).add 0) = some (.int .i64 (L[k]?.getD nd0).k) := h00
      by_cases h0 : k = 0
      · subst h0
        simpa [Addr.add] using World.cell?_spot h2
      · cases sp with
        | none => rfl
        | some s =>
          have h3 : w.cell? (((⟨b, o, some s⟩ : Addr).add (k * 4)).add 0) = some (.int .i64 (L[k]?.getD nd0).k) := h2
          have hc0 := (hall 0 (by omega)).1 0 (by omega)
          have h4 : w.cell? ⟨b, o, some s⟩ = some (.int .i64 (L[0]?.getD nd0).k) := by simpa [Addr.add, Nd.cells] using hc0
          have := World.cell?_spot h4
          simp at this
    subst hsp
    have ha : ∀ j, ((⟨b, o, none⟩ : Addr).add (k * 4)).add j = ⟨b, o + k * 4 + j, none⟩ := fun j => by
      unfold Addr.add
      by_cases h1 : k * 4 = 0 <;> by_cases h2 : j = 0 <;> simp [h1, h2] <;> omega
    refine ⟨b, o, rfl, ⟨?_, ?_, ?_, ?_⟩, hf⟩
    · have := hc 0 (by omega); rw [ha] at this; simpa [Nd.cells] using this
    · have := hc 1 (by omega); rw [ha] at this; simpa [Nd.cells] using this
    · have := hc 2 (by omega); rw [ha] at this; simpa [Nd.cells] using this
    · have := hc 3 (by omega); rw [ha] at this; simpa [Nd.cells] using this
end Go.Proofs.Ytaifgjkbagcbeaa
