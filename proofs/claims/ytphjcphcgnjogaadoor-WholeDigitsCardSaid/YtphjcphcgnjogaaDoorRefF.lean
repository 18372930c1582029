/-
  The reference's numbers: Sub, Low.
-/
import Derived.Test.YtphjcphcgnjogaaDoorRefE
import Derived.Test.YtphjcphcgnjogaaDoorGNV
namespace Go.Proofs.YtphjcphcgnjogaaDoor
open Go.RowKit

set_option maxRecDepth 100000 in
theorem run_append_copy (T : TypeId) (hT : Tryd.prog.underlying T = some (.slice 64)) (w : World) (ty : TypeId) (A : Option Addr) (xs : List Nat) (c : Nat) (hr : LRead w A xs) (hl : (xs.length : Int) ≤ 16000000) :
    ∃ v' w', (Builtin.append_ #[T, T] ty #[.slice none 0 0, .slice A xs.length c]).run Tryd.prog w = .ok v' w' ∧ LimbsAt w' v' xs ∧ (∀ g, v'.ownBlock = some g → w.heap.size ≤ g) ∧ Only [] w w' := by
  obtain ⟨i0, hi, hz0, hz1, hz2⟩ := u64_parts
  cases xs with
  | nil =>
    cases A with
    | none =>
      refine ⟨.slice none 0 0, w, ?_, limbsAt_nil w, by simp [Value.ownBlock], Only.refl _ _⟩
      simp [Builtin.append_, run_underlying hT, sizeOf, typeInfo, hi, Builtin.lenOf, Builtin.firstCells]
    | some ad =>
      obtain ⟨v', w', hrun, h1, h2, h3, _⟩ := run_append_own_at (P := Tryd.prog) w 0 T ty 64 i0 _ 1 8 hT hi hz0 hz1 hz2 rfl (by decide) (.slice none 0 0) 0 [] (World.ownsRow_nil _ _ _ _) ad 0 c [] rfl (by simp) (by simp) (by simp [maxLen]) (by omega) (Nat.zero_le _)
      obtain rfl := h3.2 ⟨rfl, rfl⟩
      exact ⟨_, w', hrun, limbsAt_nil w', by simp [Value.ownBlock], Only.of_grown h2 (by simp [Value.ownBlock])⟩
  | cons x xs =>
    obtain ⟨b, o, rfl, _⟩ := hr 0 (by simp)
    obtain ⟨v', w', hrun, h1, h2, h3, h4⟩ := run_append_own_at (P := Tryd.prog) w 0 T ty 64 i0 _ 1 8 hT hi hz0 hz1 hz2 rfl (by decide) (.slice none 0 0) 0 [] (World.ownsRow_nil _ _ _ _) ⟨b, o, none⟩ (x :: xs).length c (limbV (x :: xs)) (by simp [limbV]) (fun j u hu => by
        have hjl : j < (x :: xs).length := by
          have := (List.getElem?_eq_some_iff.1 hu).1
          rwa [limbV_len] at this
        rw [limbV_get _ _ hjl] at hu
        obtain ⟨b', o', e, hc⟩ := hr j hjl
        injection e with e
        injection e with e1 e2 _
        subst e1 e2
        rw [addr_plus, hc, hu]) (by simp [limbV, Value.oneCell']) (by simp only [maxLen]; omega) (by omega) (Nat.zero_le _)
    refine ⟨v', w', hrun, by simpa [LimbsAt] using h1, ?_, Only.of_grown h2 (by simp [Value.ownBlock])⟩
    intro g hg
    rcases h4 with e | e
    · rw [e] at hg; simp [Value.ownBlock] at hg
    · rw [e] at hg
      have : w.heap.size = g := by simpa using hg
      omega
theorem wpList_append_copy {w : World} {ops : Array Oper} {rest : List Oper} {o : Oper} {a : Act} {Q : Exit → Act → World → Prop} (T : TypeId) (hT : Tryd.prog.underlying T = some (.slice 64)) (hgd : o.guard = none) (s x : Operand)
    (ho : o.op = .call { callee := .builtin .append, args := #[s, x], argTypes := #[T, T] }) (hs : a.eval s = .slice none 0 0) (A : Option Addr) (xs : List Nat) (n c : Nat) (hx : a.eval x = .slice A n c) (hn : n = xs.length) (hr : LRead w A xs) (hl : (n : Int) ≤ 16000000)
    (h : ∀ A' c' w', LimbsAt w' (.slice A' n c') xs → (∀ g, (Value.slice A' n c').ownBlock = some g → w.heap.size ≤ g) → Only [] w w' → wpList Tryd.prog ops Q rest (a.put o.dst (.slice A' n c')) w') : wpList Tryd.prog ops Q (o :: rest) a w := by
  subst hn
  refine wpList_plain hgd fun K hK => ?_
  obtain ⟨v', w', hrun, h1, h2, h3⟩ := run_append_copy T hT w o.type A xs c hr hl
  obtain ⟨A', c', rfl, _⟩ := h1.shape
  unfold Oper.wp execOp
  simp only [ho, resolve, invoke, builtin, Sem.run_bind, Sem.run_pure, Result.andThen_ok, List.map_toArray, List.map_cons, List.map_nil, hs, hx, hrun]
  exact hK _ _ (h A' c' w' h1 h2 h3)

end Go.Proofs.YtphjcphcgnjogaaDoor
