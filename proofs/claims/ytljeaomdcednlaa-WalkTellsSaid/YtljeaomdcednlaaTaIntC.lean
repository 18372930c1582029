/-
  Lists of ints that are lent with room behind them: compassbook's copyInts, LentInts and StaysInts.
-/
import Derived.Test.YtljeaomdcednlaaTaInts
namespace Go.Proofs.Ytljeaomdcednlaa
open Go.RowKit

theorem ints_len (xs : List Int) : (ints xs).length = xs.length := by simp [ints]
theorem ints_get (xs : List Int) (k : Nat) (h : k < xs.length) : (ints xs)[k]? = some (.int .i64 (xs[k]?.getD 0)) := by simp [ints, h]
theorem ints_app (xs ys : List Int) : ints (xs ++ ys) = ints xs ++ ints ys := by simp [ints]
theorem intsAt_nil (w : World) : IntsAt w (.slice none 0 0) [] := World.ownsRow_nil _ _ _ _
set_option maxRecDepth 100000 in
theorem run_append_copyI (T : TypeId) (hT : Try.prog.underlying T = some (.slice 3)) (w : World) (ty : TypeId) (A : Option Addr) (xs : List Int) (c : Nat) (hr : IRead w A xs) (hl : (xs.length : Int) ≤ 16000000) :
    ∃ v' w', (Builtin.append_ #[T, T] ty #[.slice none 0 0, .slice A xs.length c]).run Try.prog w = .ok v' w' ∧ IntsAt w' v' xs ∧ (∀ g, v'.ownBlock = some g → w.heap.size ≤ g) ∧ Only [] w w' := by
  obtain ⟨i0, hi, hz0, hz1, hz2⟩ := int_parts
  cases xs with
  | nil =>
    cases A with
    | none =>
      refine ⟨.slice none 0 0, w, ?_, intsAt_nil w, by simp [Value.ownBlock], Only.refl _ _⟩
      simp [Builtin.append_, run_underlying hT, sizeOf, typeInfo, hi, Builtin.lenOf, Builtin.firstCells]
    | some ad =>
      obtain ⟨v', w', hrun, h1, h2, h3, _⟩ := run_append_own_at (P := Try.prog) w 0 T ty 3 i0 _ 1 8 hT hi hz0 hz1 hz2 rfl (by decide) (.slice none 0 0) 0 [] (World.ownsRow_nil _ _ _ _) ad 0 c [] rfl (by simp) (by simp) (by simp [maxLen]) (by omega) (Nat.zero_le _)
      obtain rfl := h3.2 ⟨rfl, rfl⟩
      exact ⟨_, w', hrun, intsAt_nil w', by simp [Value.ownBlock], Only.of_grown h2 (by simp [Value.ownBlock])⟩
  | cons x xs =>
    obtain ⟨b, o, rfl, _⟩ := hr 0 (by simp)
    obtain ⟨v', w', hrun, h1, h2, h3, h4⟩ := run_append_own_at (P := Try.prog) w 0 T ty 3 i0 _ 1 8 hT hi hz0 hz1 hz2 rfl (by decide) (.slice none 0 0) 0 [] (World.ownsRow_nil _ _ _ _) ⟨b, o, none⟩ (x :: xs).length c (ints (x :: xs)) (by simp [ints]) (fun j u hu => by
        have hjl : j < (x :: xs).length := by
          have := (List.getElem?_eq_some_iff.1 hu).1
          rwa [ints_len] at this
        rw [ints_get _ _ hjl] at hu
        obtain ⟨b', o', e, hc⟩ := hr j hjl
        injection e with e
        injection e with e1 e2 _
        subst e1 e2
        rw [addr_add, hc, hu]) (by simp [ints, Value.oneCell']) (by simp only [maxLen]; omega) (by omega) (Nat.zero_le _)
    refine ⟨v', w', hrun, by simpa [IntsAt] using h1, ?_, Only.of_grown h2 (by simp [Value.ownBlock])⟩
    intro g hg
    rcases h4 with e | e
    · rw [e] at hg; simp [Value.ownBlock] at hg
    · rw [e] at hg
      have : w.heap.size = g := by simpa using hg
      omega
theorem wpList_append_copyI {w : World} {ops : Array Oper} {rest : List Oper} {o : Oper} {a : Act} {Q : Exit → Act → World → Prop} (T : TypeId) (hT : Try.prog.underlying T = some (.slice 3)) (hgd : o.guard = none) (s x : Operand)
    (ho : o.op = .call { callee := .builtin .append, args := #[s, x], argTypes := #[T, T] }) (hs : a.eval s = .slice none 0 0) (A : Option Addr) (xs : List Int) (n c : Nat) (hx : a.eval x = .slice A n c) (hn : n = xs.length) (hr : IRead w A xs) (hl : (n : Int) ≤ 16000000)
    (h : ∀ A' c' w', IntsAt w' (.slice A' n c') xs → (∀ g, (Value.slice A' n c').ownBlock = some g → w.heap.size ≤ g) → Only [] w w' → wpList Try.prog ops Q rest (a.put o.dst (.slice A' n c')) w') : wpList Try.prog ops Q (o :: rest) a w := by
  subst hn
  refine wpList_plain hgd fun K hK => ?_
  obtain ⟨v', w', hrun, h1, h2, h3⟩ := run_append_copyI T hT w o.type A xs c hr hl
  obtain ⟨A', c', rfl, _⟩ := h1.shape
  unfold Oper.wp execOp
  simp only [ho, resolve, invoke, builtin, Sem.run_bind, Sem.run_pure, Result.andThen_ok, List.map_toArray, List.map_cons, List.map_nil, hs, hx, hrun]
  exact hK _ _ (h A' c' w' h1 h2 h3)

/-- A row of ints with a mark behind it. -/
def LentI (w : World) (g : Nat) (xs : List Int) (c : Nat) : Prop := ∃ tl, Blk w g 3 (ints (xs ++ [-77]) ++ tl) ∧ xs.length + 1 + tl.length = c ∧ c ≤ maxLen
theorem LentI.only {w w' : World} {g c : Nat} {xs : List Int} {S : List Nat} (h : LentI w g xs c) (ho : Only S w w') (hg : g ∉ S) : LentI w' g xs c := by
  obtain ⟨tl, h1, h2, h3⟩ := h
  exact ⟨tl, h1.only ho hg, h2, h3⟩
theorem LentI.read {w : World} {g c : Nat} {xs : List Int} (h : LentI w g xs c) : IRead w (some ⟨g, 0, none⟩) xs := by
  obtain ⟨tl, h1, h2, h3⟩ := h
  refine fun k hk => ⟨g, 0, rfl, ?_⟩
  rw [h1.cell, Nat.zero_add, List.getElem?_append_left (by rw [ints_len]; simp; omega), ints_get _ _ (by simp; omega), List.getElem?_append_left hk]
theorem LentI.mark {w : World} {g c : Nat} {xs : List Int} (h : LentI w g xs c) : w.cell? ⟨g, xs.length, none⟩ = some (.int .i64 (-77)) := by
  obtain ⟨tl, h1, h2, h3⟩ := h
  rw [h1.cell, List.getElem?_append_left (by rw [ints_len]; simp), ints_get _ _ (by simp)]
  simp
theorem LentI.cap {w : World} {g c n : Nat} {xs : List Int} (h : LentI w g xs c) (hn : n = xs.length) : n + 1 ≤ c := by
  obtain ⟨tl, k1, k2, k3⟩ := h
  omega
theorem IntsAt.row {w : World} {g n c : Nat} {xs : List Int} (h : IntsAt w (.slice (some ⟨g, 0, none⟩) n c) xs) : ∃ tl, Blk w g 3 (ints xs ++ tl) ∧ xs.length + tl.length = c ∧ c ≤ maxLen ∧ n = xs.length := by
  rcases h.2 with ⟨h0, _⟩ | ⟨g', cap, cur, e, _, hg, hn, hm, hs, ht⟩
  · cases h0
  · injection e with e1 e2 e3
    injection e1 with e1
    injection e1 with e1 _ _
    subst e1 e3
    refine ⟨cur.toList.drop xs.length, ?_, ?_, hm, e2⟩
    · unfold Blk
      rw [hg]
      congr 2
      apply Array.ext'
      rw [Nat.mul_one] at ht
      rw [← ht]
      simp
    · rw [List.length_drop]
      simp at hs ⊢
      omega
theorem lentI_of {w : World} {g n c : Nat} {xs : List Int} (h : IntsAt w (.slice (some ⟨g, 0, none⟩) (n + 1) c) (xs ++ [-77])) : LentI w g xs c := by
  obtain ⟨tl, k1, k2, k3, k4⟩ := h.row
  exact ⟨tl, k1, by rw [List.length_append] at k2; simpa using k2, k3⟩
set_option maxRecDepth 100000 in
theorem slice_headI (A : Option Addr) (n c m : Nat) (h : m ≤ c) (w : World) : (Instr.slice 22 (.slice A n c) none (some (.int .i64 (m : Int))) none).run Try.prog w = .ok (.slice A m c) w := by
  have hs : (sizeOf (Try.prog.elem 22)).run Try.prog w = .ok 1 w := by kernel_rfl
  rw [run_slice_h (P := Try.prog) (w := w) 22 A n c (by kernel_rfl) .i64 (m : Int) (by omega) (by omega), hs]
  simp only [Result.andThen, sliced, Int.toNat_natCast]
  cases A <;> simp [Addr.add]

set_option maxRecDepth 100000 in
theorem copyInts_any (A : Option Addr) (n c : Nat) (xs : List Int) (w : World) (hA : Hid (IRead w A xs)) (hn : Hid (n = xs.length)) (hl : (n : Int) ≤ 15000000) :
    Calls Try.prog 19 #[.slice A n c] w fun e w' => ∃ A' c', e = .returned (.slice A' n c') ∧ IntsAt w' (.slice A' n c') xs ∧ (∀ g, (Value.slice A' n c').ownBlock = some g → w.heap.size ≤ g) ∧ Only [] w w' := by
  go_enter Try.func19, Try.ntmps19
  go_wp2_with (at_builtin; refine wpList_append_copyI 22 Try.underlying22 rfl _ _ rfl rfl A xs n c rfl hn.out hA.out (by omega) ?_; intro A' c' w2 h1 h2 h3; have HA2 := Lib.hid h1; have HF2 := Lib.hid h2; have HO2 := Lib.hid h3; clear h1 h2 h3)
  go_wp2_with fail
  go_ret
  exact ⟨_, _, rfl, HA2.out, HF2.out, HO2.out⟩

theorem intsAt_app {w : World} {g c n : Nat} {xs : List Int} {z : Int} (h : w.ownsRow 0 3 1 (.slice (some ⟨g, 0, none⟩) (n + 1) c) (n + 1) (ints xs ++ [.int .i64 z])) (hn : n = xs.length) : IntsAt w (.slice (some ⟨g, 0, none⟩) (n + 1) c) (xs ++ [z]) := by
  subst hn
  unfold IntsAt
  rw [ints_app, List.length_append]
  exact h
set_option maxRecDepth 100000 in
theorem lentInts_any (A : Option Addr) (n c : Nat) (xs : List Int) (w : World) (hA : Hid (IRead w A xs)) (hn : Hid (n = xs.length)) (hl : (n : Int) ≤ 1000000) :
    Calls Try.prog 7 #[.slice A n c] w fun e w' => ∃ g c', e = .returned (.slice (some ⟨g, 0, none⟩) n c') ∧ LentI w' g xs c' ∧ w.heap.size ≤ g ∧ Only [] w w' := by
  obtain ⟨i0, hi, hz0, hz1, hz2⟩ := int_parts
  go_enter Try.func7, Try.ntmps7
  go_wp2_with fail
  refine (copyInts_any A n c xs w hA hn (by omega)).mono ?_
  rintro e w1 ⟨A1, c1, rfl, h1, h2, h3⟩
  have HA1 := Lib.hid h1
  have HF1 := Lib.hid h2
  have HO1 := Lib.hid h3
  clear h1 h2 h3
  go_wp2_with (at_builtin; refine wpList_append_lies _ rfl _ _ _ rfl 0 3 i0 _ 1 8 Try.underlying22 hi hz0 hz1 hz2 rfl (by decide) (.slice A1 n c1) n (ints xs) rfl (by have h := HA1.out.only ((Only.refl [] w1).alloc (.cells #[.int .i64 (-77)] 3)) (by simp); unfold IntsAt at h; rw [← hn.out] at h; exact h) ⟨w1.heap.size, 0, none⟩ 1 1 [.int .i64 (-77)] rfl rfl (by exact cell_one_new _ _ _) (by simp [Value.oneCell']) (by decide) (by simp only [maxLen]; omega) (by omega) (Nat.zero_le _) (w1.heap.size + 1) (by simp) ?_; intro g' c2 w4 hown hgr hat hlt; have HA4 : Hid (IntsAt w4 (.slice (some ⟨g', 0, none⟩) (n + 1) c2) (xs ++ [-77])) := intsAt_app hown hn.out; have HG4 := Lib.hid hgr; have HT4 := Lib.hid hat; have hsl := slice_headI (some ⟨g', 0, none⟩) (n + 1) c2 n (by have := (lentI_of HA4.out).cap hn.out; omega) w4; clear hown hgr hat hlt)
  have HL : Hid (LentI w4 g' xs c2) := lentI_of HA4.out
  go_wp2_with fail
  go_ret
  refine ⟨_, _, rfl, HL.out, ?_, ?_⟩
  · rcases HT4.out with h | h
    · exact HF1.out _ h
    · have := HO1.out.size
      omega
  · have hx : Only (Value.slice A1 n c1).ownBlock.toList w1 w4 := ((Only.refl _ w1).alloc _).trans (Only.of_grown (S := (Value.slice A1 n c1).ownBlock.toList) HG4.out (by simp)) (fun k hk => .inl hk)
    exact HO1.out.trans hx (fun k hk => .inr (by
      rw [Option.mem_toList] at hk
      exact HF1.out k hk))

set_option maxRecDepth 100000 in
theorem staysInts_any (g n c c' : Nat) (B : Option Addr) (xs : List Int) (w : World) (hL : Hid (LentI w g xs c)) (hB : Hid (IRead w B xs)) (hn : Hid (n = xs.length)) (hl : (n : Int) ≤ 20001) :
    Calls Try.prog 16 #[.slice (some ⟨g, 0, none⟩) n c, .slice B n c'] w fun e w' => e = .returned (.bool true) ∧ Only [] w w' := by
  have hm := hL.out.mark
  rw [← hn.out] at hm
  have hsl := fun wx => slice_headI (some ⟨g, 0, none⟩) n c (n + 1) (hL.out.cap hn.out) wx
  rw [show ((n + 1 : Nat) : Int) = (n : Int) + 1 by omega] at hsl
  have hse := sameints_any (some ⟨g, 0, none⟩) B c c' xs w (Lib.hid hL.out.read) hB (by have := hn.out; omega)
  rw [← hn.out] at hse
  have HS := Lib.hid hse
  clear hse
  go_enter Try.func16, Try.ntmps16
  go_wp2_with fail
  refine HS.out.mono ?_
  rintro e w1 ⟨rfl, ho⟩
  have hm1 := ho.cell hm (by simp)
  have HO := Lib.hid ho
  clear ho hm
  go_wp2_with fail
  go_ret
  exact ⟨rfl, HO.out⟩
end Go.Proofs.Ytljeaomdcednlaa
