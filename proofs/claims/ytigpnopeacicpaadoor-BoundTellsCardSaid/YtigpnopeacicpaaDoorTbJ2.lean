/-
  Joined texts.
-/
import Derived.Test.YtigpnopeacicpaaDoorTbJ0
import Derived.Test.YtigpnopeacicpaaDoorProg
import Derived.Laws.OwnMore
import Derived.Laws.MakeOwn
import Derived.Laws.CopyOwn
import Derived.OwnWalk
import Derived.Shelf.Spec.BitsCarry
import Derived.Test.YtigpnopeacicpaaDoorTbShelf
import Derived.IntWalk
import Derived.StillTailTactics
import Derived.Laws.Bits64b
import Derived.Lib.ItoaNum
import Derived.Lib.Repeat
import Derived.Lib.ItoaLen
import Derived.Lib.FrozenHead
import Derived.Lib.ItoaMem
import Derived.Test.YtigpnopeacicpaaDoorRows
import Derived.JoinedOf
import Derived.LaidLaws
import Derived.LaidHandle
import Derived.Stop.Joined
import Derived.Stop.LaidErr
import Derived.Lib.LaidTab
import Derived.ChangeVars
import Derived.ProofKit
import Derived.OpenShut
import Derived.ShutString
import Derived.ChangeOld
import Derived.Below
import Derived.Deep.Slices
import Derived.Deep.Fields
import Derived.ChangeSame
/-
  Limbs in memory: what a slice of limbs reads as; rows of the call's own; make and copy.
-/
namespace Go.Proofs.YtigpnopeacicpaaDoor
open Go.RowKit

theorem addr_plus (b o j : Nat) : (⟨b, o, none⟩ : Addr).add j = ⟨b, o + j, none⟩ := by
  unfold Addr.add
  by_cases h : j = 0 <;> simp [h]
def limbV (xs : List Nat) : List Value := xs.map fun (x : Nat) => .int .u64 (x : Int)
theorem limbV_len (xs : List Nat) : (limbV xs).length = xs.length := by simp [limbV]
theorem limbV_set (xs : List Nat) (i v : Nat) : (limbV xs).set i (.int .u64 (v : Int)) = limbV (xs.set i v) := by simp [limbV, List.map_set]
theorem limbV_get (xs : List Nat) (i : Nat) (h : i < xs.length) : (limbV xs)[i]? = some (.int .u64 ((xs[i]?.getD 0 : Nat) : Int)) := by simp [limbV, h]
/-- A slice of limbs reads as xs. -/
def LRead (w : World) (A : Option Addr) (xs : List Nat) : Prop := ∀ k, k < xs.length → ∃ b o, A = some ⟨b, o, none⟩ ∧ w.cell? ⟨b, o + k, none⟩ = some (.int .u64 ((xs[k]?.getD 0 : Nat) : Int))
/-- A row of limbs of its own. -/
def LimbsAt (w : World) (u : Value) (xs : List Nat) : Prop := w.ownsRow 0 90 1 u xs.length (limbV xs)
section
variable {w w' : World} {A : Option Addr} {xs : List Nat} {u : Value} {S : List Nat}
theorem LRead.only (h : LRead w A xs) (ho : Only [] w w') : LRead w' A xs := fun k hk => by
  obtain ⟨b, o, h1, h2⟩ := h k hk
  exact ⟨b, o, h1, ho.cell h2 (by simp)⟩
theorem LRead.take (h : LRead w A xs) (n : Nat) : LRead w A (xs.take n) := fun k hk => by
  rw [List.length_take] at hk
  obtain ⟨b, o, h1, h2⟩ := h k (by omega)
  exact ⟨b, o, h1, by rw [List.getElem?_take_of_lt (by omega)]; exact h2⟩
theorem LRead.nil : LRead w A [] := fun k hk => by simp at hk
theorem LRead.of_blk {g : Nat} {t : TypeId} (h : Blk w g t (limbV xs)) : LRead w (some ⟨g, 0, none⟩) xs := fun k hk => ⟨g, 0, rfl, by
  rw [h.cell, Nat.zero_add, limbV_get _ _ hk]⟩
theorem LimbsAt.read {c : Nat} {n : Nat} (h : LimbsAt w (.slice A n c) xs) : n = xs.length ∧ LRead w A xs := by
  rcases h.2 with ⟨e, h0⟩ | ⟨g, cap, cur, e, _, hg, hn, hm, _⟩
  · injection e with e1 e2 e3
    exact ⟨by omega, fun k hk => by omega⟩
  · injection e with e1 e2 e3
    subst e1
    refine ⟨e2, fun k hk => ⟨g, 0, rfl, ?_⟩⟩
    have hc := World.ownsRow.cells h (g := g) rfl
    have h1 := hc k _ (limbV_get _ _ hk)
    rw [addr_plus] at h1
    exact h1
theorem LimbsAt.shape (h : LimbsAt w u xs) : ∃ A c, u = .slice A xs.length c ∧ LRead w A xs ∧ xs.length ≤ c ∧ c ≤ maxLen := by
  rcases h.2 with ⟨rfl, h0⟩ | ⟨g, cap, cur, rfl, _, hg, hn, hm, _⟩
  · exact ⟨none, 0, by rw [h0], fun k hk => by omega, by omega, Nat.zero_le _⟩
  · exact ⟨_, cap, rfl, (LimbsAt.read h).2, hn, hm⟩
theorem LimbsAt.only (h : LimbsAt w u xs) (ho : Only S w w') (hn : ∀ g, u.ownBlock = some g → g ∉ S) : LimbsAt w' u xs := by
  rcases h with ⟨h0, h1 | ⟨g, cap, cur, rfl, hb, hg, h2⟩⟩
  · exact ⟨h0, .inl h1⟩
  · exact ⟨h0, .inr ⟨g, cap, cur, rfl, hb, ho.heap hg (hn g rfl), h2⟩⟩
theorem LimbsAt.lt (h : LimbsAt w u xs) : ∀ g, u.ownBlock = some g → g < w.heap.size := fun g hg => (World.ownsRow.lt h g hg).2
theorem limbsAt_nil (w : World) : LimbsAt w (.slice none 0 0) [] := World.ownsRow_nil _ _ _ _
theorem LimbsAt.of_blk {g c : Nat} (h : Blk w g 90 (limbV xs)) (hc : c = xs.length) (hm : c ≤ maxLen) (n : Nat) (hn : n ≤ xs.length) : LimbsAt w (.slice (some ⟨g, 0, none⟩) n c) (xs.take n) := by
  subst hc
  have hl : (xs.take n).length = n := by rw [List.length_take]; omega
  refine ⟨by simp [limbV], .inr ⟨g, xs.length, (limbV xs).toArray, by rw [hl], Nat.zero_le _, h, by rw [hl]; exact hn, hm, by simp [limbV], ?_⟩⟩
  rw [hl]
  simp [limbV]
end

/-- An argument: it reads as xs, whose limbs are limbs, and not too many. -/
structure Arg (w : World) (A : Option Addr) (xs : List Nat) : Prop where
  read : LRead w A xs
  limb : Limb xs
  len : (xs.length : Int) ≤ 4000000
theorem Arg.only {w w' : World} {A : Option Addr} {xs : List Nat} (h : Arg w A xs) (ho : Only [] w w') : Arg w' A xs := ⟨h.read.only ho, h.limb, h.len⟩
theorem Arg.trim {w : World} {A : Option Addr} {xs : List Nat} (h : Arg w A xs) : Arg w A (limbsOf (val xs)) := by
  have e := limbsOf_take h.limb
  refine ⟨?_, limb_limbsOf _, by have := h.len; have := e.2; omega⟩
  rw [← e.1]
  exact h.read.take _

/-- A result: a row of the call's own that holds just the limbs of n. -/
structure Res (w0 w : World) (u : Value) (n : Nat) : Prop where
  at_ : LimbsAt w u (limbsOf n)
  fresh : ∀ g, u.ownBlock = some g → w0.heap.size ≤ g
theorem Res.only {w0 w w' : World} {u : Value} {n : Nat} {S : List Nat} (h : Res w0 w u n) (ho : Only S w w') (hn : ∀ g, u.ownBlock = some g → g ∉ S) : Res w0 w' u n := ⟨h.at_.only ho hn, h.fresh⟩
theorem Res.nil {w0 w w' : World} {u : Value} {n : Nat} (h : Res w0 w u n) (ho : Only [] w w') : Res w0 w' u n := h.only ho (by simp)
theorem Res.pre {w0 w1 w : World} {u : Value} {n : Nat} (h : Res w1 w u n) (ho : w0.heap.size ≤ w1.heap.size) : Res w0 w u n := ⟨h.at_, fun g hg => Nat.le_trans ho (h.fresh g hg)⟩
/-- What a function leaves that tells a number. -/
def NPost (n : Nat) (w : World) (e : Ending) (w' : World) : Prop := ∃ u, e = .returned u ∧ Res w w' u n ∧ Only [] w w'

theorem Tryd.u64Info : (Tryd.prog.info? 90).map (fun i => (i.zero, i.size, i.bytes)) = some (some (.int .u64 0), 1, 8) := by kernel_rfl
theorem u64_parts : ∃ i : TypeInfo, Tryd.prog.info? 90 = some i ∧ i.zero = some (.int .u64 0) ∧ i.size = 1 ∧ i.bytes = 8 := by
  obtain ⟨i, h, e⟩ := Option.map_eq_some_iff.1 Tryd.u64Info
  simp only [Prod.mk.injEq] at e
  exact ⟨i, h, e.1, e.2.1, e.2.2⟩
theorem limbV_zeros (n : Nat) : limbV (List.replicate n 0) = List.replicate n (.int .u64 0) := by simp [limbV]
set_option maxRecDepth 100000 in
/-- make(Nat, n). -/
theorem make_nat (w : World) (n : Nat) (hn : (n : Int) ≤ 16000000) : ∃ w', (Instr.makeSlice 42 (.int .i64 (n : Int)) (.int .i64 (n : Int))).run Tryd.prog w = .ok (.slice (some ⟨w.heap.size, 0, none⟩) n n) w' ∧
    Blk w' w.heap.size 90 (limbV (List.replicate n 0)) ∧ Only [] w w' ∧ w.heap.size < w'.heap.size := by
  obtain ⟨i0, hi, hz0, hz1, hz2⟩ := u64_parts
  obtain ⟨w', hr, ho, hg⟩ := run_make_full (P := Tryd.prog) w 0 42 90 i0 _ 1 Tryd.underlying42 hi hz0 hz1 .i64 .i64 n (by rw [hz2]; omega) (by simp only [maxLen]; omega) (Nat.zero_le _)
  refine ⟨w', hr, ?_, Only.of_grown hg (by simp), (World.ownsRow.lt ho _ rfl).2⟩
  rcases ho.2 with ⟨h0, _⟩ | ⟨g, cap, cur, e, _, hb, _, _, hs, ht⟩
  · cases h0
  · injection e with e1 e2 e3
    injection e1 with e1
    injection e1 with e1 _ _
    subst e1 e3
    unfold Blk
    rw [hb, limbV_zeros]
    congr 2
    apply Array.ext'
    rw [← List.take_of_length_le (l := cur.toList) (i := n * 1) (by simp [hs]), ht]
    have e : (Value.int IntKind.u64 0).cells = #[.int .u64 0] := rfl
    simp only [madeCells, e]
    simp [Nat.mod_one]
    apply List.ext_getElem <;> simp
end Go.Proofs.YtigpnopeacicpaaDoor
/-
  Slices of limbs, cut.
-/
namespace Go.Proofs.YtigpnopeacicpaaDoor
open Go.RowKit

end Go.Proofs.YtigpnopeacicpaaDoor
/-
  nat: trim, Of, Cmp.
-/
namespace Go.Proofs.YtigpnopeacicpaaDoor
open Go.RowKit

set_option maxHeartbeats 800000 in
theorem trim_any (A : Option Addr) (c : Nat) (xs : List Nat) (w : World) (h : Hid (Arg w A xs)) (hc : xs.length ≤ c) :
    Calls Tryd.prog 79 #[.slice A xs.length c] w fun e w' => e = .returned (.slice A (limbsOf (val xs)).length c) ∧ w = w' := by
  have hlen := h.out.len
  go_enter Tryd.func79, Tryd.ntmps79
  go_wp2
  go_loop [3] (fun t => ∃ n : Nat, n ≤ xs.length ∧ t = .int .i64 (n : Int) ∧ ∀ j, n ≤ j → j < xs.length → xs[j]?.getD 0 = 0) (fun t => (intOf t).toNat)
  case atStart => exact ⟨xs.length, Nat.le_refl _, rfl, fun j h1 h2 => by omega⟩
  case round =>
    obtain ⟨n, hn, rfl, hz⟩ := hrel
    have HZ := Lib.hid hz
    clear hz
    cases n with
    | zero =>
      have HE : Hid ((limbsOf (val xs)).length = 0) := (trim_stop h.out.limb 0 hn HZ.out (fun h => by omega)).1
      go_wp2
      go_ret
      exact ⟨by rw [HE.out]; rfl, rfl⟩
    | succ m =>
      obtain ⟨b, o, rfl, hcell⟩ := h.out.read m (by omega)
      by_cases h0 : xs[m]?.getD 0 = 0
      · have HZ' : Hid (∀ j, m ≤ j → j < xs.length → xs[j]?.getD 0 = 0) := fun j h1 h2 => by
          by_cases e : j = m
          · rw [e]; exact h0
          · exact HZ.out j (by omega) h2
        rw [h0] at hcell
        clear h0
        go_wp2
        go_round
        case rel => exact ⟨m, by omega, by go_num, HZ'.out⟩
        case measure => simp [intOf]
      · have HE : Hid ((limbsOf (val xs)).length = m + 1) := (trim_stop h.out.limb (m + 1) hn HZ.out (fun _ => by simpa using h0)).1
        have g0 : (((xs[m]?.getD 0 : Nat) : Int) == 0) = false := beq_eq_false_iff_ne.2 (by omega)
        generalize xs[m]?.getD 0 = x at hcell g0
        clear h0
        go_wp2
        go_ret
        exact ⟨by rw [HE.out]; rfl, rfl⟩

/-- trim, of a row that is known whole. -/
theorem trim_row (g n c : Nat) (zs : List Nat) (w : World) (hb : Blk w g 90 (limbV zs)) (hz : Limb zs) (hn : n = zs.length) (hc : n ≤ c) (hl : (n : Int) ≤ 4000000) :
    Calls Tryd.prog 79 #[.slice (some ⟨g, 0, none⟩) n c] w fun e w' => e = .returned (.slice (some ⟨g, 0, none⟩) (limbsOf (val zs)).length c) ∧ w = w' := by
  subst hn
  exact trim_any _ c zs w ⟨.of_blk hb, hz, hl⟩ hc

set_option maxRecDepth 100000 in
theorem run_append_limbs (w : World) (ty : TypeId) (A : Option Addr) (xs : List Nat) (c : Nat) (hr : LRead w A xs) (hl : (xs.length : Int) ≤ 4000000) :
    ∃ v' w', (Builtin.append_ #[42, 42] ty #[.slice none 0 0, .slice A xs.length c]).run Tryd.prog w = .ok v' w' ∧ LimbsAt w' v' xs ∧ (∀ g, v'.ownBlock = some g → w.heap.size ≤ g) ∧ Only [] w w' := by
  obtain ⟨i0, hi, hz0, hz1, hz2⟩ := u64_parts
  cases xs with
  | nil =>
    cases A with
    | none =>
      refine ⟨.slice none 0 0, w, ?_, limbsAt_nil w, by simp [Value.ownBlock], Only.refl _ _⟩
      simp [Builtin.append_, run_underlying Tryd.underlying42, sizeOf, typeInfo, hi, Builtin.lenOf, Builtin.firstCells]
    | some ad =>
      obtain ⟨v', w', hrun, h1, h2, h3, _⟩ := run_append_own_at (P := Tryd.prog) w 0 42 ty 90 i0 _ 1 8 Tryd.underlying42 hi hz0 hz1 hz2 rfl (by decide) (.slice none 0 0) 0 [] (World.ownsRow_nil _ _ _ _) ad 0 c [] rfl (by simp) (by simp) (by simp [maxLen]) (by omega) (Nat.zero_le _)
      obtain rfl := h3.2 ⟨rfl, rfl⟩
      exact ⟨_, w', hrun, limbsAt_nil w', by simp [Value.ownBlock], Only.of_grown h2 (by simp [Value.ownBlock])⟩
  | cons x xs =>
    obtain ⟨b, o, rfl, _⟩ := hr 0 (by simp)
    obtain ⟨v', w', hrun, h1, h2, h3, h4⟩ := run_append_own_at (P := Tryd.prog) w 0 42 ty 90 i0 _ 1 8 Tryd.underlying42 hi hz0 hz1 hz2 rfl (by decide) (.slice none 0 0) 0 [] (World.ownsRow_nil _ _ _ _) ⟨b, o, none⟩ (x :: xs).length c (limbV (x :: xs)) (by simp [limbV]) (fun j u hu => by
        have hjl : j < (x :: xs).length := by
          have := (List.getElem?_eq_some_iff.1 hu).1
          rwa [limbV_len] at this
        rw [limbV_get _ _ hjl] at hu
        obtain ⟨b', o', e, hc⟩ := hr j hjl
        injection e with e
        injection e with e1 e2 _
        subst e1 e2
        rw [addr_plus, hc, hu]) (by simp [limbV, Value.oneCell']) (by simp only [maxLen]; omega) (by omega) (Nat.zero_le _)
    refine ⟨v', w', hrun, by simpa [LimbsAt] using h1, ?_, Only.of_grown h2 (by simp [Value.ownBlock])⟩
    intro g hg
    rcases h4 with e | e
    · rw [e] at hg; simp [Value.ownBlock] at hg
    · rw [e] at hg
      have : w.heap.size = g := by simpa using hg
      omega

theorem wpList_append_limbs {w : World} {ops : Array Oper} {rest : List Oper} {o : Oper} {a : Act} {Q : Exit → Act → World → Prop} (hgd : o.guard = none) (s x : Operand)
    (ho : o.op = .call { callee := .builtin .append, args := #[s, x], argTypes := #[42, 42] }) (hs : a.eval s = .slice none 0 0) (A : Option Addr) (xs : List Nat) (n c : Nat) (hx : a.eval x = .slice A n c) (hn : n = xs.length) (hr : LRead w A xs) (hl : (xs.length : Int) ≤ 4000000)
    (h : ∀ v' w', LimbsAt w' v' xs → (∀ g, v'.ownBlock = some g → w.heap.size ≤ g) → Only [] w w' → wpList Tryd.prog ops Q rest (a.put o.dst v') w') : wpList Tryd.prog ops Q (o :: rest) a w := by
  subst hn
  refine wpList_plain hgd fun K hK => ?_
  obtain ⟨v', w', hrun, h1, h2, h3⟩ := run_append_limbs w o.type A xs c hr hl
  unfold Oper.wp execOp
  simp only [ho, resolve, invoke, builtin, Sem.run_bind, Sem.run_pure, Result.andThen_ok, List.map_toArray, List.map_cons, List.map_nil, hs, hx, hrun]
  exact hK _ _ (h v' w' h1 h2 h3)

set_option maxRecDepth 100000 in
/-- Of. -/
theorem of_any (A : Option Addr) (c : Nat) (xs : List Nat) (w : World) (h : Hid (Arg w A xs)) (hc : xs.length ≤ c) :
    Calls Tryd.prog 50 #[.slice A xs.length c] w (NPost (val xs) w) := by
  have HA := Lib.hid h.out.trim
  go_enter Tryd.func50, Tryd.ntmps50
  go_wp2_with (first | (go_at_call 79; (with_reducible refine (trim_any A c xs _ h hc).mono ?_); rintro e w' ⟨rfl, rfl⟩) | (at_builtin; refine wpList_append_limbs rfl _ _ rfl rfl A (limbsOf (val xs)) _ c rfl rfl HA.out.read HA.out.len ?_; intro v' w' h1 h2 h3; have H1 := Lib.hid h1; have H2 := Lib.hid h2; have H3 := Lib.hid h3; clear h1 h2 h3))
  go_ret
  exact ⟨v', rfl, ⟨H1.out, H2.out⟩, H3.out⟩

end Go.Proofs.YtigpnopeacicpaaDoor
/-
  nat: sums and differences: math/bits' Add64 and Sub64, addAt, add, Add, sub, Sub.
-/
namespace Go.Proofs.YtigpnopeacicpaaDoor
open Go.RowKit

theorem Arg.lt {w : World} {A : Option Addr} {xs : List Nat} (h : Arg w A xs) : 0 < xs.length → ∀ a, A = some a → a.block < w.heap.size := fun h0 a ha => by
  obtain ⟨b, o, e, hc⟩ := h.read 0 h0
  rw [ha] at e
  injection e with e
  subst e
  exact World.block_lt_of_cell? w _ hc
/-- A row that has been cut to its number. -/
theorem res_of_blk {w0 w : World} {g : Nat} {zs : List Nat} (hb : Blk w g 90 (limbV zs)) (hz : Limb zs) (hg : w0.heap.size ≤ g) (hl : (zs.length : Int) ≤ 16000000) : Res w0 w (.slice (some ⟨g, 0, none⟩) (limbsOf (val zs)).length zs.length) (val zs) := by
  have e := limbsOf_take hz
  refine ⟨?_, fun q hq => ?_⟩
  · have := LimbsAt.of_blk hb rfl (by simp only [maxLen]; omega) _ e.2
    rwa [e.1] at this
  · have : g = q := by simpa [Value.ownBlock] using hq
    omega

end Go.Proofs.YtigpnopeacicpaaDoor
/-
  nat: differences: sub, Sub, gap; Add of several.
-/
namespace Go.Proofs.YtigpnopeacicpaaDoor
open Go.RowKit

end Go.Proofs.YtigpnopeacicpaaDoor
/-
  nat: Sub, gap, Add of several.
-/
namespace Go.Proofs.YtigpnopeacicpaaDoor
open Go.RowKit

theorem res_nil (w w' : World) : Res w w' (.slice none 0 0) 0 := ⟨by rw [limbsOf_zero]; exact limbsAt_nil w', by simp [Value.ownBlock]⟩
/-- Numbers in a row: their slices, capacities, limbs. -/
structure Item where
  a : Option Addr
  c : Nat
  xs : List Nat
/-- A slice of numbers reads as L. -/
def NsRead (w : World) (A : Option Addr) (L : List Item) : Prop :=
  ∀ (k : Nat) (hk : k < L.length), ∃ b o, A = some ⟨b, o, none⟩ ∧ w.cell? ⟨b, o + k, none⟩ = some (.slice L[k].a L[k].xs.length L[k].c) ∧ Arg w L[k].a L[k].xs ∧ L[k].xs.length ≤ L[k].c ∧ (L[k].xs.length : Int) ≤ 3999999
theorem NsRead.only {w w' : World} {A : Option Addr} {L : List Item} (h : NsRead w A L) (ho : Only [] w w') : NsRead w' A L := fun k hk => by
  obtain ⟨b, o, h1, h2, h3, h4⟩ := h k hk
  exact ⟨b, o, h1, ho.cell h2 (by simp), h3.only ho, h4⟩
end Go.Proofs.YtigpnopeacicpaaDoor

/-
  nat: math/bits' Mul64, Len64, LeadingZeros64; products limb by limb.
-/
namespace Go.Proofs.YtigpnopeacicpaaDoor
open Go.RowKit

theorem u64_wrap {a : Nat} (h : a < BB) : IntKind.u64.wrap (a : Int) = (a : Int) := by
  rw [BB_val] at h
  rw [IntKind.wrap_u64]
  omega
theorem u64_add {a b c : Nat} (h : a + b = c) (hc : c < BB) : IntKind.u64.wrap ((a : Int) + (b : Int)) = (c : Int) := by
  rw [← Int.natCast_add, h]
  exact u64_wrap hc

theorem val_nil : val [] = 0 := rfl

end Go.Proofs.YtigpnopeacicpaaDoor
/-
  nat: products by parts: mul, Mul.
-/
namespace Go.Proofs.YtigpnopeacicpaaDoor
open Go.RowKit

theorem LRead.drop {w : World} {b o : Nat} {xs : List Nat} (h : LRead w (some ⟨b, o, none⟩) xs) (m : Nat) : LRead w (some ⟨b, o + m, none⟩) (xs.drop m) := fun k hk => by
  rw [List.length_drop] at hk
  obtain ⟨b', o', e, hc⟩ := h (m + k) (by omega)
  injection e with e
  injection e with e1 e2 _
  subst e1 e2
  exact ⟨b, o + m, rfl, by rw [List.getElem?_drop, Nat.add_assoc]; exact hc⟩
theorem Arg.drop {w : World} {b o : Nat} {xs : List Nat} (h : Arg w (some ⟨b, o, none⟩) xs) (m : Nat) : Arg w (some ⟨b, o + m, none⟩) (xs.drop m) :=
  ⟨h.read.drop m, h.limb.drop m, by have := h.len; simp; omega⟩
theorem Arg.take {w : World} {A : Option Addr} {xs : List Nat} (h : Arg w A xs) (m : Nat) : Arg w A (xs.take m) :=
  ⟨h.read.take m, h.limb.take m, by have := h.len; simp; omega⟩
end Go.Proofs.YtigpnopeacicpaaDoor

/-
  nat: a row less a multiple of another (take), and that row added again (giveBack).
-/
namespace Go.Proofs.YtigpnopeacicpaaDoor
open Go.RowKit

end Go.Proofs.YtigpnopeacicpaaDoor
/-
  math/bits' Div64.
-/
namespace Go.Proofs.YtigpnopeacicpaaDoor
open Go.RowKit

end Go.Proofs.YtigpnopeacicpaaDoor
/-
  nat.estimate: a guess of a digit that is not too small.
-/
namespace Go.Proofs.YtigpnopeacicpaaDoor
open Go.RowKit

end Go.Proofs.YtigpnopeacicpaaDoor
/-
  nat.left and nat.right: times and by powers of two.
-/
namespace Go.Proofs.YtigpnopeacicpaaDoor
open Go.RowKit

/-- Where a row stands that is being shifted up. -/
structure LCar (w wr : World) (g s r L : Nat) (xs : List Nat) (k : Nat) (zs : List Nat) : Prop where
  blk : Blk wr g 90 (limbV zs)
  limb : Limb zs
  len : zs.length = L
  val_ : val zs = BB ^ s * (val (xs.take k) * 2 ^ r)
  only : Only [g] w wr

/-- One step of it. -/
structure LStep (w wr : World) (g s r L : Nat) (xs : List Nat) (k : Nat) (zs : List Nat) (z v z2 a lo hi : Nat) : Prop where
  c1 : wr.cell? ⟨g, k + s, none⟩ = some (.int .u64 (z : Int))
  e1 : IntKind.u64.wrap ((v : Int) * 2 ^ r) = (a : Int)
  e2 : bits .or .u64 (z : Int) (a : Int) = (lo : Int)
  e3 : (v : Int) / 2 ^ (64 - r) = (hi : Int)
  c2 : (wr.setCell ⟨g, k + s, none⟩ (.int .u64 (lo : Int))).cell? ⟨g, k + s + 1, none⟩ = some (.int .u64 (z2 : Int))
  next : LCar w ((wr.setCell ⟨g, k + s, none⟩ (.int .u64 (lo : Int))).setCell ⟨g, k + s + 1, none⟩ (.int .u64 (hi : Int))) g s r L xs (k + 1) ((zs.set (k + s) lo).set (k + s + 1) hi)

theorem LCar.step {w wr : World} {g s r L : Nat} {xs : List Nat} {k : Nat} {zs : List Nat} (h : LCar w wr g s r L xs k zs) (hr : r < 64) (hx : Limb xs) (hk : k < xs.length) (hL : L = xs.length + s + 1) :
    ∃ z z2 a lo hi, LStep w wr g s r L xs k zs z (xs[k]?.getD 0) z2 a lo hi := by
  have hlen := h.len
  have hv := hx.get k
  have hp : 0 < 2 ^ r := Nat.pow_pos (by omega)
  have hsp : (2 : Nat) ^ r * 2 ^ (64 - r) = BB := by rw [← Nat.pow_add, BB_pow]; congr 1; omega
  have hb := val_lt (hx.take k)
  rw [List.length_take, Nat.min_eq_left (by omega)] at hb
  have hb2 : val zs < BB ^ (k + s) * 2 ^ r := by
    rw [h.val_, Nat.pow_add, Nat.mul_comm (BB ^ k), Nat.mul_assoc]
    exact Nat.mul_lt_mul_of_pos_left (Nat.mul_lt_mul_of_pos_right hb hp) (BB_pow_pos s)
  have hz : zs[k + s]?.getD 0 < 2 ^ r := by
    have h1 := val_ge_get (zs := zs) (k + s)
    exact Nat.lt_of_mul_lt_mul_left (Nat.lt_of_le_of_lt h1 hb2)
  have hz2 : zs[k + s + 1]?.getD 0 = 0 := by
    refine val_high (m := k + s + 1) ?_ _ (Nat.le_refl _)
    refine Nat.lt_of_lt_of_le hb2 ?_
    rw [Nat.pow_succ]
    refine Nat.mul_le_mul_left _ ?_
    rw [← hsp]
    exact Nat.le_mul_of_pos_right _ (Nat.pow_pos (by omega))
  have hzl := h.limb.get (k + s)
  have ha : ∃ a, (xs[k]?.getD 0 * 2 ^ r) % BB = a ∧ 2 ^ r ∣ a ∧ a < BB := ⟨_, rfl, by
    rw [Nat.dvd_mod_iff ⟨2 ^ (64 - r), hsp.symm⟩]
    exact Nat.dvd_mul_left _ _, Nat.mod_lt _ BB_pos⟩
  obtain ⟨a, ha1, ⟨m, ha2⟩, ha3⟩ := ha
  have hdv : xs[k]?.getD 0 * 2 ^ r / BB = xs[k]?.getD 0 / 2 ^ (64 - r) := by
    rw [← hsp, Nat.mul_comm (2 ^ r), Nat.mul_div_mul_right _ _ hp]
  have hsum : zs[k + s]?.getD 0 + a + BB * (xs[k]?.getD 0 / 2 ^ (64 - r)) = zs[k + s]?.getD 0 + xs[k]?.getD 0 * 2 ^ r + 0 := by
    have := Nat.mod_add_div (xs[k]?.getD 0 * 2 ^ r) BB
    rw [ha1, hdv] at this
    omega
  have hlo : zs[k + s]?.getD 0 + a < BB := by
    have h1 : m < 2 ^ (64 - r) := by
      rw [ha2, ← hsp] at ha3
      exact Nat.lt_of_mul_lt_mul_left ha3
    have h2 : 2 ^ r * (m + 1) ≤ 2 ^ r * 2 ^ (64 - r) := Nat.mul_le_mul_left _ h1
    rw [hsp, Nat.mul_add] at h2
    omega
  have hhi : xs[k]?.getD 0 / 2 ^ (64 - r) < BB := Nat.lt_of_le_of_lt (Nat.div_le_self _ _) hv
  have hi1 : k + s < zs.length := by omega
  have hi2 : k + s + 1 < zs.length := by omega
  have hc1 := h.blk.cell (k + s)
  rw [limbV_get _ _ hi1] at hc1
  have hB1 := h.blk.set_ (k + s) (.int .u64 ((zs[k + s]?.getD 0 + a : Nat) : Int))
  rw [limbV_set] at hB1
  have hc2 := hB1.cell (k + s + 1)
  rw [limbV_get _ _ (by rw [List.length_set]; exact hi2)] at hc2
  have hB2 := hB1.set_ (k + s + 1) (.int .u64 ((xs[k]?.getD 0 / 2 ^ (64 - r) : Nat) : Int))
  rw [limbV_set] at hB2
  refine ⟨zs[k + s]?.getD 0, _, a, zs[k + s]?.getD 0 + a, xs[k]?.getD 0 / 2 ^ (64 - r), hc1, ?_, ?_, by simp, hc2, ?_⟩
  · rw [show ((xs[k]?.getD 0 : Nat) : Int) * 2 ^ r = ((xs[k]?.getD 0 * 2 ^ r : Nat) : Int) by simp, IntKind.wrap_u64, ← ha1, BB_val]
    omega
  · have hor : zs[k + s]?.getD 0 + a = zs[k + s]?.getD 0 ||| a := by rw [Nat.add_comm (zs[k + s]?.getD 0), ha2, Nat.two_pow_add_eq_or_of_lt hz, Nat.or_comm]
    rw [hor]
    exact bits_or_u64_nat _ _ (by rw [← BB_val]; exact hzl) (by rw [← BB_val]; exact ha3)
  · refine ⟨hB2, (h.limb.set _ _ hlo).set _ _ hhi, by simp [hlen], ?_, (h.only.trans ((Only.refl [g] wr).setCell (.inl (by simp)) _) (by simp)).trans ((Only.refl [g] _).setCell (.inl (by simp)) _) (by simp)⟩
    have h1 := add_step hi1 hsum
    have h2 := val_set (zs.set (k + s) (zs[k + s]?.getD 0 + a)) (k + s + 1) (xs[k]?.getD 0 / 2 ^ (64 - r)) (by rw [List.length_set]; exact hi2)
    rw [set_get_ne (by omega), hz2, Nat.mul_zero, Nat.add_zero] at h2
    rw [h2, h1, h.val_, val_take_succ xs k hk, Nat.mul_zero, Nat.add_zero, Nat.add_mul, Nat.mul_add]
    rw [Nat.pow_add, Nat.mul_comm (BB ^ k), Nat.mul_assoc (BB ^ s), Nat.mul_assoc (BB ^ k)]

set_option maxHeartbeats 1600000 in
theorem left_any (A : Option Addr) (c n s r : Nat) (xs : List Nat) (w : World) (hA : Hid (Arg w A xs)) (hn : Hid (n = s * 64 + r)) (hr : Hid (r < 64)) (hl : (xs.length : Int) + s + 1 ≤ 4000000) :
    Calls Tryd.prog 109 #[.slice A xs.length c, .int .i64 (n : Int)] w (NPost (val xs * 2 ^ n) w) := by
  have hq2 : (n : Int) / 64 = (s : Int) := by have := hn.out; have := hr.out; omega
  have hq4 : (n : Int) % 64 = (r : Int) := by have := hn.out; have := hr.out; omega
  have hq1 : (n : Int).tdiv 64 = (s : Int) := by rw [Int.tdiv_eq_ediv_of_nonneg (by omega)]; exact hq2
  have hq3 : (n : Int).tmod 64 = (r : Int) := by rw [Int.tmod_eq_emod_of_nonneg (by omega)]; exact hq4
  by_cases h0 : xs.length = 0
  · have h0i : (xs.length : Int) = 0 := by omega
    go_enter Tryd.func109, Tryd.ntmps109
    go_wp2_with fail
    go_ret
    refine ⟨_, rfl, ?_, Only.refl _ _⟩
    rw [List.length_eq_zero_iff.1 h0, val_nil, Nat.zero_mul]
    exact res_nil _ _
  · have h0i : ((xs.length : Int) == 0) = false := by rw [beq_eq_false_iff_ne]; omega
    have h0j : ¬ (xs.length : Int) = 0 := by omega
    obtain ⟨w1, hmk, hb1, ho1, hs1⟩ := make_nat w (xs.length + s + 1) (by omega)
    rw [show ((xs.length + s + 1 : Nat) : Int) = (xs.length : Int) + (s : Int) + 1 by push_cast; rfl] at hmk
    have HStart : Hid (LCar w1 w1 w.heap.size s r (xs.length + s + 1) xs 0 (List.replicate (xs.length + s + 1) 0)) := ⟨hb1, Limb.zeros _, by simp, by rw [val_zeros]; simp [val], Only.refl _ _⟩
    have HO1 := Lib.hid ho1
    have HAlt := Lib.hid hA.out.lt
    clear hb1 ho1 hs1 h0
    generalize hg : w.heap.size = g at HStart hmk HAlt
    have HG : Hid (w.heap.size ≤ g) := by show _ ≤ _; omega
    clear hg
    go_enter Tryd.func109, Tryd.ntmps109
    go_wp2_with fail
    go_loopw [26] (fun kv wr => ∃ (k : Nat) (zs : List Nat), k ≤ xs.length ∧ kv = .int .i64 (k : Int) ∧ LCar w1 wr g s r (xs.length + s + 1) xs k zs) (fun kv _ => xs.length - (intOf kv).toNat)
    case atStart => exact ⟨0, _, Nat.zero_le _, rfl, HStart.out⟩
    case round =>
      obtain ⟨k, zs, hk, rfl, hR⟩ := hrel
      have HR := Lib.hid hR
      clear hR HStart
      by_cases hlt : k < xs.length
      · obtain ⟨b, o, rfl, hc⟩ := (hA.out.read.only HO1.out) k hlt
        have hbg : b ≠ g := by have := HAlt.out (by omega) _ rfl; simp only at this; omega
        have c1 := HR.out.only.cell hc (by simpa using hbg)
        have f2 := HR.out.blk.frozen (k + s)
        have f3 := HR.out.blk.frozen (k + s + 1)
        obtain ⟨z, z2, a, lo, hi, hst⟩ := HR.out.step hr.out hA.out.limb hlt rfl
        have HS := Lib.hid hst.next
        obtain ⟨d1, d2, d3, d4, d5, -⟩ := hst
        generalize xs[k]?.getD 0 = v at c1 d2 d4
        have hk' : (k : Int) < (xs.length : Int) := by omega
        have hi' : (k : Int) + (s : Int) < (xs.length : Int) + (s : Int) + 1 := by omega
        have hi2 : (k : Int) + (s : Int) + 1 < (xs.length : Int) + (s : Int) + 1 := by omega
        have hsr : IntKind.u64.wrap (64 - (r : Int)) = ((64 - r : Nat) : Int) := by
          have := hr.out
          rw [show (64 : Int) - (r : Int) = ((64 - r : Nat) : Int) by omega]
          exact u64_wrap (by rw [BB_val]; omega)
        clear hc hlt
        go_wp2_with fail
        go_roundw
        case rel => exact ⟨k + 1, _, by omega, by go_num, HS.out⟩
        case measure => simp [intOf]; omega
      · have hnl : ¬ (k : Int) < (xs.length : Int) := by omega
        have e : k = xs.length := by omega
        have HV : Hid (val zs = val xs * 2 ^ n) := by
          have h := HR.out.val_
          rw [e, val_take_all, Nat.mul_left_comm] at h
          show _ = _
          rw [h, hn.out, Nat.pow_add, Nat.mul_comm s, Nat.pow_mul, ← BB_pow]
        have HLen := Lib.hid HR.out.len
        clear e hlt
        go_wp2_with fail
        (with_reducible refine (trim_row g _ _ zs wr HR.out.blk HR.out.limb HLen.out.symm (Nat.le_refl _) (by omega)).mono ?_)
        rintro e w4 ⟨rfl, rfl⟩
        go_wp2_with fail
        go_ret
        have hr := res_of_blk (w0 := w) HR.out.blk HR.out.limb HG.out (by have := HLen.out; omega)
        rw [HLen.out] at hr
        exact ⟨_, rfl, HV.out ▸ hr, HO1.out.trans HR.out.only (fun k hk => .inr (by simp at hk; rw [hk]; exact HG.out))⟩

/-- Where a row stands that is being shifted down. -/
structure RCar (w wr : World) (g s r L : Nat) (xs : List Nat) (k : Nat) (zs : List Nat) : Prop where
  blk : Blk wr g 90 (limbV zs)
  limb : Limb zs
  len : zs.length = L
  val_ : ∀ j, j < k → zs[j]?.getD 0 = shrAt r (xs.drop s) j
  only : Only [g] w wr
theorem RCar.set {w wr : World} {g s r L : Nat} {xs : List Nat} {k : Nat} {zs : List Nat} (h : RCar w wr g s r L xs k zs) (_ : k < L) (v : Nat) (hv : v < BB) :
    RCar w (wr.setCell ⟨g, k, none⟩ (.int .u64 (v : Int))) g s r L xs k (zs.set k v) := by
  refine ⟨?_, h.limb.set _ _ hv, by rw [List.length_set, h.len], fun j hj => ?_, h.only.trans ((Only.refl [g] wr).setCell (.inl (by simp)) _) (by simp)⟩
  · rw [← limbV_set]
    exact h.blk.set_ k _
  · rw [set_get_ne (by omega)]
    exact h.val_ j hj
theorem RCar.next {w wr : World} {g s r L : Nat} {xs : List Nat} {k : Nat} {zs : List Nat} (h : RCar w wr g s r L xs k zs) (hk : zs[k]?.getD 0 = shrAt r (xs.drop s) k) : RCar w wr g s r L xs (k + 1) zs := by
  refine ⟨h.blk, h.limb, h.len, fun j hj => ?_, h.only⟩
  by_cases e : j = k
  · rw [e]; exact hk
  · exact h.val_ j (by omega)
theorem RCar.drew {w wr : World} {g s r L : Nat} {xs : List Nat} {k : Nat} {zs : List Nat} (h : RCar w wr g s r L xs k zs) : RCar w wr.drew g s r L xs k zs := ⟨h.blk.drew, h.limb, h.len, h.val_, h.only.drew⟩
theorem shr_or {x y r : Nat} (hr : r < 64) (hx : x < BB) (_ : y < BB) : IntKind.u64.wrap ((y : Int) * 2 ^ (64 - r)) = ((y % 2 ^ r * 2 ^ (64 - r) : Nat) : Int) ∧ bits .or .u64 ((x / 2 ^ r : Nat) : Int) ((y % 2 ^ r * 2 ^ (64 - r) : Nat) : Int) = ((x / 2 ^ r + y % 2 ^ r * 2 ^ (64 - r) : Nat) : Int) ∧ x / 2 ^ r + y % 2 ^ r * 2 ^ (64 - r) < BB := by
  have hp : 0 < 2 ^ r := Nat.pow_pos (by omega)
  have hsp : (2 : Nat) ^ r * 2 ^ (64 - r) = BB := by rw [← Nat.pow_add, BB_pow]; congr 1; omega
  have hx2 : x / 2 ^ r < 2 ^ (64 - r) := by
    rw [Nat.div_lt_iff_lt_mul hp, Nat.mul_comm, hsp]
    exact hx
  have hm := Nat.mod_lt y hp
  have hm2 : (y % 2 ^ r + 1) * 2 ^ (64 - r) ≤ 2 ^ r * 2 ^ (64 - r) := Nat.mul_le_mul_right _ hm
  rw [hsp, Nat.add_mul, Nat.one_mul] at hm2
  have hy2 : y * 2 ^ (64 - r) % BB = y % 2 ^ r * 2 ^ (64 - r) := by rw [← hsp, Nat.mul_mod_mul_right]
  refine ⟨?_, ?_, by omega⟩
  · rw [show (y : Int) * 2 ^ (64 - r) = ((y * 2 ^ (64 - r) : Nat) : Int) by simp, IntKind.wrap_u64, ← hy2, BB_val]
    omega
  · have hor : x / 2 ^ r + y % 2 ^ r * 2 ^ (64 - r) = x / 2 ^ r ||| y % 2 ^ r * 2 ^ (64 - r) := by rw [Nat.add_comm, Nat.mul_comm (y % 2 ^ r), Nat.two_pow_add_eq_or_of_lt hx2, Nat.or_comm]
    have hyb : y % 2 ^ r * 2 ^ (64 - r) < BB := Nat.lt_of_lt_of_le (Nat.lt_add_of_pos_right (Nat.pow_pos (by omega))) hm2
    rw [hor]
    rw [BB_val] at hx hyb
    exact bits_or_u64_nat _ _ (Nat.lt_of_le_of_lt (Nat.div_le_self _ _) hx) hyb

set_option maxHeartbeats 1600000 in
set_option maxRecDepth 100000 in
theorem right_any (A : Option Addr) (c n s r : Nat) (xs : List Nat) (w : World) (hA : Hid (Arg w A xs)) (hn : Hid (n = s * 64 + r)) (hr : Hid (r < 64)) (hsb : (s : Int) ≤ 1000000000) :
    Calls Tryd.prog 113 #[.slice A xs.length c, .int .i64 (n : Int)] w (NPost (val xs / 2 ^ n) w) := by
  have hq2 : (n : Int) / 64 = (s : Int) := by have := hn.out; have := hr.out; omega
  have hq4 : (n : Int) % 64 = (r : Int) := by have := hn.out; have := hr.out; omega
  have hq1 : (n : Int).tdiv 64 = (s : Int) := by rw [Int.tdiv_eq_ediv_of_nonneg (by omega)]; exact hq2
  have hq3 : (n : Int).tmod 64 = (r : Int) := by rw [Int.tmod_eq_emod_of_nonneg (by omega)]; exact hq4
  have HN1 : Hid (n / 64 = s) := by have := hn.out; have := hr.out; show _ = _; omega
  have HN2 : Hid (n % 64 = r) := by have := hn.out; have := hr.out; show _ = _; omega
  by_cases h0 : xs.length ≤ s
  · have h0i : (xs.length : Int) ≤ (s : Int) := by omega
    go_enter Tryd.func113, Tryd.ntmps113
    go_wp2_with fail
    go_ret
    refine ⟨_, rfl, ?_, Only.refl _ _⟩
    rw [shr_small xs hA.out.limb n (by rw [HN1.out]; exact h0)]
    exact res_nil _ _
  · have h0i : ¬ (xs.length : Int) ≤ (s : Int) := by omega
    have hlen := hA.out.len
    obtain ⟨L, hL⟩ : ∃ L, xs.length = s + L := ⟨xs.length - s, by omega⟩
    obtain ⟨w1, hmk, hb1, ho1, hs1⟩ := make_nat w L (by omega)
    have hLi : (xs.length : Int) - (s : Int) = (L : Int) := by omega
    have HStart : Hid (RCar w1 w1 w.heap.size s r L xs 0 (List.replicate L 0)) := ⟨hb1, Limb.zeros _, by simp, by omega, Only.refl _ _⟩
    have HO1 := Lib.hid ho1
    have HAlt := Lib.hid hA.out.lt
    have hLl : (L : Int) ≤ 4000000 := by omega
    have HL := Lib.hid hL
    clear hb1 ho1 hs1 h0 hL
    generalize hg : w.heap.size = g at HStart hmk HAlt
    have HG : Hid (w.heap.size ≤ g) := by show _ ≤ _; omega
    clear hg
    go_enter Tryd.func113, Tryd.ntmps113
    go_wp2_with fail
    go_loopw [25] (fun kv wr => ∃ (k : Nat) (zs : List Nat), k ≤ L ∧ kv = .int .i64 (k : Int) ∧ RCar w1 wr g s r L xs k zs) (fun kv _ => L - (intOf kv).toNat)
    case atStart => exact ⟨0, _, Nat.zero_le _, rfl, HStart.out⟩
    case round =>
      obtain ⟨k, zs, hk, rfl, hR⟩ := hrel
      have HR := Lib.hid hR
      clear hR HStart
      by_cases hlt : k < L
      · obtain ⟨b, o, rfl, hc⟩ := (hA.out.read.only HO1.out) (k + s) (by have := HL.out; omega)
        have hbg : b ≠ g := by have := HAlt.out (by have := HL.out; omega) _ rfl; simp only at this; omega
        have c1 := HR.out.only.cell hc (by simpa using hbg)
        have f2 := HR.out.blk.frozen k
        have c2 := HR.out.blk.cell k
        rw [limbV_get _ _ (by rw [HR.out.len]; exact hlt)] at c2
        have HX := Lib.hid (hA.out.limb.get (k + s))
        have hd1 : (((xs[k + s]?.getD 0 : Nat)) : Int) / 2 ^ r = ((xs[k + s]?.getD 0 / 2 ^ r : Nat) : Int) := by simp
        have HS := Lib.hid (HR.out.set hlt (xs[k + s]?.getD 0 / 2 ^ r) (Nat.lt_of_le_of_lt (Nat.div_le_self _ _) HX.out))
        have c3 := HS.out.blk.cell k
        rw [limbV_get _ _ (by rw [HS.out.len]; exact hlt), set_get_eq (by rw [HR.out.len]; exact hlt)] at c3
        have f3 := HS.out.blk.frozen k
        have hk' : (k : Int) < (L : Int) := by omega
        have hi' : (k : Int) + (s : Int) < (xs.length : Int) := by have := HL.out; omega
        have HAt : Hid (shrAt r (xs.drop s) k = xs[k + s]?.getD 0 / 2 ^ r + (xs[k + s + 1]?.getD 0 % 2 ^ r) * 2 ^ (64 - r)) := by
          show _ = _
          unfold shrAt
          rw [List.getElem?_drop, List.getElem?_drop, show s + k = k + s by omega, show s + (k + 1) = k + s + 1 by omega]
        by_cases hl2 : k + s + 1 < xs.length
        · obtain ⟨b', o', e', hc2⟩ := (hA.out.read.only HO1.out) (k + s + 1) hl2
          injection e' with e'
          injection e' with e1 e2 _
          subst e1 e2
          have c4 := HS.out.only.cell hc2 (by simpa using hbg)
          obtain ⟨t1, t2, t3⟩ := shr_or (r := r) hr.out HX.out (hA.out.limb.get (k + s + 1))
          have HS2 : ∀ wd, RCar w1 wd g s r L xs k (zs.set k (xs[k + s]?.getD 0 / 2 ^ r)) → RCar w1 (wd.setCell ⟨g, k, none⟩ (.int .u64 ((xs[k + s]?.getD 0 / 2 ^ r + xs[k + s + 1]?.getD 0 % 2 ^ r * 2 ^ (64 - r) : Nat) : Int))) g s r L xs (k + 1) ((zs.set k (xs[k + s]?.getD 0 / 2 ^ r)).set k (xs[k + s]?.getD 0 / 2 ^ r + xs[k + s + 1]?.getD 0 % 2 ^ r * 2 ^ (64 - r))) :=
            fun wd hd => (hd.set hlt _ t3).next (by rw [set_get_eq (by rw [hd.len]; exact hlt), HAt.out])
          have HS2 := Lib.hid HS2
          have hi2 : (k : Int) + (s : Int) + 1 < (xs.length : Int) := by omega
          have hsr : IntKind.u64.wrap (64 - (r : Int)) = ((64 - r : Nat) : Int) := by
            have := hr.out
            rw [show (64 : Int) - (r : Int) = ((64 - r : Nat) : Int) by omega]
            exact u64_wrap (by rw [BB_val]; omega)
          clear hc hc2 hlt t3 HAt hl2
          generalize hx1 : xs[k + s]?.getD 0 / 2 ^ r = xr at *
          generalize xs[k + s]?.getD 0 = x at *
          generalize xs[k + s + 1]?.getD 0 = y at *
          generalize y % 2 ^ r * 2 ^ (64 - r) = yr at *
          generalize xr + yr = zr at *
          go_wp2_with fail
          have hkS : (k : Int) + (s : Int) ≤ 4000000 := by omega
          obtain ⟨e1, he1⟩ : ∃ e1, k + s = e1 := ⟨_, rfl⟩
          obtain ⟨e2, he2⟩ : ∃ e2, e1 + 1 = e2 := ⟨_, rfl⟩
          have hm1 : IntKind.i64.wrap ((k : Int) + (s : Int)) = (e1 : Int) := by rw [IntKind.wrap_i64]; omega
          have hm2 : IntKind.i64.wrap ((e1 : Int) + 1) = (e2 : Int) := by rw [IntKind.wrap_i64]; omega
          have hm3 : (e2 : Int) < (xs.length : Int) := by omega
          rw [show k + s + 1 = e2 by omega] at c4
          generalize wr.setCell ⟨g, k, none⟩ (.int .u64 (xr : Int)) = wx at HS c3 c4 f3 ⊢
          go_still_tail 16, (by kernel_rfl)
          change wpList _ _ _ _ _ wx.drew
          have HSd := Lib.hid HS.out.drew
          generalize wx.drew = wd at HSd ⊢
          have f4 := HSd.out.blk.frozen k
          have c5 := HSd.out.blk.cell k
          rw [limbV_get _ _ (by rw [HSd.out.len]; omega)] at c5
          go_wp2_with fail
          go_roundw
          case rel => exact ⟨k + 1, _, by omega, by go_num, HS2.out _ HSd.out⟩
          case measure => simp [intOf]; omega
        · have hnl2 : ¬ (k : Int) + (s : Int) + 1 < (xs.length : Int) := by omega
          have HS2 := Lib.hid (HS.out.next (by
            rw [set_get_eq (by rw [HR.out.len]; exact hlt), HAt.out, List.getElem?_eq_none (l := xs) (i := k + s + 1) (by omega)]
            simp))
          clear hc hlt HAt hl2
          generalize hx1 : xs[k + s]?.getD 0 / 2 ^ r = xr at *
          generalize xs[k + s]?.getD 0 = x at *
          go_wp2_with fail
          go_roundw
          case rel => exact ⟨k + 1, _, by omega, by go_num, HS2.out⟩
          case measure => simp [intOf]; omega
      · have hnl : ¬ (k : Int) < (L : Int) := by omega
        have e : k = L := by omega
        have HV : Hid (val zs = val xs / 2 ^ n) := by
          have h := HR.out.val_
          have hz := eq_shrL (r := r) (xs := xs.drop s) (zs := zs) (by rw [HR.out.len, List.length_drop, HL.out]; omega) (fun j hj => h j (by rw [List.length_drop, HL.out] at hj; omega))
          show _ = _
          rw [hz, ← HN1.out, ← HN2.out, shr_val xs hA.out.limb n (by rw [HN1.out, HL.out]; omega)]
        have HLen := Lib.hid HR.out.len
        clear e hlt
        go_wp2_with fail
        (with_reducible refine (trim_row g _ _ zs wr HR.out.blk HR.out.limb HLen.out.symm (Nat.le_refl _) (by omega)).mono ?_)
        rintro e w4 ⟨rfl, rfl⟩
        go_wp2_with fail
        go_ret
        have hr := res_of_blk (w0 := w) HR.out.blk HR.out.limb HG.out (by have := HLen.out; omega)
        rw [HLen.out] at hr
        exact ⟨_, rfl, HV.out ▸ hr, HO1.out.trans HR.out.only (fun k hk => .inr (by simp at hk; rw [hk]; exact HG.out))⟩
end Go.Proofs.YtigpnopeacicpaaDoor
/-
  nat.short: a row divided by a limb in place.
-/
namespace Go.Proofs.YtigpnopeacicpaaDoor
open Go.RowKit

theorem val_drop_cons (xs : List Nat) (j : Nat) (h : j < xs.length) : val (xs.drop j) = xs[j]?.getD 0 + BB * val (xs.drop (j + 1)) := by
  rw [List.drop_eq_getElem_cons h]
  simp [val, h]
end Go.Proofs.YtigpnopeacicpaaDoor

/-
  Decimal digits, in parts of 19: the plain law (no program in sight).
-/
namespace Go.Proofs.YtigpnopeacicpaaDoor
open Go.Lib

end Go.Proofs.YtigpnopeacicpaaDoor
/-
  strings.Builder at this dump: copyCheck and WriteString (the shelf's proofs turned: at a door the panic's text in copyCheck is refused by the loader, so that the shelf's laying falls).
-/
namespace Go.Proofs.YtigpnopeacicpaaDoor
open Go.RowKit

end Go.Proofs.YtigpnopeacicpaaDoor
/-
  strconv.FormatUint at base 10, for every uint64.
-/
namespace Go.Proofs.YtigpnopeacicpaaDoor
open Go.RowKit Go.Sort

/-- The table of the powers of ten stands. -/
def Tab (w : World) : Prop := Lib.TabIs Tryd.prog w "internal/strconv.uint64pow10" .u64 Lib.pow10Tab
theorem Tab.only {w w' : World} (h : Tab w) (ho : Only [] w w') : Tab w' := by
  unfold Tab Lib.TabIs World.var? at *
  cases hg : Tryd.prog.globalNamed "internal/strconv.uint64pow10" with
  | none => simp [hg] at h
  | some g =>
    simp only [hg, Option.bind_some] at h ⊢
    have hlt : g < w.heap.size := by
      rcases Nat.lt_or_ge g w.heap.size with h' | h'
      · exact h'
      · rw [Array.getElem?_eq_none h'] at h; simp at h
    rw [ho.block g hlt (by simp)]
    exact h
theorem Only.grow {w : World} (S : List Nat) (k : Nat) (os : Array Obj) : Only S w (grow (w.drewN k) os) :=
  ⟨rfl, rfl, rfl, by simp, fun j hj _ => heap_grow_old (w.drewN k) os hj⟩

end Go.Proofs.YtigpnopeacicpaaDoor
/-
  nat.Text: the decimal digits.
-/
namespace Go.Proofs.YtigpnopeacicpaaDoor
open Go.RowKit

theorem owns_only {w w' : World} {S : List Nat} {base : Nat} {e : TypeId} {s n : Nat} {v : Value} {xs : List Value} (h : w.ownsRow base e s v n xs) (ho : Only S w w') (hn : ∀ g, v.ownBlock = some g → g ∉ S) : w'.ownsRow base e s v n xs := by
  rcases h with ⟨h0, h1 | ⟨g, cap, cur, rfl, hb, hg, h2⟩⟩
  · exact ⟨h0, .inl h1⟩
  · exact ⟨h0, .inr ⟨g, cap, cur, rfl, hb, ho.heap hg (hn g rfl), h2⟩⟩
/-- A result as a row. -/
theorem Res.row {w0 w : World} {u : Value} {n : Nat} (h : Res w0 w u n) (hn : n ≠ 0) : ∃ g c tl, u = .slice (some ⟨g, 0, none⟩) (limbsOf n).length c ∧ Blk w g 90 (limbV (limbsOf n) ++ tl) ∧ w0.heap.size ≤ g ∧ g < w.heap.size ∧ (limbsOf n).length ≤ c := by
  have h1 := h.at_
  rcases h1.2 with ⟨rfl, h0⟩ | ⟨g, cap, cur, rfl, _, hg, hc, _, _, ht⟩
  · exact absurd (limbsOf_len0.1 h0) hn
  · refine ⟨g, cap, cur.toList.drop (limbsOf n).length, rfl, ?_, h.fresh g rfl, lt_of_heap hg, hc⟩
    unfold Blk
    rw [hg]
    congr 2
    apply Array.ext'
    rw [Nat.mul_one] at ht
    rw [← ht]
    simp

end Go.Proofs.YtigpnopeacicpaaDoor

/-
  De Bruijn's table, and a world in which it stands.
-/
namespace Go.Proofs.YtigpnopeacicpaaDoor
open Go.ChangeShapes Go.WideShapes Go.RowKit

def tab64 : List Int := [0, 1, 56, 2, 57, 49, 28, 3, 61, 58, 42, 50, 38, 29, 17, 4, 62, 47, 59, 36, 45, 43, 51, 22, 53, 39, 33, 30, 24, 18, 12, 5, 63, 55, 48, 27, 60, 41, 37, 16, 46, 35, 44, 21, 52, 32, 23, 11, 54, 26, 40, 15, 34, 20, 31, 10, 25, 14, 19, 9, 13, 8, 7, 6]
/-- De Bruijn's table stands. -/
def Tab6 (w : World) : Prop := Lib.TabIs Tryd.prog w "math/bits.deBruijn64tab" .u8 tab64
theorem tabis_only {name : String} {k : IntKind} {zs : List Int} {w w' : World} (h : Lib.TabIs Tryd.prog w name k zs) (ho : Only [] w w') : Lib.TabIs Tryd.prog w' name k zs := by
  unfold Lib.TabIs World.var? at *
  cases hg : Tryd.prog.globalNamed name with
  | none => simp [hg] at h
  | some g =>
    simp only [hg, Option.bind_some] at h ⊢
    have hlt : g < w.heap.size := by
      rcases Nat.lt_or_ge g w.heap.size with h' | h'
      · exact h'
      · rw [Array.getElem?_eq_none h'] at h; simp at h
    rw [ho.block g hlt (by simp)]
    exact h
end Go.Proofs.YtigpnopeacicpaaDoor

/-
  What the one laid table (de Bruijn's) gives a walk, and a world in which it is laid.
-/
namespace Go.Proofs.YtigpnopeacicpaaDoor
open Go.ChangeShapes Go.WideShapes Go.RowKit

abbrev laidList1 (H : Type) : List (String × DataW H) := [("math/bits.deBruijn64tab", Rows.laid_math_bits_deBruijn64tab)]
theorem tab_of_laid1 {W : World} (h : laidMetH Tryd.prog (laidList1 Unit) W) : Tab6 W := by
  have h0 : laidMet Tryd.prog (laidList1 Unit) W := h
  exact Lib.tabIs_of_head (g := 6) (t := 219) (e := 5) (n := 64) (by kernel_rfl) (by kernel_rfl) Tryd.underlying219 Tryd.underlying5 (by kernel_rfl) (by kernel_rfl) h0
/-- A world that meets the condition: the settled one, the table's cells laid. -/
noncomputable def laidWorld1 (os : Os) : World :=
  let w0 := World.holding Tryd.prog os ⟨#[], #[], []⟩
  let lay (cs : Array Value) : Obj → Obj := fun
    | .cells _ t frozen => .cells cs t frozen
    | o => o
  { w0 with heap := w0.heap.modify 6 (lay (tab64.map fun z => Value.int .u8 z).toArray) }
theorem laidWorld1_met (os : Os) (args : Array Value) : laidMetH Tryd.prog (laidList1 Unit) ((laidWorld1 os).forCall (fun _ _ => 0) ⟨#[], args, []⟩).memory :=
  laidMetH_of_parts (laidMet_of_run' 8 (by kernel_rfl) (by kernel_rfl)) (by kernel_rfl)
end Go.Proofs.YtigpnopeacicpaaDoor
