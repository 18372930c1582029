/-
  Limbs in memory: what a slice of limbs reads as; rows of the call's own; make and copy.
-/
import Derived.Test.YtigpnopeacicpaaDoorTaGVal
import Derived.Test.YtigpnopeacicpaaDoorProg
import Derived.Laws.OwnMore
import Derived.Laws.MakeOwn
import Derived.Laws.CopyOwn
import Derived.OwnWalk
import Derived.Shelf.Spec.BitsCarry
namespace Go.Proofs.YtigpnopeacicpaaDoor
open Go.RowKit

theorem addr_plus (b o j : Nat) : (⟨b, o, none⟩ : Addr).add j = ⟨b, o + j, none⟩ := by
  unfold Addr.add
  by_cases h : j = 0 <;> simp [h]
def limbV (xs : List Nat) : List Value := xs.map fun (x : Nat) => .int .u64 (x : Int)
theorem limbV_len (xs : List Nat) : (limbV xs).length = xs.length := by simp [limbV]
theorem limbV_set (xs : List Nat) (i v : Nat) : (limbV xs).set i (.int .u64 (v : Int)) = limbV (xs.set i v) := by simp [limbV, List.map_set]
theorem limbV_get (xs : List Nat) (i : Nat) (h : i < xs.length) : (limbV xs)[i]? = some (.int .u64 ((xs[i]?.getD 0 : Nat) : Int)) := by simp [limbV, h]
/-- A slice of limbs reads as xs. -/
def LRead (w : World) (A : Option Addr) (xs : List Nat) : Prop := ∀ k, k < xs.length → ∃ b o, A = some ⟨b, o, none⟩ ∧ w.cell? ⟨b, o + k, none⟩ = some (.int .u64 ((xs[k]?.getD 0 : Nat) : Int))
/-- A row of limbs of its own. -/
def LimbsAt (w : World) (u : Value) (xs : List Nat) : Prop := w.ownsRow 0 90 1 u xs.length (limbV xs)
section
variable {w w' : World} {A : Option Addr} {xs : List Nat} {u : Value} {S : List Nat}
theorem LRead.only (h : LRead w A xs) (ho : Only [] w w') : LRead w' A xs := fun k hk => by
  obtain ⟨b, o, h1, h2⟩ := h k hk
  exact ⟨b, o, h1, ho.cell h2 (by simp)⟩
theorem LRead.take (h : LRead w A xs) (n : Nat) : LRead w A (xs.take n) := fun k hk => by
  rw [List.length_take] at hk
  obtain ⟨b, o, h1, h2⟩ := h k (by omega)
  exact ⟨b, o, h1, by rw [List.getElem?_take_of_lt (by omega)]; exact h2⟩
theorem LRead.nil : LRead w A [] := fun k hk => by simp at hk
theorem LRead.of_blk {g : Nat} {t : TypeId} (h : Blk w g t (limbV xs)) : LRead w (some ⟨g, 0, none⟩) xs := fun k hk => ⟨g, 0, rfl, by
  rw [h.cell, Nat.zero_add, limbV_get _ _ hk]⟩
theorem LimbsAt.read {c : Nat} {n : Nat} (h : LimbsAt w (.slice A n c) xs) : n = xs.length ∧ LRead w A xs := by
  rcases h.2 with ⟨e, h0⟩ | ⟨g, cap, cur, e, _, hg, hn, hm, _⟩
  · injection e with e1 e2 e3
    exact ⟨by omega, fun k hk => by omega⟩
  · injection e with e1 e2 e3
    subst e1
    refine ⟨e2, fun k hk => ⟨g, 0, rfl, ?_⟩⟩
    have hc := World.ownsRow.cells h (g := g) rfl
    have h1 := hc k _ (limbV_get _ _ hk)
    rw [addr_plus] at h1
    exact h1
theorem LimbsAt.shape (h : LimbsAt w u xs) : ∃ A c, u = .slice A xs.length c ∧ LRead w A xs ∧ xs.length ≤ c ∧ c ≤ maxLen := by
  rcases h.2 with ⟨rfl, h0⟩ | ⟨g, cap, cur, rfl, _, hg, hn, hm, _⟩
  · exact ⟨none, 0, by rw [h0], fun k hk => by omega, by omega, Nat.zero_le _⟩
  · exact ⟨_, cap, rfl, (LimbsAt.read h).2, hn, hm⟩
theorem LimbsAt.only (h : LimbsAt w u xs) (ho : Only S w w') (hn : ∀ g, u.ownBlock = some g → g ∉ S) : LimbsAt w' u xs := by
  rcases h with ⟨h0, h1 | ⟨g, cap, cur, rfl, hb, hg, h2⟩⟩
  · exact ⟨h0, .inl h1⟩
  · exact ⟨h0, .inr ⟨g, cap, cur, rfl, hb, ho.heap hg (hn g rfl), h2⟩⟩
theorem LimbsAt.lt (h : LimbsAt w u xs) : ∀ g, u.ownBlock = some g → g < w.heap.size := fun g hg => (World.ownsRow.lt h g hg).2
theorem limbsAt_nil (w : World) : LimbsAt w (.slice none 0 0) [] := World.ownsRow_nil _ _ _ _
theorem LimbsAt.of_blk {g c : Nat} (h : Blk w g 90 (limbV xs)) (hc : c = xs.length) (hm : c ≤ maxLen) (n : Nat) (hn : n ≤ xs.length) : LimbsAt w (.slice (some ⟨g, 0, none⟩) n c) (xs.take n) := by
  subst hc
  have hl : (xs.take n).length = n := by rw [List.length_take]; omega
  refine ⟨by simp [limbV], .inr ⟨g, xs.length, (limbV xs).toArray, by rw [hl], Nat.zero_le _, h, by rw [hl]; exact hn, hm, by simp [limbV], ?_⟩⟩
  rw [hl]
  simp [limbV]
end

/-- An argument: it reads as xs, whose limbs are limbs, and not too many. -/
structure Arg (w : World) (A : Option Addr) (xs : List Nat) : Prop where
  read : LRead w A xs
  limb : Limb xs
  len : (xs.length : Int) ≤ 4000000
theorem Arg.only {w w' : World} {A : Option Addr} {xs : List Nat} (h : Arg w A xs) (ho : Only [] w w') : Arg w' A xs := ⟨h.read.only ho, h.limb, h.len⟩
theorem Arg.trim {w : World} {A : Option Addr} {xs : List Nat} (h : Arg w A xs) : Arg w A (limbsOf (val xs)) := by
  have e := limbsOf_take h.limb
  refine ⟨?_, limb_limbsOf _, by have := h.len; have := e.2; omega⟩
  rw [← e.1]
  exact h.read.take _

/-- A result: a row of the call's own that holds just the limbs of n. -/
structure Res (w0 w : World) (u : Value) (n : Nat) : Prop where
  at_ : LimbsAt w u (limbsOf n)
  fresh : ∀ g, u.ownBlock = some g → w0.heap.size ≤ g
theorem Res.only {w0 w w' : World} {u : Value} {n : Nat} {S : List Nat} (h : Res w0 w u n) (ho : Only S w w') (hn : ∀ g, u.ownBlock = some g → g ∉ S) : Res w0 w' u n := ⟨h.at_.only ho hn, h.fresh⟩
theorem Res.nil {w0 w w' : World} {u : Value} {n : Nat} (h : Res w0 w u n) (ho : Only [] w w') : Res w0 w' u n := h.only ho (by simp)
theorem Res.pre {w0 w1 w : World} {u : Value} {n : Nat} (h : Res w1 w u n) (ho : w0.heap.size ≤ w1.heap.size) : Res w0 w u n := ⟨h.at_, fun g hg => Nat.le_trans ho (h.fresh g hg)⟩
/-- What a function leaves that tells a number. -/
def NPost (n : Nat) (w : World) (e : Ending) (w' : World) : Prop := ∃ u, e = .returned u ∧ Res w w' u n ∧ Only [] w w'

theorem Tryd.u64Info : (Tryd.prog.info? 90).map (fun i => (i.zero, i.size, i.bytes)) = some (some (.int .u64 0), 1, 8) := by kernel_rfl
theorem u64_parts : ∃ i : TypeInfo, Tryd.prog.info? 90 = some i ∧ i.zero = some (.int .u64 0) ∧ i.size = 1 ∧ i.bytes = 8 := by
  obtain ⟨i, h, e⟩ := Option.map_eq_some_iff.1 Tryd.u64Info
  simp only [Prod.mk.injEq] at e
  exact ⟨i, h, e.1, e.2.1, e.2.2⟩
theorem limbV_zeros (n : Nat) : limbV (List.replicate n 0) = List.replicate n (.int .u64 0) := by simp [limbV]
set_option maxRecDepth 100000 in
/-- make(Nat, n). -/
theorem make_nat (w : World) (n : Nat) (hn : (n : Int) ≤ 16000000) : ∃ w', (Instr.makeSlice 42 (.int .i64 (n : Int)) (.int .i64 (n : Int))).run Tryd.prog w = .ok (.slice (some ⟨w.heap.size, 0, none⟩) n n) w' ∧
    Blk w' w.heap.size 90 (limbV (List.replicate n 0)) ∧ Only [] w w' ∧ w.heap.size < w'.heap.size := by
  obtain ⟨i0, hi, hz0, hz1, hz2⟩ := u64_parts
  obtain ⟨w', hr, ho, hg⟩ := run_make_full (P := Tryd.prog) w 0 42 90 i0 _ 1 Tryd.underlying42 hi hz0 hz1 .i64 .i64 n (by rw [hz2]; omega) (by simp only [maxLen]; omega) (Nat.zero_le _)
  refine ⟨w', hr, ?_, Only.of_grown hg (by simp), (World.ownsRow.lt ho _ rfl).2⟩
  rcases ho.2 with ⟨h0, _⟩ | ⟨g, cap, cur, e, _, hb, _, _, hs, ht⟩
  · cases h0
  · injection e with e1 e2 e3
    injection e1 with e1
    injection e1 with e1 _ _
    subst e1 e3
    unfold Blk
    rw [hb, limbV_zeros]
    congr 2
    apply Array.ext'
    rw [← List.take_of_length_le (l := cur.toList) (i := n * 1) (by simp [hs]), ht]
    have e : (Value.int IntKind.u64 0).cells = #[.int .u64 0] := rfl
    simp only [madeCells, e]
    simp [Nat.mod_one]
    apply List.ext_getElem <;> simp
end Go.Proofs.YtigpnopeacicpaaDoor
/-
  Slices of limbs, cut.
-/
namespace Go.Proofs.YtigpnopeacicpaaDoor
open Go.RowKit

end Go.Proofs.YtigpnopeacicpaaDoor
/-
  nat: trim, Of, Cmp.
-/
namespace Go.Proofs.YtigpnopeacicpaaDoor
open Go.RowKit

set_option maxHeartbeats 800000 in
theorem trim_any (A : Option Addr) (c : Nat) (xs : List Nat) (w : World) (h : Hid (Arg w A xs)) (hc : xs.length ≤ c) :
    Calls Tryd.prog 79 #[.slice A xs.length c] w fun e w' => e = .returned (.slice A (limbsOf (val xs)).length c) ∧ w = w' := by
  have hlen := h.out.len
  go_enter Tryd.func79, Tryd.ntmps79
  go_wp2
  go_loop [3] (fun t => ∃ n : Nat, n ≤ xs.length ∧ t = .int .i64 (n : Int) ∧ ∀ j, n ≤ j → j < xs.length → xs[j]?.getD 0 = 0) (fun t => (intOf t).toNat)
  case atStart => exact ⟨xs.length, Nat.le_refl _, rfl, fun j h1 h2 => by omega⟩
  case round =>
    obtain ⟨n, hn, rfl, hz⟩ := hrel
    have HZ := Lib.hid hz
    clear hz
    cases n with
    | zero =>
      have HE : Hid ((limbsOf (val xs)).length = 0) := (trim_stop h.out.limb 0 hn HZ.out (fun h => by omega)).1
      go_wp2
      go_ret
      exact ⟨by rw [HE.out]; rfl, rfl⟩
    | succ m =>
      obtain ⟨b, o, rfl, hcell⟩ := h.out.read m (by omega)
      by_cases h0 : xs[m]?.getD 0 = 0
      · have HZ' : Hid (∀ j, m ≤ j → j < xs.length → xs[j]?.getD 0 = 0) := fun j h1 h2 => by
          by_cases e : j = m
          · rw [e]; exact h0
          · exact HZ.out j (by omega) h2
        rw [h0] at hcell
        clear h0
        go_wp2
        go_round
        case rel => exact ⟨m, by omega, by go_num, HZ'.out⟩
        case measure => simp [intOf]
      · have HE : Hid ((limbsOf (val xs)).length = m + 1) := (trim_stop h.out.limb (m + 1) hn HZ.out (fun _ => by simpa using h0)).1
        have g0 : (((xs[m]?.getD 0 : Nat) : Int) == 0) = false := beq_eq_false_iff_ne.2 (by omega)
        generalize xs[m]?.getD 0 = x at hcell g0
        clear h0
        go_wp2
        go_ret
        exact ⟨by rw [HE.out]; rfl, rfl⟩

/-- trim, of a row that is known whole. -/
theorem trim_row (g n c : Nat) (zs : List Nat) (w : World) (hb : Blk w g 90 (limbV zs)) (hz : Limb zs) (hn : n = zs.length) (hc : n ≤ c) (hl : (n : Int) ≤ 4000000) :
    Calls Tryd.prog 79 #[.slice (some ⟨g, 0, none⟩) n c] w fun e w' => e = .returned (.slice (some ⟨g, 0, none⟩) (limbsOf (val zs)).length c) ∧ w = w' := by
  subst hn
  exact trim_any _ c zs w ⟨.of_blk hb, hz, hl⟩ hc

set_option maxRecDepth 100000 in
theorem run_append_limbs (w : World) (ty : TypeId) (A : Option Addr) (xs : List Nat) (c : Nat) (hr : LRead w A xs) (hl : (xs.length : Int) ≤ 4000000) :
    ∃ v' w', (Builtin.append_ #[42, 42] ty #[.slice none 0 0, .slice A xs.length c]).run Tryd.prog w = .ok v' w' ∧ LimbsAt w' v' xs ∧ (∀ g, v'.ownBlock = some g → w.heap.size ≤ g) ∧ Only [] w w' := by
  obtain ⟨i0, hi, hz0, hz1, hz2⟩ := u64_parts
  cases xs with
  | nil =>
    cases A with
    | none =>
      refine ⟨.slice none 0 0, w, ?_, limbsAt_nil w, by simp [Value.ownBlock], Only.refl _ _⟩
      simp [Builtin.append_, run_underlying Tryd.underlying42, sizeOf, typeInfo, hi, Builtin.lenOf, Builtin.firstCells]
    | some ad =>
      obtain ⟨v', w', hrun, h1, h2, h3, _⟩ := run_append_own_at (P := Tryd.prog) w 0 42 ty 90 i0 _ 1 8 Tryd.underlying42 hi hz0 hz1 hz2 rfl (by decide) (.slice none 0 0) 0 [] (World.ownsRow_nil _ _ _ _) ad 0 c [] rfl (by simp) (by simp) (by simp [maxLen]) (by omega) (Nat.zero_le _)
      obtain rfl := h3.2 ⟨rfl, rfl⟩
      exact ⟨_, w', hrun, limbsAt_nil w', by simp [Value.ownBlock], Only.of_grown h2 (by simp [Value.ownBlock])⟩
  | cons x xs =>
    obtain ⟨b, o, rfl, _⟩ := hr 0 (by simp)
    obtain ⟨v', w', hrun, h1, h2, h3, h4⟩ := run_append_own_at (P := Tryd.prog) w 0 42 ty 90 i0 _ 1 8 Tryd.underlying42 hi hz0 hz1 hz2 rfl (by decide) (.slice none 0 0) 0 [] (World.ownsRow_nil _ _ _ _) ⟨b, o, none⟩ (x :: xs).length c (limbV (x :: xs)) (by simp [limbV]) (fun j u hu => by
        have hjl : j < (x :: xs).length := by
          have := (List.getElem?_eq_some_iff.1 hu).1
          rwa [limbV_len] at this
        rw [limbV_get _ _ hjl] at hu
        obtain ⟨b', o', e, hc⟩ := hr j hjl
        injection e with e
        injection e with e1 e2 _
        subst e1 e2
        rw [addr_plus, hc, hu]) (by simp [limbV, Value.oneCell']) (by simp only [maxLen]; omega) (by omega) (Nat.zero_le _)
    refine ⟨v', w', hrun, by simpa [LimbsAt] using h1, ?_, Only.of_grown h2 (by simp [Value.ownBlock])⟩
    intro g hg
    rcases h4 with e | e
    · rw [e] at hg; simp [Value.ownBlock] at hg
    · rw [e] at hg
      have : w.heap.size = g := by simpa using hg
      omega

theorem wpList_append_limbs {w : World} {ops : Array Oper} {rest : List Oper} {o : Oper} {a : Act} {Q : Exit → Act → World → Prop} (hgd : o.guard = none) (s x : Operand)
    (ho : o.op = .call { callee := .builtin .append, args := #[s, x], argTypes := #[42, 42] }) (hs : a.eval s = .slice none 0 0) (A : Option Addr) (xs : List Nat) (n c : Nat) (hx : a.eval x = .slice A n c) (hn : n = xs.length) (hr : LRead w A xs) (hl : (xs.length : Int) ≤ 4000000)
    (h : ∀ v' w', LimbsAt w' v' xs → (∀ g, v'.ownBlock = some g → w.heap.size ≤ g) → Only [] w w' → wpList Tryd.prog ops Q rest (a.put o.dst v') w') : wpList Tryd.prog ops Q (o :: rest) a w := by
  subst hn
  refine wpList_plain hgd fun K hK => ?_
  obtain ⟨v', w', hrun, h1, h2, h3⟩ := run_append_limbs w o.type A xs c hr hl
  unfold Oper.wp execOp
  simp only [ho, resolve, invoke, builtin, Sem.run_bind, Sem.run_pure, Result.andThen_ok, List.map_toArray, List.map_cons, List.map_nil, hs, hx, hrun]
  exact hK _ _ (h v' w' h1 h2 h3)

set_option maxRecDepth 100000 in
/-- Of. -/
theorem of_any (A : Option Addr) (c : Nat) (xs : List Nat) (w : World) (h : Hid (Arg w A xs)) (hc : xs.length ≤ c) :
    Calls Tryd.prog 50 #[.slice A xs.length c] w (NPost (val xs) w) := by
  have HA := Lib.hid h.out.trim
  go_enter Tryd.func50, Tryd.ntmps50
  go_wp2_with (first | (go_at_call 79; (with_reducible refine (trim_any A c xs _ h hc).mono ?_); rintro e w' ⟨rfl, rfl⟩) | (at_builtin; refine wpList_append_limbs rfl _ _ rfl rfl A (limbsOf (val xs)) _ c rfl rfl HA.out.read HA.out.len ?_; intro v' w' h1 h2 h3; have H1 := Lib.hid h1; have H2 := Lib.hid h2; have H3 := Lib.hid h3; clear h1 h2 h3))
  go_ret
  exact ⟨v', rfl, ⟨H1.out, H2.out⟩, H3.out⟩

end Go.Proofs.YtigpnopeacicpaaDoor
/-
  nat: sums and differences: math/bits' Add64 and Sub64, addAt, add, Add, sub, Sub.
-/
namespace Go.Proofs.YtigpnopeacicpaaDoor
open Go.RowKit

theorem Arg.lt {w : World} {A : Option Addr} {xs : List Nat} (h : Arg w A xs) : 0 < xs.length → ∀ a, A = some a → a.block < w.heap.size := fun h0 a ha => by
  obtain ⟨b, o, e, hc⟩ := h.read 0 h0
  rw [ha] at e
  injection e with e
  subst e
  exact World.block_lt_of_cell? w _ hc
/-- A row that has been cut to its number. -/
theorem res_of_blk {w0 w : World} {g : Nat} {zs : List Nat} (hb : Blk w g 90 (limbV zs)) (hz : Limb zs) (hg : w0.heap.size ≤ g) (hl : (zs.length : Int) ≤ 16000000) : Res w0 w (.slice (some ⟨g, 0, none⟩) (limbsOf (val zs)).length zs.length) (val zs) := by
  have e := limbsOf_take hz
  refine ⟨?_, fun q hq => ?_⟩
  · have := LimbsAt.of_blk hb rfl (by simp only [maxLen]; omega) _ e.2
    rwa [e.1] at this
  · have : g = q := by simpa [Value.ownBlock] using hq
    omega

end Go.Proofs.YtigpnopeacicpaaDoor
/-
  nat: differences: sub, Sub, gap; Add of several.
-/
namespace Go.Proofs.YtigpnopeacicpaaDoor
open Go.RowKit

end Go.Proofs.YtigpnopeacicpaaDoor
/-
  nat: Sub, gap, Add of several.
-/
namespace Go.Proofs.YtigpnopeacicpaaDoor
open Go.RowKit

theorem res_nil (w w' : World) : Res w w' (.slice none 0 0) 0 := ⟨by rw [limbsOf_zero]; exact limbsAt_nil w', by simp [Value.ownBlock]⟩
/-- Numbers in a row: their slices, capacities, limbs. -/
structure Item where
  a : Option Addr
  c : Nat
  xs : List Nat
/-- A slice of numbers reads as L. -/
def NsRead (w : World) (A : Option Addr) (L : List Item) : Prop :=
  ∀ (k : Nat) (hk : k < L.length), ∃ b o, A = some ⟨b, o, none⟩ ∧ w.cell? ⟨b, o + k, none⟩ = some (.slice L[k].a L[k].xs.length L[k].c) ∧ Arg w L[k].a L[k].xs ∧ L[k].xs.length ≤ L[k].c ∧ (L[k].xs.length : Int) ≤ 3999999
theorem NsRead.only {w w' : World} {A : Option Addr} {L : List Item} (h : NsRead w A L) (ho : Only [] w w') : NsRead w' A L := fun k hk => by
  obtain ⟨b, o, h1, h2, h3, h4⟩ := h k hk
  exact ⟨b, o, h1, ho.cell h2 (by simp), h3.only ho, h4⟩
end Go.Proofs.YtigpnopeacicpaaDoor
