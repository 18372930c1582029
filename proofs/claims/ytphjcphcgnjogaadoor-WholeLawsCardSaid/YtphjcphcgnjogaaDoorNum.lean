/-
  Limbs in memory: what a slice of limbs reads as; rows of the call's own; make and copy.
-/
import Derived.Test.YtphjcphcgnjogaaDoorVal
import Derived.Test.YtphjcphcgnjogaaDoorProg
import Derived.Laws.OwnMore
import Derived.Laws.MakeOwn
import Derived.Laws.CopyOwn
import Derived.OwnWalk
namespace Go.Proofs.YtphjcphcgnjogaaDoor
open Go.RowKit

theorem addr_plus (b o j : Nat) : (⟨b, o, none⟩ : Addr).add j = ⟨b, o + j, none⟩ := by
  unfold Addr.add
  by_cases h : j = 0 <;> simp [h]
def limbV (xs : List Nat) : List Value := xs.map fun (x : Nat) => .int .u64 (x : Int)
theorem limbV_len (xs : List Nat) : (limbV xs).length = xs.length := by simp [limbV]
theorem limbV_set (xs : List Nat) (i v : Nat) : (limbV xs).set i (.int .u64 (v : Int)) = limbV (xs.set i v) := by simp [limbV, List.map_set]
theorem limbV_get (xs : List Nat) (i : Nat) (h : i < xs.length) : (limbV xs)[i]? = some (.int .u64 ((xs[i]?.getD 0 : Nat) : Int)) := by simp [limbV, h]
/-- A slice of limbs reads as xs. -/
def LRead (w : World) (A : Option Addr) (xs : List Nat) : Prop := ∀ k, k < xs.length → ∃ b o, A = some ⟨b, o, none⟩ ∧ w.cell? ⟨b, o + k, none⟩ = some (.int .u64 ((xs[k]?.getD 0 : Nat) : Int))
/-- A row of limbs of its own. -/
def LimbsAt (w : World) (u : Value) (xs : List Nat) : Prop := w.ownsRow 0 64 1 u xs.length (limbV xs)
section
variable {w w' : World} {A : Option Addr} {xs : List Nat} {u : Value} {S : List Nat}
theorem LRead.only (h : LRead w A xs) (ho : Only [] w w') : LRead w' A xs := fun k hk => by
  obtain ⟨b, o, h1, h2⟩ := h k hk
  exact ⟨b, o, h1, ho.cell h2 (by simp)⟩
theorem LRead.onlyS (h : LRead w A xs) (ho : Only S w w') (hn : ∀ a, A = some a → a.block ∉ S) : LRead w' A xs := fun k hk => by
  obtain ⟨b, o, h1, h2⟩ := h k hk
  exact ⟨b, o, h1, ho.cell h2 (hn ⟨b, o, none⟩ h1)⟩
theorem LRead.take (h : LRead w A xs) (n : Nat) : LRead w A (xs.take n) := fun k hk => by
  rw [List.length_take] at hk
  obtain ⟨b, o, h1, h2⟩ := h k (by omega)
  exact ⟨b, o, h1, by rw [List.getElem?_take_of_lt (by omega)]; exact h2⟩
theorem LRead.nil : LRead w A [] := fun k hk => by simp at hk
theorem LRead.of_blk {g : Nat} {t : TypeId} (h : Blk w g t (limbV xs)) : LRead w (some ⟨g, 0, none⟩) xs := fun k hk => ⟨g, 0, rfl, by
  rw [h.cell, Nat.zero_add, limbV_get _ _ hk]⟩
theorem LimbsAt.read {c : Nat} {n : Nat} (h : LimbsAt w (.slice A n c) xs) : n = xs.length ∧ LRead w A xs := by
  rcases h.2 with ⟨e, h0⟩ | ⟨g, cap, cur, e, _, hg, hn, hm, _⟩
  · injection e with e1 e2 e3
    exact ⟨by omega, fun k hk => by omega⟩
  · injection e with e1 e2 e3
    subst e1
    refine ⟨e2, fun k hk => ⟨g, 0, rfl, ?_⟩⟩
    have hc := World.ownsRow.cells h (g := g) rfl
    have h1 := hc k _ (limbV_get _ _ hk)
    rw [addr_plus] at h1
    exact h1
theorem LimbsAt.shape (h : LimbsAt w u xs) : ∃ A c, u = .slice A xs.length c ∧ LRead w A xs ∧ xs.length ≤ c ∧ c ≤ maxLen := by
  rcases h.2 with ⟨rfl, h0⟩ | ⟨g, cap, cur, rfl, _, hg, hn, hm, _⟩
  · exact ⟨none, 0, by rw [h0], fun k hk => by omega, by omega, Nat.zero_le _⟩
  · exact ⟨_, cap, rfl, (LimbsAt.read h).2, hn, hm⟩
theorem LimbsAt.only (h : LimbsAt w u xs) (ho : Only S w w') (hn : ∀ g, u.ownBlock = some g → g ∉ S) : LimbsAt w' u xs := by
  rcases h with ⟨h0, h1 | ⟨g, cap, cur, rfl, hb, hg, h2⟩⟩
  · exact ⟨h0, .inl h1⟩
  · exact ⟨h0, .inr ⟨g, cap, cur, rfl, hb, ho.heap hg (hn g rfl), h2⟩⟩
theorem LimbsAt.lt (h : LimbsAt w u xs) : ∀ g, u.ownBlock = some g → g < w.heap.size := fun g hg => (World.ownsRow.lt h g hg).2
theorem limbsAt_nil (w : World) : LimbsAt w (.slice none 0 0) [] := World.ownsRow_nil _ _ _ _
theorem LimbsAt.of_blk {g c : Nat} (h : Blk w g 64 (limbV xs)) (hc : c = xs.length) (hm : c ≤ maxLen) (n : Nat) (hn : n ≤ xs.length) : LimbsAt w (.slice (some ⟨g, 0, none⟩) n c) (xs.take n) := by
  subst hc
  have hl : (xs.take n).length = n := by rw [List.length_take]; omega
  refine ⟨by simp [limbV], .inr ⟨g, xs.length, (limbV xs).toArray, by rw [hl], Nat.zero_le _, h, by rw [hl]; exact hn, hm, by simp [limbV], ?_⟩⟩
  rw [hl]
  simp [limbV]
end

/-- An argument: it reads as xs, whose limbs are limbs, and not too many. -/
structure Arg (w : World) (A : Option Addr) (xs : List Nat) : Prop where
  read : LRead w A xs
  limb : Limb xs
  len : (xs.length : Int) ≤ 4000000
theorem Arg.only {w w' : World} {A : Option Addr} {xs : List Nat} (h : Arg w A xs) (ho : Only [] w w') : Arg w' A xs := ⟨h.read.only ho, h.limb, h.len⟩
theorem Arg.onlyS {w w' : World} {A : Option Addr} {xs : List Nat} {S : List Nat} (h : Arg w A xs) (ho : Only S w w') (hn : ∀ a, A = some a → a.block ∉ S) : Arg w' A xs := ⟨h.read.onlyS ho hn, h.limb, h.len⟩
theorem Arg.trim {w : World} {A : Option Addr} {xs : List Nat} (h : Arg w A xs) : Arg w A (limbsOf (val xs)) := by
  have e := limbsOf_take h.limb
  refine ⟨?_, limb_limbsOf _, by have := h.len; have := e.2; omega⟩
  rw [← e.1]
  exact h.read.take _

/-- A result: a row of the call's own that holds just the limbs of n. -/
structure Res (w0 w : World) (u : Value) (n : Nat) : Prop where
  at_ : LimbsAt w u (limbsOf n)
  fresh : ∀ g, u.ownBlock = some g → w0.heap.size ≤ g
theorem Res.only {w0 w w' : World} {u : Value} {n : Nat} {S : List Nat} (h : Res w0 w u n) (ho : Only S w w') (hn : ∀ g, u.ownBlock = some g → g ∉ S) : Res w0 w' u n := ⟨h.at_.only ho hn, h.fresh⟩
theorem Res.nil {w0 w w' : World} {u : Value} {n : Nat} (h : Res w0 w u n) (ho : Only [] w w') : Res w0 w' u n := h.only ho (by simp)
theorem Res.pre {w0 w1 w : World} {u : Value} {n : Nat} (h : Res w1 w u n) (ho : w0.heap.size ≤ w1.heap.size) : Res w0 w u n := ⟨h.at_, fun g hg => Nat.le_trans ho (h.fresh g hg)⟩
theorem Res.shape {w0 w : World} {u : Value} {n : Nat} (h : Res w0 w u n) (hl : ((limbsOf n).length : Int) ≤ 4000000) : ∃ A c, u = .slice A (limbsOf n).length c ∧ Arg w A (limbsOf n) ∧ (∀ a, A = some a → w0.heap.size ≤ a.block ∧ a.block < w.heap.size) := by
  obtain ⟨A, c, rfl, h1, _, _⟩ := h.at_.shape
  refine ⟨A, c, rfl, ⟨h1, limb_limbsOf n, hl⟩, ?_⟩
  rintro a rfl
  exact ⟨h.fresh a.block rfl, h.at_.lt a.block rfl⟩
theorem Res.shape2 {w0 w : World} {u : Value} {n : Nat} (h : Res w0 w u n) (hl : ((limbsOf n).length : Int) ≤ 4000000) : ∃ A c q, u = .slice A q c ∧ (limbsOf n).length = q ∧ q ≤ c ∧ Arg w A (limbsOf n) ∧ (∀ a, A = some a → w0.heap.size ≤ a.block ∧ a.block < w.heap.size) := by
  obtain ⟨A, c, rfl, h1, h2, _⟩ := h.at_.shape
  refine ⟨A, c, _, rfl, rfl, h2, ⟨h1, limb_limbsOf n, hl⟩, ?_⟩
  rintro a rfl
  exact ⟨h.fresh a.block rfl, h.at_.lt a.block rfl⟩
/-- What a function leaves that tells a number. -/
def NPost (n : Nat) (w : World) (e : Ending) (w' : World) : Prop := ∃ u, e = .returned u ∧ Res w w' u n ∧ Only [] w w'

theorem Tryd.u64Info : (Tryd.prog.info? 64).map (fun i => (i.zero, i.size, i.bytes)) = some (some (.int .u64 0), 1, 8) := by kernel_rfl
theorem u64_parts : ∃ i : TypeInfo, Tryd.prog.info? 64 = some i ∧ i.zero = some (.int .u64 0) ∧ i.size = 1 ∧ i.bytes = 8 := by
  obtain ⟨i, h, e⟩ := Option.map_eq_some_iff.1 Tryd.u64Info
  simp only [Prod.mk.injEq] at e
  exact ⟨i, h, e.1, e.2.1, e.2.2⟩
theorem limbV_zeros (n : Nat) : limbV (List.replicate n 0) = List.replicate n (.int .u64 0) := by simp [limbV]
set_option maxRecDepth 100000 in
/-- make(Nat, n). -/
theorem make_nat (w : World) (n : Nat) (hn : (n : Int) ≤ 16000000) : ∃ w', (Instr.makeSlice 25 (.int .i64 (n : Int)) (.int .i64 (n : Int))).run Tryd.prog w = .ok (.slice (some ⟨w.heap.size, 0, none⟩) n n) w' ∧
    Blk w' w.heap.size 64 (limbV (List.replicate n 0)) ∧ Only [] w w' ∧ w.heap.size < w'.heap.size := by
  obtain ⟨i0, hi, hz0, hz1, hz2⟩ := u64_parts
  obtain ⟨w', hr, ho, hg⟩ := run_make_full (P := Tryd.prog) w 0 25 64 i0 _ 1 Tryd.underlying25 hi hz0 hz1 .i64 .i64 n (by rw [hz2]; omega) (by simp only [maxLen]; omega) (Nat.zero_le _)
  refine ⟨w', hr, ?_, Only.of_grown hg (by simp), (World.ownsRow.lt ho _ rfl).2⟩
  rcases ho.2 with ⟨h0, _⟩ | ⟨g, cap, cur, e, _, hb, _, _, hs, ht⟩
  · cases h0
  · injection e with e1 e2 e3
    injection e1 with e1
    injection e1 with e1 _ _
    subst e1 e3
    unfold Blk
    rw [hb, limbV_zeros]
    congr 2
    apply Array.ext'
    rw [← List.take_of_length_le (l := cur.toList) (i := n * 1) (by simp [hs]), ht]
    have e : (Value.int IntKind.u64 0).cells = #[.int .u64 0] := rfl
    simp only [madeCells, e]
    simp [Nat.mod_one]
    apply List.ext_getElem <;> simp
set_option maxRecDepth 100000 in
/-- copy into the head of a row of the call's own. -/
theorem copy_nat (w : World) (g : Nat) (zs : List Nat) (A : Option Addr) (xs : List Nat) (c d : Nat) (ty : TypeId) (hb : Blk w g 64 (limbV zs)) (hr : LRead w A xs) (hl : xs.length ≤ zs.length) :
    ∃ w', (Builtin.copy_ #[25, 25] ty #[.slice (some ⟨g, 0, none⟩) zs.length d, .slice A xs.length c]).run Tryd.prog w = .ok (goInt xs.length) w' ∧ Blk w' g 64 (limbV (xs ++ zs.drop xs.length)) ∧ Only [g] w w' ∧ w'.heap.size = w.heap.size := by
  have hsz : (Tryd.prog.info? 64).map (·.size) = some 1 := by kernel_rfl
  cases xs with
  | nil =>
    refine ⟨w, ?_, by simpa using hb, Only.refl _ _, rfl⟩
    exact run_copy_none (P := Tryd.prog) w 25 25 ty 64 (some ⟨g, 0, none⟩) A zs.length d 0 c Tryd.underlying25 hsz (by simp)
  | cons x xs =>
    obtain ⟨b, o, rfl, _⟩ := hr 0 (by simp)
    have hrun := run_copy_row (P := Tryd.prog) w 25 25 ty 64 g 0 zs.length d ⟨b, o, none⟩ (x :: xs).length c (limbV zs).toArray 64 (limbV (x :: xs)) Tryd.underlying25 hsz hb (by rw [limbV_len]; exact (Nat.min_eq_left hl).symm)
      (fun j v hj => by
        have hjl : j < (x :: xs).length := by
          have := (List.getElem?_eq_some_iff.1 hj).1
          rwa [limbV_len] at this
        rw [limbV_get _ _ hjl] at hj
        obtain ⟨b', o', e, hc⟩ := hr j hjl
        injection e with e
        injection e with e1 e2 _
        subst e1 e2
        rw [addr_plus, hc, hj]) (by simp [limbV] at hl ⊢; omega) (by simp [limbV, Value.oneCell'])
    rw [limbV_len] at hrun
    have e1 : ((limbV zs).toArray.toList.take 0 ++ (limbV (x :: xs) ++ (limbV zs).toArray.toList.drop (0 + (x :: xs).length))) = limbV ((x :: xs) ++ zs.drop (x :: xs).length) := by simp [limbV]
    have hh := setRow_heap w g _ ((limbV zs).toArray.toList.take 0 ++ (limbV (x :: xs) ++ (limbV zs).toArray.toList.drop (0 + (x :: xs).length))).toArray 64 _ hb
    refine ⟨_, hrun, ?_, ⟨rfl, rfl, rfl, by simp [World.setRow], fun k _ hn => setRow_other w g k _ (by simpa using hn)⟩, by simp [World.setRow]⟩
    unfold Blk
    rw [← e1]
    exact hh
/-- a[:n] -/
theorem trim_form {xs : List Nat} (h : Limb xs) : (limbsOf (val xs)).length ≤ xs.length := (limbsOf_take h).2
end Go.Proofs.YtphjcphcgnjogaaDoor
