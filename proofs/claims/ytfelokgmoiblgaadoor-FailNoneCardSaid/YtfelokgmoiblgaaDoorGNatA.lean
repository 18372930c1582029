/-
  Limbs in memory: what a slice of limbs reads as; rows of the call's own; make and copy.
-/
import Derived.Test.YtfelokgmoiblgaaDoorGVal
import Derived.Test.YtfelokgmoiblgaaDoorProg
import Derived.Laws.OwnMore
import Derived.Laws.MakeOwn
import Derived.Laws.CopyOwn
import Derived.OwnWalk
import Derived.Shelf.Spec.BitsCarry
namespace Go.Proofs.YtfelokgmoiblgaaDoor
open Go.RowKit

theorem addr_plus (b o j : Nat) : (⟨b, o, none⟩ : Addr).add j = ⟨b, o + j, none⟩ := by
  unfold Addr.add
  by_cases h : j = 0 <;> simp [h]

def limbV (xs : List Nat) : List Value := xs.map fun (x : Nat) => .int .u64 (x : Int)

theorem limbV_len (xs : List Nat) : (limbV xs).length = xs.length := by simp [limbV]

theorem limbV_set (xs : List Nat) (i v : Nat) : (limbV xs).set i (.int .u64 (v : Int)) = limbV (xs.set i v) := by simp [limbV, List.map_set]

theorem limbV_get (xs : List Nat) (i : Nat) (h : i < xs.length) : (limbV xs)[i]? = some (.int .u64 ((xs[i]?.getD 0 : Nat) : Int)) := by simp [limbV, h]

/-- A slice of limbs reads as xs. -/
def LRead (w : World) (A : Option Addr) (xs : List Nat) : Prop := ∀ k, k < xs.length → ∃ b o, A = some ⟨b, o, none⟩ ∧ w.cell? ⟨b, o + k, none⟩ = some (.int .u64 ((xs[k]?.getD 0 : Nat) : Int))

/-- A row of limbs of its own. -/
def LimbsAt (w : World) (u : Value) (xs : List Nat) : Prop := w.ownsRow 0 54 1 u xs.length (limbV xs)

section
variable {w w' : World} {A : Option Addr} {xs : List Nat} {u : Value} {S : List Nat}

theorem LRead.only (h : LRead w A xs) (ho : Only [] w w') : LRead w' A xs := fun k hk => by
  obtain ⟨b, o, h1, h2⟩ := h k hk
  exact ⟨b, o, h1, ho.cell h2 (by simp)⟩

theorem LRead.onlyS (h : LRead w A xs) (ho : Only S w w') (hn : ∀ a, A = some a → a.block ∉ S) : LRead w' A xs := fun k hk => by
  obtain ⟨b, o, h1, h2⟩ := h k hk
  exact ⟨b, o, h1, ho.cell h2 (hn ⟨b, o, none⟩ h1)⟩

theorem LRead.take (h : LRead w A xs) (n : Nat) : LRead w A (xs.take n) := fun k hk => by
  rw [List.length_take] at hk
  obtain ⟨b, o, h1, h2⟩ := h k (by omega)
  exact ⟨b, o, h1, by rw [List.getElem?_take_of_lt (by omega)]; exact h2⟩

theorem LRead.nil : LRead w A [] := fun k hk => by simp at hk

theorem LRead.of_blk {g : Nat} {t : TypeId} (h : Blk w g t (limbV xs)) : LRead w (some ⟨g, 0, none⟩) xs := fun k hk => ⟨g, 0, rfl, by
  rw [h.cell, Nat.zero_add, limbV_get _ _ hk]⟩

theorem LimbsAt.read {c : Nat} {n : Nat} (h : LimbsAt w (.slice A n c) xs) : n = xs.length ∧ LRead w A xs := by
  rcases h.2 with ⟨e, h0⟩ | ⟨g, cap, cur, e, _, hg, hn, hm, _⟩
  · injection e with e1 e2 e3
    exact ⟨by omega, fun k hk => by omega⟩
  · injection e with e1 e2 e3
    subst e1
    refine ⟨e2, fun k hk => ⟨g, 0, rfl, ?_⟩⟩
    have hc := World.ownsRow.cells h (g := g) rfl
    have h1 := hc k _ (limbV_get _ _ hk)
    rw [addr_plus] at h1
    exact h1

theorem LimbsAt.shape (h : LimbsAt w u xs) : ∃ A c, u = .slice A xs.length c ∧ LRead w A xs ∧ xs.length ≤ c ∧ c ≤ maxLen := by
  rcases h.2 with ⟨rfl, h0⟩ | ⟨g, cap, cur, rfl, _, hg, hn, hm, _⟩
  · exact ⟨none, 0, by rw [h0], fun k hk => by omega, by omega, Nat.zero_le _⟩
  · exact ⟨_, cap, rfl, (LimbsAt.read h).2, hn, hm⟩

theorem LimbsAt.only (h : LimbsAt w u xs) (ho : Only S w w') (hn : ∀ g, u.ownBlock = some g → g ∉ S) : LimbsAt w' u xs := by
  rcases h with ⟨h0, h1 | ⟨g, cap, cur, rfl, hb, hg, h2⟩⟩
  · exact ⟨h0, .inl h1⟩
  · exact ⟨h0, .inr ⟨g, cap, cur, rfl, hb, ho.heap hg (hn g rfl), h2⟩⟩

theorem LimbsAt.lt (h : LimbsAt w u xs) : ∀ g, u.ownBlock = some g → g < w.heap.size := fun g hg => (World.ownsRow.lt h g hg).2

theorem limbsAt_nil (w : World) : LimbsAt w (.slice none 0 0) [] := World.ownsRow_nil _ _ _ _

theorem LimbsAt.of_blk {g c : Nat} (h : Blk w g 54 (limbV xs)) (hc : c = xs.length) (hm : c ≤ maxLen) (n : Nat) (hn : n ≤ xs.length) : LimbsAt w (.slice (some ⟨g, 0, none⟩) n c) (xs.take n) := by
  subst hc
  have hl : (xs.take n).length = n := by rw [List.length_take]; omega
  refine ⟨by simp [limbV], .inr ⟨g, xs.length, (limbV xs).toArray, by rw [hl], Nat.zero_le _, h, by rw [hl]; exact hn, hm, by simp [limbV], ?_⟩⟩
  rw [hl]
  simp [limbV]

end

/-- An argument: it reads as xs, whose limbs are limbs, and not too many. -/
structure Arg (w : World) (A : Option Addr) (xs : List Nat) : Prop where
  read : LRead w A xs
  limb : Limb xs
  len : (xs.length : Int) ≤ 4000000

theorem Arg.only {w w' : World} {A : Option Addr} {xs : List Nat} (h : Arg w A xs) (ho : Only [] w w') : Arg w' A xs := ⟨h.read.only ho, h.limb, h.len⟩

theorem Arg.onlyS {w w' : World} {A : Option Addr} {xs : List Nat} {S : List Nat} (h : Arg w A xs) (ho : Only S w w') (hn : ∀ a, A = some a → a.block ∉ S) : Arg w' A xs := ⟨h.read.onlyS ho hn, h.limb, h.len⟩

theorem Arg.trim {w : World} {A : Option Addr} {xs : List Nat} (h : Arg w A xs) : Arg w A (limbsOf (val xs)) := by
  have e := limbsOf_take h.limb
  refine ⟨?_, limb_limbsOf _, by have := h.len; have := e.2; omega⟩
  rw [← e.1]
  exact h.read.take _

/-- A result: a row of the call's own that holds just the limbs of n. -/
structure Res (w0 w : World) (u : Value) (n : Nat) : Prop where
  at_ : LimbsAt w u (limbsOf n)
  fresh : ∀ g, u.ownBlock = some g → w0.heap.size ≤ g

theorem Res.only {w0 w w' : World} {u : Value} {n : Nat} {S : List Nat} (h : Res w0 w u n) (ho : Only S w w') (hn : ∀ g, u.ownBlock = some g → g ∉ S) : Res w0 w' u n := ⟨h.at_.only ho hn, h.fresh⟩

theorem Res.nil {w0 w w' : World} {u : Value} {n : Nat} (h : Res w0 w u n) (ho : Only [] w w') : Res w0 w' u n := h.only ho (by simp)

theorem Res.pre {w0 w1 w : World} {u : Value} {n : Nat} (h : Res w1 w u n) (ho : w0.heap.size ≤ w1.heap.size) : Res w0 w u n := ⟨h.at_, fun g hg => Nat.le_trans ho (h.fresh g hg)⟩

theorem Res.shape {w0 w : World} {u : Value} {n : Nat} (h : Res w0 w u n) (hl : ((limbsOf n).length : Int) ≤ 4000000) : ∃ A c, u = .slice A (limbsOf n).length c ∧ Arg w A (limbsOf n) ∧ (∀ a, A = some a → w0.heap.size ≤ a.block ∧ a.block < w.heap.size) := by
  obtain ⟨A, c, rfl, h1, _, _⟩ := h.at_.shape
  refine ⟨A, c, rfl, ⟨h1, limb_limbsOf n, hl⟩, ?_⟩
  rintro a rfl
  exact ⟨h.fresh a.block rfl, h.at_.lt a.block rfl⟩

theorem Res.shape2 {w0 w : World} {u : Value} {n : Nat} (h : Res w0 w u n) (hl : ((limbsOf n).length : Int) ≤ 4000000) : ∃ A c q, u = .slice A q c ∧ (limbsOf n).length = q ∧ q ≤ c ∧ Arg w A (limbsOf n) ∧ (∀ a, A = some a → w0.heap.size ≤ a.block ∧ a.block < w.heap.size) := by
  obtain ⟨A, c, rfl, h1, h2, _⟩ := h.at_.shape
  refine ⟨A, c, _, rfl, rfl, h2, ⟨h1, limb_limbsOf n, hl⟩, ?_⟩
  rintro a rfl
  exact ⟨h.fresh a.block rfl, h.at_.lt a.block rfl⟩

/-- What a function leaves that tells a number. -/
def NPost (n : Nat) (w : World) (e : Ending) (w' : World) : Prop := ∃ u, e = .returned u ∧ Res w w' u n ∧ Only [] w w'

theorem Tryd.u64Info : (Tryd.prog.info? 54).map (fun i => (i.zero, i.size, i.bytes)) = some (some (.int .u64 0), 1, 8) := by kernel_rfl

theorem u64_parts : ∃ i : TypeInfo, Tryd.prog.info? 54 = some i ∧ i.zero = some (.int .u64 0) ∧ i.size = 1 ∧ i.bytes = 8 := by
  obtain ⟨i, h, e⟩ := Option.map_eq_some_iff.1 Tryd.u64Info
  simp only [Prod.mk.injEq] at e
  exact ⟨i, h, e.1, e.2.1, e.2.2⟩

theorem limbV_zeros (n : Nat) : limbV (List.replicate n 0) = List.replicate n (.int .u64 0) := by simp [limbV]

/-- a[:n] -/
theorem trim_form {xs : List Nat} (h : Limb xs) : (limbsOf (val xs)).length ≤ xs.length := (limbsOf_take h).2

end Go.Proofs.YtfelokgmoiblgaaDoor
/-
  Slices of limbs, cut.
-/
namespace Go.Proofs.YtfelokgmoiblgaaDoor
open Go.RowKit

end Go.Proofs.YtfelokgmoiblgaaDoor
/-
  nat: trim, Of, Cmp.
-/
namespace Go.Proofs.YtfelokgmoiblgaaDoor
open Go.RowKit

theorem cmp_le {a b : Nat} (h : a < b) : cmpZ a b = -1 := by unfold cmpZ; rw [if_pos h]

theorem cmp_eq {a b : Nat} (h : a = b) : cmpZ a b = 0 := by unfold cmpZ; rw [if_neg (by omega), if_pos h]

theorem cmp_gt {a b : Nat} (h : b < a) : cmpZ a b = 1 := by unfold cmpZ; rw [if_neg (by omega), if_neg (by omega)]

end Go.Proofs.YtfelokgmoiblgaaDoor
/-
  nat: sums and differences: math/bits' Add64 and Sub64, addAt, add, Add, sub, Sub.
-/
namespace Go.Proofs.YtfelokgmoiblgaaDoor
open Go.RowKit

def aLo (x y c : Nat) : Nat := (x + y + c) % BB

def aHi (x y c : Nat) : Nat := (x + y + c) / BB

theorem aLo_lt (x y c : Nat) : aLo x y c < BB := Nat.mod_lt _ BB_pos

theorem add64_law (x y c : Nat) : aLo x y c + BB * aHi x y c = x + y + c := Nat.mod_add_div _ _

theorem aHi_le {x y c : Nat} (hx : x < BB) (hy : y < BB) (hc : c ≤ 1) : aHi x y c ≤ 1 := by
  unfold aHi
  apply Nat.le_of_lt_succ
  rw [Nat.div_lt_iff_lt_mul BB_pos]
  omega

def sLo (x y b : Nat) : Nat := (x + BB - y - b) % BB

def sHi (x y b : Nat) : Nat := if x < y + b then 1 else 0

theorem sLo_lt (x y b : Nat) : sLo x y b < BB := Nat.mod_lt _ BB_pos

theorem sHi_le (x y b : Nat) : sHi x y b ≤ 1 := by unfold sHi; split <;> omega

theorem sub64_law {x y b : Nat} (hx : x < BB) (hy : y < BB) (hb : b ≤ 1) : sLo x y b + y + b = x + BB * sHi x y b := by
  unfold sLo sHi
  have hp := BB_pos
  split
  · rename_i h
    by_cases e : y + b = BB + x
    · rw [show x + BB - y - b = 0 by omega, Nat.zero_mod]
      omega
    · rw [Nat.mod_eq_of_lt (by omega)]
      omega
  · rename_i h
    rw [show x + BB - y - b = (x - y - b) + BB by omega, Nat.add_mod_right, Nat.mod_eq_of_lt (by omega)]
    omega

/-- Where a sum under way stands. -/
structure ACar (w wr : World) (g : Nat) (zs zs' : List Nat) (i cy T : Nat) : Prop where
  blk : Blk wr g 54 (limbV zs')
  limb : Limb zs'
  len : zs'.length = zs.length
  cyle : cy ≤ 1
  val_ : val zs' + BB ^ i * cy = T
  only : Only [g] w wr

theorem ACar.step {w wr : World} {g : Nat} {zs zs' : List Nat} {i cy T v : Nat} (h : ACar w wr g zs zs' i cy T) (hi : i < zs.length) (hv : v < BB) {T' : Nat} (hT : T' = T + BB ^ i * v) :
    ACar w (wr.setCell ⟨g, i, none⟩ (.int .u64 ((aLo (zs'[i]?.getD 0) v cy : Nat) : Int))) g zs (zs'.set i (aLo (zs'[i]?.getD 0) v cy)) (i + 1) (aHi (zs'[i]?.getD 0) v cy) T' := by
  refine ⟨?_, h.limb.set _ _ (aLo_lt _ _ _), by rw [List.length_set, h.len], aHi_le (h.limb.get i) hv h.cyle, ?_, h.only.trans ((Only.refl [g] wr).setCell (.inl (by simp)) _) (by simp)⟩
  · rw [← limbV_set]
    exact h.blk.set_ i _
  · rw [add_step (by rw [h.len]; exact hi) (add64_law _ _ _), hT, ← h.val_]
    omega

/-- What addAt leaves. -/
def AddPost (g : Nat) (zs : List Nat) (T : Nat) (w : World) (e : Ending) (w' : World) : Prop :=
  e = .returned (.tuple #[]) ∧ ∃ zs', Blk w' g 54 (limbV zs') ∧ Limb zs' ∧ zs'.length = zs.length ∧ val zs' = T ∧ Only [g] w w'

theorem Arg.lt {w : World} {A : Option Addr} {xs : List Nat} (h : Arg w A xs) : 0 < xs.length → ∀ a, A = some a → a.block < w.heap.size := fun h0 a ha => by
  obtain ⟨b, o, e, hc⟩ := h.read 0 h0
  rw [ha] at e
  injection e with e
  subst e
  exact World.block_lt_of_cell? w _ hc

/-- A row that has been cut to its number. -/
theorem res_of_blk {w0 w : World} {g : Nat} {zs : List Nat} (hb : Blk w g 54 (limbV zs)) (hz : Limb zs) (hg : w0.heap.size ≤ g) (hl : (zs.length : Int) ≤ 16000000) : Res w0 w (.slice (some ⟨g, 0, none⟩) (limbsOf (val zs)).length zs.length) (val zs) := by
  have e := limbsOf_take hz
  refine ⟨?_, fun q hq => ?_⟩
  · have := LimbsAt.of_blk hb rfl (by simp only [maxLen]; omega) _ e.2
    rwa [e.1] at this
  · have : g = q := by simpa [Value.ownBlock] using hq
    omega

end Go.Proofs.YtfelokgmoiblgaaDoor
/-
  nat: differences: sub, Sub, gap; Add of several.
-/
namespace Go.Proofs.YtfelokgmoiblgaaDoor
open Go.RowKit

/-- Where a difference under way stands. -/
structure BCar (w wr : World) (g : Nat) (zs zs' : List Nat) (i bo T U : Nat) : Prop where
  blk : Blk wr g 54 (limbV zs')
  limb : Limb zs'
  len : zs'.length = zs.length
  bole : bo ≤ 1
  val_ : val zs' + U = T + BB ^ i * bo
  only : Only [g] w wr

theorem BCar.step {w wr : World} {g : Nat} {zs zs' : List Nat} {i bo T U v : Nat} (h : BCar w wr g zs zs' i bo T U) (hi : i < zs.length) (hv : v < BB) {U' : Nat} (hU : U' = U + BB ^ i * v) :
    BCar w (wr.setCell ⟨g, i, none⟩ (.int .u64 ((sLo (zs'[i]?.getD 0) v bo : Nat) : Int))) g zs (zs'.set i (sLo (zs'[i]?.getD 0) v bo)) (i + 1) (sHi (zs'[i]?.getD 0) v bo) T U' := by
  refine ⟨?_, h.limb.set _ _ (sLo_lt _ _ _), by rw [List.length_set, h.len], sHi_le _ _ _, ?_, h.only.trans ((Only.refl [g] wr).setCell (.inl (by simp)) _) (by simp)⟩
  · rw [← limbV_set]
    exact h.blk.set_ i _
  · have h1 := sub_step (by rw [h.len]; exact hi) (sub64_law (h.limb.get i) hv h.bole)
    have h2 := h.val_
    rw [hU]
    omega

end Go.Proofs.YtfelokgmoiblgaaDoor
/-
  nat: Sub, gap, Add of several.
-/
namespace Go.Proofs.YtfelokgmoiblgaaDoor
open Go.RowKit

/-- A difference, and whether there is one. -/
def SubPost (a b : Nat) (w : World) (e : Ending) (w' : World) : Prop :=
  ∃ u, e = .returned (.tuple #[u, .bool (decide (b ≤ a))]) ∧ Res w w' u (a - b) ∧ Only [] w w'

theorem res_nil (w w' : World) : Res w w' (.slice none 0 0) 0 := ⟨by rw [limbsOf_zero]; exact limbsAt_nil w', by simp [Value.ownBlock]⟩

theorem cmp_self (n : Nat) (m : Nat) : cmpZ (val (limbsOf n)) (val (limbsOf m)) = cmpZ n m := by rw [val_limbsOf, val_limbsOf]

/-- The amount of a difference, and whether it is below 0. -/
def GapPost (a b : Nat) (w : World) (e : Ending) (w' : World) : Prop :=
  ∃ u, e = .returned (.tuple #[u, .bool (decide (a < b))]) ∧ Res w w' u (if a < b then b - a else a - b) ∧ Only [] w w'

/-- Numbers in a row: their slices, capacities, limbs. -/
structure Item where
  a : Option Addr
  c : Nat
  xs : List Nat

def sumL (L : List Item) : Nat := (L.map fun i => val i.xs).sum

theorem sumL_append (L M : List Item) : sumL (L ++ M) = sumL L + sumL M := by
  unfold sumL
  rw [List.map_append, List.sum_append]

theorem sumL_take (L : List Item) (k : Nat) (hk : k < L.length) : sumL (L.take (k + 1)) = sumL (L.take k) + val L[k].xs := by
  rw [List.take_succ_eq_append_getElem hk, sumL_append]
  simp [sumL]

theorem sumL_le (L : List Item) (k : Nat) : sumL (L.take k) ≤ sumL L := by
  have h := sumL_append (L.take k) (L.drop k)
  rw [List.take_append_drop] at h
  omega

/-- A slice of numbers reads as L. -/
def NsRead (w : World) (A : Option Addr) (L : List Item) : Prop :=
  ∀ (k : Nat) (hk : k < L.length), ∃ b o, A = some ⟨b, o, none⟩ ∧ w.cell? ⟨b, o + k, none⟩ = some (.slice L[k].a L[k].xs.length L[k].c) ∧ Arg w L[k].a L[k].xs ∧ L[k].xs.length ≤ L[k].c ∧ (L[k].xs.length : Int) ≤ 3999999

theorem NsRead.only {w w' : World} {A : Option Addr} {L : List Item} (h : NsRead w A L) (ho : Only [] w w') : NsRead w' A L := fun k hk => by
  obtain ⟨b, o, h1, h2, h3, h4⟩ := h k hk
  exact ⟨b, o, h1, ho.cell h2 (by simp), h3.only ho, h4⟩

end Go.Proofs.YtfelokgmoiblgaaDoor
