/-
  Joined texts.
-/
import Derived.WalkKit
import Derived.WalkSpells
import Derived.WalkLawsBesides
import Derived.Handy
import Derived.Maps.AppendAt
import Derived.Deep.AppendLies
import Derived.Deep.Draws
import Derived.Lib.Hide
import Derived.Deep.QuietTactic
import Derived.BigQuiet
import Derived.Deep.DeepCutAuto
import Derived.Deep.RegionHeld3
import Derived.Deep.RegionLaw
import Derived.Test.YtigpnopeacicpaaDoorProg
import Derived.ProofKit
import Derived.OpenShut
import Derived.ShutString
import Derived.ChangeOld
import Derived.Below
import Derived.Deep.Slices
import Derived.Deep.Fields
import Derived.ChangeSame
import Derived.Lib.ItoaNum
import Derived.Laws.Bits64b
/-
  MEMORY: plain lemmas on worlds (no program in sight): a block known whole ('Blk'), a world that differs from another only in the blocks of a list and in new ones ('Only').
-/
namespace Go.Proofs.YtigpnopeacicpaaDoor
open Go.RowKit

/-- Block g of w holds just the cells cs, of element type t, none of them frozen. -/
def Blk (w : World) (g : Nat) (t : TypeId) (cs : List Value) : Prop := w.heap[g]? = some (.cells cs.toArray t (0, 0))

/-- w' is w, but for the blocks in S, for new blocks and for draws. -/
structure Only (S : List Nat) (w w' : World) : Prop where
  os : w'.os = w.os
  tape : w'.tape = w.tape
  output : w'.output = w.output
  size : w.heap.size ≤ w'.heap.size
  block : ∀ k, k < w.heap.size → k ∉ S → w'.heap[k]? = w.heap[k]?

theorem lt_of_heap {w : World} {g : Nat} {o : Obj} (h : w.heap[g]? = some o) : g < w.heap.size := (Array.getElem?_eq_some_iff.1 h).1

section
variable {w w' w'' : World} {S S' : List Nat} {g : Nat} {t : TypeId} {cs : List Value} {o : Obj}

theorem Only.refl (S : List Nat) (w : World) : Only S w w := ⟨rfl, rfl, rfl, Nat.le_refl _, fun _ _ _ => rfl⟩
theorem Only.mono (h : Only S w w') (hs : ∀ k ∈ S, k ∈ S' ∨ w.heap.size ≤ k) : Only S' w w' :=
  ⟨h.os, h.tape, h.output, h.size, fun k hk hn => h.block k hk fun hm => by
    rcases hs k hm with h1 | h1
    · exact hn h1
    · omega⟩
theorem Only.trans (h : Only S w w') (h' : Only S' w' w'') (hs : ∀ k ∈ S', k ∈ S ∨ w.heap.size ≤ k) : Only S w w'' :=
  ⟨h'.os.trans h.os, h'.tape.trans h.tape, h'.output.trans h.output, Nat.le_trans h.size h'.size, fun k hk hn =>
    (h'.block k (Nat.lt_of_lt_of_le hk h.size) (fun hm => by
      rcases hs k hm with h1 | h1
      · exact hn h1
      · omega)).trans (h.block k hk hn)⟩
theorem Only.nil_trans (h : Only S w w') (h' : Only [] w' w'') : Only S w w'' := h.trans h' (by simp)
theorem Only.drew (h : Only S w w') : Only S w w'.drew := ⟨h.os, h.tape, h.output, h.size, h.block⟩
theorem Only.drewN (h : Only S w w') (n : Nat) : Only S w (w'.drewN n) := ⟨h.os, h.tape, h.output, h.size, h.block⟩
theorem Only.alloc (h : Only S w w') (o : Obj) : Only S w (w'.alloc o) :=
  ⟨h.os, h.tape, h.output, Nat.le_trans h.size (by simp), fun k hk hn => (Below.heap_alloc w' o k (Nat.lt_of_lt_of_le hk h.size)).trans (h.block k hk hn)⟩
theorem Only.setCell (h : Only S w w') {p : Addr} (hp : p.block ∈ S ∨ w.heap.size ≤ p.block) (u : Value) : Only S w (w'.setCell p u) :=
  ⟨h.os, h.tape, h.output, by simpa [World.setCell] using h.size, fun k hk hn => (Below.heap_setCell w' p u k (fun e => by
    subst e
    rcases hp with h1 | h1
    · exact hn h1
    · omega)).trans (h.block k hk hn)⟩
theorem Only.below (h : Only S w w') {B : Nat} (hB : B ≤ w.heap.size) (hs : ∀ k ∈ S, B ≤ k) : Below B w w' :=
  ⟨h.os, h.tape, h.output, h.size, fun k hk => h.block k (by omega) (fun hm => by have := hs k hm; omega)⟩
theorem Only.nil_below (h : Only [] w w') : Below w.heap.size w w' := h.below (Nat.le_refl _) (by simp)
theorem Only.of_grown {row : Option Nat} (h : w.grownBy w' row) (hr : ∀ k, row = some k → k ∈ S) : Only S w w' :=
  ⟨h.os, h.tape, h.output, h.size, fun k hk hn => h.block k hk (fun e => hn (hr k e.symm))⟩
theorem Only.heap (h : Only S w w') (hg : w.heap[g]? = some o) (hn : g ∉ S) : w'.heap[g]? = some o := (h.block g (lt_of_heap hg) hn).trans hg
theorem Only.cell (h : Only S w w') {p : Addr} {v : Value} (hc : w.cell? p = some v) (hn : p.block ∉ S) : w'.cell? p = some v :=
  (World.cell?_of_block (h.block p.block (World.block_lt_of_cell? w p hc) hn)).trans hc

theorem Blk.lt (h : Blk w g t cs) : g < w.heap.size := lt_of_heap h
theorem Blk.cell (h : Blk w g t cs) (i : Nat) : w.cell? ⟨g, i, none⟩ = cs[i]? := by
  rw [cell_of_row w g i _ t (0, 0) h]; simp
theorem Blk.frozen (h : Blk w g t cs) (i : Nat) : w.frozen? ⟨g, i, none⟩ = false := by
  unfold Blk at h
  simp [World.frozen?, h]
theorem Blk.new (w : World) (t : TypeId) (cs : List Value) : Blk (w.alloc (.cells cs.toArray t)) w.heap.size t cs := heap_alloc_new w _
theorem Blk.drew (h : Blk w g t cs) : Blk w.drew g t cs := h
theorem Blk.drewN (h : Blk w g t cs) (n : Nat) : Blk (w.drewN n) g t cs := h
theorem Blk.alloc (h : Blk w g t cs) (o : Obj) : Blk (w.alloc o) g t cs := (Below.heap_alloc w o g h.lt).trans h
theorem Blk.set_ (h : Blk w g t cs) (i : Nat) (u : Value) : Blk (w.setCell ⟨g, i, none⟩ u) g t (cs.set i u) := by
  unfold Blk at h ⊢
  simp [World.setCell, Array.getElem?_modify, h]
theorem Blk.far (h : Blk w g t cs) {p : Addr} (hp : g ≠ p.block) (u : Value) : Blk (w.setCell p u) g t cs := (Below.heap_setCell w p u g hp).trans h
theorem Blk.only (h : Blk w g t cs) (ho : Only S w w') (hn : g ∉ S) : Blk w' g t cs := ho.heap h hn
theorem Blk.grown (h : Blk w g t cs) {row : Option Nat} (hg : w.grownBy w' row) (hn : row ≠ some g) : Blk w' g t cs :=
  (hg.block g h.lt (fun e => hn e.symm)).trans h
theorem Blk.same (h : Blk w g t cs) {t' : TypeId} {cs' : List Value} (h' : Blk w g t' cs') : t = t' ∧ cs = cs' := by
  unfold Blk at h h'
  rw [h] at h'
  injection h' with h'
  injection h' with h1 h2
  exact ⟨h2, by simpa using h1⟩
end
end Go.Proofs.YtigpnopeacicpaaDoor

/-
  The program's own facts that every lifting names.
-/
namespace Go.Proofs.YtigpnopeacicpaaDoor
open Go.ChangeShapes Go.WideShapes Go.ChangeAt Go.RowKit Go.Deep

theorem own : ownKnob Tryd.prog.godebug = none := by kernel_rfl
theorem laidOut : laidOutB Tryd.prog = true := by kernel_rfl
end Go.Proofs.YtigpnopeacicpaaDoor

/-
  Whole numbers as lists of limbs of 64 bits, the lowest one first: the plain law (no program in sight).
-/
namespace Go.Proofs.YtigpnopeacicpaaDoor

/-- The base of the limbs. -/
def BB : Nat := 18446744073709551616
theorem BB_val : BB = 18446744073709551616 := rfl
theorem BB_pos : 0 < BB := by decide
theorem BB_two : 2 ≤ BB := by decide
theorem BB_pow : BB = 2 ^ 64 := by decide
attribute [irreducible] BB
theorem BB_pow_pos (n : Nat) : 0 < BB ^ n := Nat.pow_pos BB_pos

/-- What a list of limbs is worth. -/
def val : List Nat → Nat
  | [] => 0
  | x :: xs => x + BB * val xs
/-- Each is a limb. -/
def Limb (xs : List Nat) : Prop := ∀ x ∈ xs, x < BB

theorem val_append : ∀ xs ys : List Nat, val (xs ++ ys) = val xs + BB ^ xs.length * val ys
  | [], ys => by simp [val]
  | x :: xs, ys => by
    simp only [List.cons_append, val, val_append xs ys, List.length_cons, Nat.pow_succ, Nat.mul_add]
    rw [Nat.mul_comm (BB ^ xs.length) BB, Nat.mul_assoc, Nat.add_assoc]
theorem Limb.append {xs ys : List Nat} (h : Limb xs) (h' : Limb ys) : Limb (xs ++ ys) := fun x hx => by
  rcases List.mem_append.1 hx with h1 | h1
  · exact h x h1
  · exact h' x h1
theorem Limb.left {xs ys : List Nat} (h : Limb (xs ++ ys)) : Limb xs := fun x hx => h x (by simp [hx])
theorem Limb.right {xs ys : List Nat} (h : Limb (xs ++ ys)) : Limb ys := fun x hx => h x (by simp [hx])
theorem Limb.take {xs : List Nat} (h : Limb xs) (n : Nat) : Limb (xs.take n) := fun x hx => h x (List.mem_of_mem_take hx)
theorem Limb.drop {xs : List Nat} (h : Limb xs) (n : Nat) : Limb (xs.drop n) := fun x hx => h x (List.mem_of_mem_drop hx)
theorem Limb.tail {x : Nat} {xs : List Nat} (h : Limb (x :: xs)) : Limb xs := fun y hy => h y (by simp [hy])
theorem Limb.set {xs : List Nat} (h : Limb xs) (i v : Nat) (hv : v < BB) : Limb (xs.set i v) := fun x hx => by
  rcases List.mem_or_eq_of_mem_set hx with h1 | h1
  · exact h x h1
  · exact h1 ▸ hv
theorem Limb.get {xs : List Nat} (h : Limb xs) (i : Nat) : xs[i]?.getD 0 < BB := by
  cases hx : xs[i]? with
  | none => exact BB_pos
  | some x => exact h x (List.mem_of_getElem? hx)
theorem Limb.zeros (n : Nat) : Limb (List.replicate n 0) := fun x hx => by
  rw [List.eq_of_mem_replicate hx]
  exact BB_pos
theorem limb_nil : Limb [] := fun x hx => by simp at hx
theorem limb_one {x : Nat} (h : x < BB) : Limb [x] := fun y hy => by
  have : y = x := by simpa using hy
  exact this ▸ h
theorem val_zeros : ∀ n : Nat, val (List.replicate n 0) = 0
  | 0 => rfl
  | n + 1 => by rw [List.replicate_succ, val, val_zeros n]; omega
theorem val_lt : ∀ {xs : List Nat}, Limb xs → val xs < BB ^ xs.length
  | [], _ => by simp [val]
  | x :: xs, h => by
    have h1 := val_lt h.tail
    have h2 := h x (by simp)
    simp only [val, List.length_cons, Nat.pow_succ]
    have h3 : val xs + 1 ≤ BB ^ xs.length := h1
    have h4 : BB * (val xs + 1) ≤ BB * BB ^ xs.length := Nat.mul_le_mul_left _ h3
    rw [Nat.mul_add, Nat.mul_one, Nat.mul_comm BB (BB ^ xs.length)] at h4
    omega
theorem val_take_drop (xs : List Nat) (n : Nat) (hn : n ≤ xs.length) : val xs = val (xs.take n) + BB ^ n * val (xs.drop n) := by
  have h := val_append (xs.take n) (xs.drop n)
  rw [List.take_append_drop, List.length_take, Nat.min_eq_left hn] at h
  exact h
theorem val_snoc (xs : List Nat) (x : Nat) : val (xs ++ [x]) = val xs + BB ^ xs.length * x := by
  rw [val_append]
  simp [val]
theorem val_take_succ (xs : List Nat) (k : Nat) (hk : k < xs.length) : val (xs.take (k + 1)) = val (xs.take k) + BB ^ k * (xs[k]?.getD 0) := by
  rw [List.take_succ_eq_append_getElem hk, val_snoc, List.length_take, Nat.min_eq_left (by omega), List.getElem?_eq_getElem hk]
  rfl
theorem val_set (xs : List Nat) (i v : Nat) (hi : i < xs.length) : val (xs.set i v) + BB ^ i * (xs[i]?.getD 0) = val xs + BB ^ i * v := by
  have h1 := val_take_drop xs i (by omega)
  have h2 := val_take_drop (xs.set i v) i (by simp; omega)
  have e1 : (xs.set i v).take i = xs.take i := by rw [List.take_set_of_le (by omega)]
  have e2 : xs.drop i = xs[i] :: xs.drop (i + 1) := List.drop_eq_getElem_cons hi
  have e3 : (xs.set i v).drop i = v :: xs.drop (i + 1) := by
    rw [List.drop_eq_getElem_cons (by simpa using hi)]
    rw [List.getElem_set_self, List.drop_set_of_lt (by omega)]
  rw [e1, e3, val] at h2
  rw [e2, val] at h1
  rw [List.getElem?_eq_getElem hi, h1, h2]
  simp only [Option.getD_some, Nat.mul_add]
  omega

/-- The limbs of a number, none of 0 at the end. -/
def limbsOf (n : Nat) : List Nat := if _h : n = 0 then [] else n % BB :: limbsOf (n / BB)
termination_by n
decreasing_by exact Nat.div_lt_self (by omega) BB_two
theorem limbsOf_zero : limbsOf 0 = [] := by rw [limbsOf]; rfl
theorem limbsOf_pos {n : Nat} (h : n ≠ 0) : limbsOf n = n % BB :: limbsOf (n / BB) := by rw [limbsOf, dif_neg h]
theorem limbsOf_val_cons (x N : Nat) (hx : x < BB) (h : N ≠ 0 ∨ x ≠ 0) : limbsOf (x + BB * N) = x :: limbsOf N := by
  have hp := BB_pos
  have hne : x + BB * N ≠ 0 := by
    rcases h with h | h
    · have : 0 < BB * N := Nat.mul_pos hp (by omega)
      omega
    · omega
  rw [limbsOf_pos hne, Nat.add_mul_mod_self_left, Nat.mod_eq_of_lt hx, Nat.add_mul_div_left _ _ hp, Nat.div_eq_of_lt hx, Nat.zero_add]
theorem val_limbsOf : ∀ n : Nat, val (limbsOf n) = n := fun n => by
  induction n using Nat.strongRecOn with
  | ind n ih =>
    by_cases h : n = 0
    · rw [h, limbsOf_zero]; rfl
    · rw [limbsOf_pos h, val, ih _ (Nat.div_lt_self (by omega) BB_two), Nat.mod_add_div]
theorem limb_limbsOf : ∀ n : Nat, Limb (limbsOf n) := fun n => by
  induction n using Nat.strongRecOn with
  | ind n ih =>
    by_cases h : n = 0
    · rw [h, limbsOf_zero]; exact limb_nil
    · rw [limbsOf_pos h]
      intro x hx
      rcases List.mem_cons.1 hx with rfl | hx
      · exact Nat.mod_lt _ BB_pos
      · exact ih _ (Nat.div_lt_self (by omega) BB_two) x hx
/-- None of 0 at the end. -/
def Canon (xs : List Nat) : Prop := ∀ h : 0 < xs.length, xs[xs.length - 1] ≠ 0
theorem limbsOf_val : ∀ {xs : List Nat}, Limb xs → Canon xs → limbsOf (val xs) = xs
  | [], _, _ => limbsOf_zero
  | x :: xs, h, hc => by
    have hc' : Canon xs := fun h0 => by
      have := hc (by simp)
      simpa [List.getElem_cons, show xs.length ≠ 0 by omega] using this
    have ih := limbsOf_val h.tail hc'
    rw [val, limbsOf_val_cons x _ (h x (by simp)) ?_, ih]
    by_cases h0 : val xs = 0
    · right
      rw [h0, limbsOf_zero] at ih
      subst ih
      simpa using hc (by simp)
    · exact .inl h0
theorem canon_limbsOf : ∀ n : Nat, Canon (limbsOf n) := fun n => by
  induction n using Nat.strongRecOn with
  | ind n ih =>
    by_cases h : n = 0
    · rw [h, limbsOf_zero]; intro h0; simp at h0
    · rw [limbsOf_pos h]
      intro _
      have ih := ih _ (Nat.div_lt_self (by omega) BB_two)
      by_cases h1 : n / BB = 0
      · simp only [h1, limbsOf_zero, List.length_cons, List.length_nil]
        have := Nat.mod_add_div n BB
        rw [h1] at this
        simp
        omega
      · have hl : (limbsOf (n / BB)).length ≠ 0 := by rw [limbsOf_pos h1]; simp
        have := ih (by omega)
        simpa [List.getElem_cons, hl] using this
/-- Cut behind the last one that is not 0. -/
theorem limbsOf_take : ∀ {xs : List Nat}, Limb xs → xs.take (limbsOf (val xs)).length = limbsOf (val xs) ∧ (limbsOf (val xs)).length ≤ xs.length
  | [], _ => by simp [val, limbsOf_zero]
  | x :: xs, h => by
    obtain ⟨ih, ih2⟩ := limbsOf_take h.tail
    by_cases h0 : val xs ≠ 0 ∨ x ≠ 0
    · rw [val, limbsOf_val_cons x _ (h x (by simp)) h0]
      simp [ih, ih2]
    · have e : val xs = 0 ∧ x = 0 := by omega
      rw [val, e.1, e.2]
      simp [limbsOf_zero]
theorem limbsOf_len {xs : List Nat} (h : Limb xs) : (limbsOf (val xs)).length ≤ xs.length := (limbsOf_take h).2
theorem limbsOf_len_le {n k : Nat} (h : n < BB ^ k) : (limbsOf n).length ≤ k := by
  induction k generalizing n with
  | zero =>
    have : n = 0 := by simpa using h
    simp [this, limbsOf_zero]
  | succ k ih =>
    by_cases h0 : n = 0
    · simp [h0, limbsOf_zero]
    · rw [limbsOf_pos h0, List.length_cons]
      have := ih (n := n / BB) (by
        rw [Nat.div_lt_iff_lt_mul BB_pos]
        rwa [Nat.pow_succ] at h)
      omega
theorem lt_limbsOf (n : Nat) : n < BB ^ (limbsOf n).length := by
  have := val_lt (limb_limbsOf n)
  rwa [val_limbsOf] at this
theorem limbsOf_len0 {n : Nat} : (limbsOf n).length = 0 ↔ n = 0 := by
  constructor
  · intro h
    have := lt_limbsOf n
    rw [h] at this
    simpa using this
  · rintro rfl
    rw [limbsOf_zero]; rfl
/-- Where trim's loop stops: all behind n are 0, and the one ahead of it is not. -/
theorem trim_stop {xs : List Nat} (h : Limb xs) (n : Nat) (hn : n ≤ xs.length) (hz : ∀ j, n ≤ j → j < xs.length → xs[j]?.getD 0 = 0) (hc : 0 < n → xs[n - 1]?.getD 0 ≠ 0) : (limbsOf (val xs)).length = n ∧ xs.take n = limbsOf (val xs) := by
  have e : xs.drop n = List.replicate (xs.length - n) 0 := by
    apply List.ext_getElem
    · simp
    · intro i h1 h2
      have := hz (n + i) (by omega) (by simp at h1; omega)
      rw [List.getElem?_eq_getElem (by simp at h1; omega)] at this
      simpa using this
  have hv : val xs = val (xs.take n) := by
    rw [val_take_drop xs n hn, e, val_zeros]
    omega
  have hcan : Canon (xs.take n) := by
    intro h0
    have hl : (xs.take n).length = n := by rw [List.length_take]; omega
    have := hc (by omega)
    rw [List.getElem?_eq_getElem (by omega)] at this
    simp only [Option.getD_some] at this
    rw [List.getElem_take]
    simpa [hl] using this
  have := limbsOf_val (h.take n) hcan
  rw [hv, this]
  exact ⟨by rw [List.length_take]; omega, rfl⟩

end Go.Proofs.YtigpnopeacicpaaDoor
/-
  The steps of sums, differences, products and shifts of limbs: the plain law.
-/
namespace Go.Proofs.YtigpnopeacicpaaDoor

theorem add_step {zs : List Nat} {i v c lo hi : Nat} (h0 : i < zs.length) (h : lo + BB * hi = zs[i]?.getD 0 + v + c) : val (zs.set i lo) + BB ^ (i + 1) * hi = val zs + BB ^ i * v + BB ^ i * c := by
  have h1 := val_set zs i lo h0
  have h2 := congrArg (BB ^ i * ·) h
  simp only [Nat.mul_add] at h2
  rw [Nat.pow_succ, Nat.mul_assoc]
  omega
/-- What is below a power has no limb from there on. -/
theorem val_zero_of : ∀ {zs : List Nat}, val zs = 0 → ∀ k : Nat, zs[k]?.getD 0 = 0
  | [], _, k => by simp
  | z :: zs, h, 0 => by
    simp only [val] at h
    simp
    omega
  | z :: zs, h, k + 1 => by
    simp only [val] at h
    have hb := BB_pos
    have h1 : val zs = 0 := by
      rcases Nat.eq_zero_or_pos (val zs) with h2 | h2
      · exact h2
      · have := Nat.mul_pos hb h2
        omega
    have := val_zero_of h1 k
    simpa using this
theorem val_high {zs : List Nat} {m : Nat} (h : val zs < BB ^ m) (k : Nat) (hk : m ≤ k) : zs[k]?.getD 0 = 0 := by
  by_cases hm : m ≤ zs.length
  · have h1 := val_take_drop zs m hm
    have h2 : val (zs.drop m) = 0 := by
      rcases Nat.eq_zero_or_pos (val (zs.drop m)) with h2 | h2
      · exact h2
      · have h3 : BB ^ m * 1 ≤ BB ^ m * val (zs.drop m) := Nat.mul_le_mul_left _ h2
        omega
    have h3 := val_zero_of h2 (k - m)
    rw [List.getElem?_drop, show m + (k - m) = k by omega] at h3
    exact h3
  · rw [List.getElem?_eq_none (by omega)]
    rfl
theorem set_get_ne {zs : List Nat} {i j v : Nat} (h : i ≠ j) : (zs.set i v)[j]?.getD 0 = zs[j]?.getD 0 := by
  rw [List.getElem?_set_ne h]
theorem set_get_eq {zs : List Nat} {i v : Nat} (h : i < zs.length) : (zs.set i v)[i]?.getD 0 = v := by
  simp [h]
theorem val_take_all (xs : List Nat) : val (xs.take xs.length) = val xs := by rw [List.take_length]
theorem val_ge_get {zs : List Nat} (i : Nat) : BB ^ i * (zs[i]?.getD 0) ≤ val zs := by
  by_cases hi : i < zs.length
  · have h1 := val_take_drop zs (i + 1) (by omega)
    rw [val_take_succ zs i hi] at h1
    omega
  · rw [List.getElem?_eq_none (by omega)]
    simp
theorem pow_le {i j : Nat} (h : i ≤ j) : BB ^ i ≤ BB ^ j := Nat.pow_le_pow_right BB_pos h

/-- Divided by a power of two, limb by limb. -/
def shrAt (r : Nat) (xs : List Nat) (j : Nat) : Nat := xs[j]?.getD 0 / 2 ^ r + (xs[j + 1]?.getD 0 % 2 ^ r) * 2 ^ (64 - r)
def shrL (r : Nat) (xs : List Nat) : List Nat := (List.range xs.length).map (shrAt r xs)
theorem shrAt_cons (r x : Nat) (xs : List Nat) (j : Nat) : shrAt r (x :: xs) (j + 1) = shrAt r xs j := by simp [shrAt]
theorem shrL_cons (r x : Nat) (xs : List Nat) : shrL r (x :: xs) = (x / 2 ^ r + (xs[0]?.getD 0 % 2 ^ r) * 2 ^ (64 - r)) :: shrL r xs := by
  unfold shrL
  rw [List.length_cons, List.range_succ_eq_map, List.map_cons, List.map_map]
  have e : List.map (shrAt r (x :: xs) ∘ Nat.succ) (List.range xs.length) = List.map (shrAt r xs) (List.range xs.length) := by
    apply List.map_congr_left
    intro j _
    exact shrAt_cons r x xs j
  rw [e]
  simp [shrAt]
theorem val_mod (r : Nat) (hr : r < 64) : ∀ (xs : List Nat), val xs % 2 ^ r = xs[0]?.getD 0 % 2 ^ r
  | [] => by simp [val]
  | x :: xs => by
    have e : BB = 2 ^ r * 2 ^ (64 - r) := by rw [← Nat.pow_add, BB_pow]; congr 1; omega
    rw [val, e, Nat.mul_assoc, Nat.add_mul_mod_self_left]
    simp
theorem val_shrL (r : Nat) (hr : r < 64) : ∀ (xs : List Nat), val (shrL r xs) = val xs / 2 ^ r
  | [] => by simp [shrL, val]
  | x :: xs => by
    have ih := val_shrL r hr xs
    have hm := val_mod r hr xs
    have e : BB = 2 ^ r * 2 ^ (64 - r) := by rw [← Nat.pow_add, BB_pow]; congr 1; omega
    rw [shrL_cons, val, val, ih, ← hm]
    have hp : 0 < 2 ^ r := Nat.pow_pos (by omega)
    have h1 : x + BB * val xs = x + 2 ^ r * (2 ^ (64 - r) * val xs) := by rw [e, Nat.mul_assoc]
    rw [h1, Nat.add_mul_div_left _ _ hp]
    have h2 := Nat.div_add_mod (val xs) (2 ^ r)
    have h3 : 2 ^ (64 - r) * val xs = 2 ^ (64 - r) * (2 ^ r * (val xs / 2 ^ r)) + 2 ^ (64 - r) * (val xs % 2 ^ r) := by rw [← Nat.mul_add, h2]
    have h4 : 2 ^ (64 - r) * (2 ^ r * (val xs / 2 ^ r)) = BB * (val xs / 2 ^ r) := by rw [← Nat.mul_assoc, e, Nat.mul_comm (2 ^ (64 - r))]
    rw [h3, h4, Nat.mul_comm (2 ^ (64 - r)) (val xs % 2 ^ r)]
    omega
theorem shrL_len (r : Nat) (xs : List Nat) : (shrL r xs).length = xs.length := by simp [shrL]
/-- A list that has the right limbs is the right list. -/
theorem eq_shrL {r : Nat} {xs zs : List Nat} (hl : zs.length = xs.length) (h : ∀ j, j < xs.length → zs[j]?.getD 0 = shrAt r xs j) : zs = shrL r xs := by
  apply List.ext_getElem
  · rw [hl, shrL_len]
  · intro j h1 h2
    have h3 := h j (by omega)
    rw [List.getElem?_eq_getElem h1] at h3
    rw [show zs[j] = shrAt r xs j from h3]
    simp [shrL]
theorem val_drop_div (xs : List Nat) (hx : Limb xs) (k : Nat) (hk : k ≤ xs.length) : val (xs.drop k) = val xs / BB ^ k := by
  have h1 := val_take_drop xs k hk
  have h2 := val_lt (hx.take k)
  rw [List.length_take, Nat.min_eq_left hk] at h2
  rw [h1, Nat.add_mul_div_left _ _ (BB_pow_pos k), Nat.div_eq_of_lt h2, Nat.zero_add]
theorem pow_split (n : Nat) : 2 ^ n = BB ^ (n / 64) * 2 ^ (n % 64) := by
  rw [BB_pow, ← Nat.pow_mul, ← Nat.pow_add]
  congr 1
  omega
theorem shr_val (xs : List Nat) (hx : Limb xs) (n : Nat) (hk : n / 64 ≤ xs.length) : val (shrL (n % 64) (xs.drop (n / 64))) = val xs / 2 ^ n := by
  rw [val_shrL _ (Nat.mod_lt _ (by omega)), val_drop_div xs hx _ hk, Nat.div_div_eq_div_mul, pow_split n]
theorem shr_small (xs : List Nat) (hx : Limb xs) (n : Nat) (hk : xs.length ≤ n / 64) : val xs / 2 ^ n = 0 := by
  apply Nat.div_eq_of_lt
  have h1 := val_lt hx
  have h2 := pow_le hk
  have h3 : BB ^ (n / 64) * 1 ≤ BB ^ (n / 64) * 2 ^ (n % 64) := Nat.mul_le_mul_left _ (Nat.pow_pos (by omega))
  rw [pow_split n]
  omega
end Go.Proofs.YtigpnopeacicpaaDoor
/-
  Division limb by limb, and Newton's root: the plain law.
-/
namespace Go.Proofs.YtigpnopeacicpaaDoor

end Go.Proofs.YtigpnopeacicpaaDoor
/-
  Products by parts: the plain law.
-/
namespace Go.Proofs.YtigpnopeacicpaaDoor

end Go.Proofs.YtigpnopeacicpaaDoor
/-
  What math/bits' Div64 reckons: the plain law.
-/
namespace Go.Proofs.YtigpnopeacicpaaDoor
open Go

end Go.Proofs.YtigpnopeacicpaaDoor
/-
  The long division, limb by limb: the plain law.
-/
namespace Go.Proofs.YtigpnopeacicpaaDoor

/-- Where one digit stands that is being lowered. -/
structure DI (us us' : List Nat) (V j n d b : Nat) : Prop where
  limb : Limb us'
  len : us'.length = us.length
  eq : val us' + BB ^ j * (d * V) = val us + BB ^ (j + n + 1) * b
  lt : val us' < BB ^ (j + n + 1)
  est : val us < BB ^ j * ((d + 1) * V)
  dl : d < BB
  bl : b ≤ 1
theorem DI.done {us us' : List Nat} {V j n d : Nat} (h : DI us us' V j n d 0) : val us' + BB ^ j * (d * V) = val us ∧ val us' < BB ^ j * V := by
  have h1 := h.eq
  have h2 := h.est
  rw [Nat.mul_zero, Nat.add_zero] at h1
  rw [Nat.add_mul, Nat.one_mul, Nat.mul_add] at h2
  exact ⟨h1, by omega⟩

/-- Where the division stands. -/
structure LI (us qs : List Nat) (U0 V k : Nat) : Prop where
  ul : Limb us
  ql : Limb qs
  eq : val us + V * (BB ^ k * val (qs.drop k)) = U0
  lt : val us < BB ^ k * V
theorem LI.done {us qs : List Nat} {a b s : Nat} (h : LI us qs (a * 2 ^ s) (b * 2 ^ s) 0) : val qs = a / b ∧ val us / 2 ^ s = a % b := by
  have hp : 0 < 2 ^ s := Nat.pow_pos (by omega)
  have h1 := h.eq
  have h2 := h.lt
  simp only [Nat.pow_zero, Nat.one_mul, List.drop_zero] at h1 h2
  have hV : 0 < b * 2 ^ s := by omega
  have e1 : (a * 2 ^ s) / (b * 2 ^ s) = val qs := by
    rw [← h1, Nat.add_comm, Nat.mul_add_div hV, Nat.div_eq_of_lt h2, Nat.add_zero]
  have e2 : (a * 2 ^ s) % (b * 2 ^ s) = val us := by
    rw [← h1, Nat.add_comm, Nat.mul_add_mod, Nat.mod_eq_of_lt h2]
  rw [Nat.mul_div_mul_right _ _ hp] at e1
  rw [Nat.mul_mod_mul_right] at e2
  exact ⟨e1.symm, by rw [← e2, Nat.mul_div_cancel _ hp]⟩

end Go.Proofs.YtigpnopeacicpaaDoor
