/-
  Joined texts.
-/
import Derived.Test.YtigpnopeacicpaaGreatDoorTrJ27
import Derived.Test.YtigpnopeacicpaaGreatDoorTrJ19
import Derived.Test.YtigpnopeacicpaaGreatDoorTrJ8
import Derived.Test.YtigpnopeacicpaaGreatDoorTrJ9
import Derived.Test.YtigpnopeacicpaaGreatDoorTrJ0
/-
  A map from ints to values of any type that the call has made, as a function of its keys, with its exact size.
-/
namespace Go.Proofs.YtigpnopeacicpaaGreatDoor
open Go.RowKit Go.Maps

def selfV (v : Value) : Option (DataW Value × List MemPlace) := some (.held v, [])
def MapV (w : World) (b n : Nat) (f : Int → Option Value) : Prop :=
  ∃ D : DataW Value, w.ownsMap Tryz.prog 3 selfV b n D ∧ Maps.size D = n ∧ (∀ kl, Maps.has D kl = true → ∃ k, Small k ∧ kl = .int .i64 k) ∧ ∀ k, Small k → Maps.has D (.int .i64 k) = (f k).isSome ∧ ∀ z, D.atKey (.int .i64 k) (.held z) = .held ((f k).getD z)
section
variable {w w' : World} {b n : Nat} {f : Int → Option Value} {k : Int} {v z : Value} {M E : TypeId}
theorem MapV.lt (h : MapV w b n f) : b < w.heap.size := by
  obtain ⟨D, h1, _⟩ := h
  exact h1.lt
theorem MapV.obj (h : MapV w b n f) : ∃ es clock, w.heap[b]? = some (.map es clock) := by
  obtain ⟨D, ⟨es, clock, h1, _⟩, _⟩ := h
  exact ⟨es, clock, h1⟩
theorem MapV.only {S : List Nat} (h : MapV w b n f) (ho : Only S w w') (hb : b ∉ S) : MapV w' b n f := by
  obtain ⟨D, ⟨es, clock, h1, h2⟩, h3⟩ := h
  exact ⟨D, ⟨es, clock, ho.heap h1 hb, h2⟩, h3⟩
theorem MapV.made (w : World) : MapV (w.alloc (.map #[] 0)) w.heap.size 0 (fun _ => none) :=
  ⟨.map [], World.ownsMap_made w _ _ _, rfl, fun kl h => (by simp [Maps.has] at h), fun _ _ => ⟨rfl, fun _ => rfl⟩⟩
theorem MapV.look (h : MapV w b n f) (hM : Tryz.prog.underlying M = some (.map 3 E)) (hz : (zeroValue E).run Tryz.prog w = .ok z w) (hk : Small k) : (Instr.lookup M (.map (some b)) (.int .i64 k) false).run Tryz.prog w = .ok ((f k).getD z) w := by
  obtain ⟨D, h1, _, _, h2⟩ := h
  obtain ⟨v, ps, hr, hv⟩ := h1.lookup (int_keyed Tryz.underlying3) hM hz (zd := .held z) (zp := []) rfl (keyOf_int_mk Tryz.underlying3 hk.wf)
  rw [(h2 k hk).2 z] at hv
  simp only [selfV, Option.some.injEq, Prod.mk.injEq, DataW.held.injEq] at hv
  rw [hr, hv.1]
theorem MapV.len (h : MapV w b n f) (hM : Tryz.prog.underlying M = some (.map 3 E)) (ty : TypeId) : (Builtin.len_ #[M] ty #[.map (some b)]).run Tryz.prog w = .ok (.int .i64 n) w := by
  obtain ⟨D, h1, h2, _⟩ := h
  rw [h1.len hM, h2]
theorem MapV.store (h : MapV w b n f) (hM : Tryz.prog.underlying M = some (.map 3 E)) (hn : n < 1000000) (hk : Small k) (v : Value) :
    ∃ w', (Instr.mapUpdate M (.map (some b)) (.int .i64 k) v).run Tryz.prog w = .ok () w' ∧ MapV w' b (if (f k).isSome then n else n + 1) (fun x => if x = k then some v else f x) ∧ Only [b] w w' := by
  obtain ⟨D, h1, h0, hK, h2⟩ := h
  obtain ⟨w', hr, ho, hg⟩ := h1.update (int_keyed Tryz.underlying3) hM (by simp only [maxLen]; omega) (keyOf_int_mk Tryz.underlying3 hk.wf) (val := v) (d := .held v) (ps := []) rfl
  have ht : Tidy D := h1.tidy (int_keyed Tryz.underlying3)
  have hs : Maps.size (D.put (.int .i64 k) (.held v)) = if (f k).isSome then n else n + 1 := by
    rw [size_put ht, (h2 k hk).1, h0]
  refine ⟨w', hr, ⟨_, ?_, hs, fun kl hkl => ?_, fun x hx => ?_⟩, Only.of_grown hg (by simp)⟩
  · rw [← hs]
    obtain ⟨es, clock, q1, q2, q3, q4⟩ := ho
    refine ⟨es, clock, q1, q2, ?_, q4⟩
    rw [q4]
    simp [Maps.size, length_sorted]
  · by_cases e : kl = .int .i64 k
    · exact ⟨k, hk, e⟩
    · rw [has_put_other e] at hkl
      exact hK kl hkl
  · show _ = (if x = k then some v else f x).isSome ∧ ∀ z, _ = DataW.held ((if x = k then some v else f x).getD z)
    by_cases e : x = k
    · subst e
      have hD := h1.isMap
      rw [if_pos rfl]
      exact ⟨by rw [has_put_same hD (by trivial)]; rfl, fun z => by rw [atKey_put_same hD (by trivial)]; rfl⟩
    · rw [if_neg e]
      have hne : Lit.int .i64 x ≠ Lit.int .i64 k := fun h => e (by injection h)
      exact ⟨by rw [has_put_other hne]; exact (h2 x hx).1, fun z => by rw [atKey_put_other hne]; exact (h2 x hx).2 z⟩
end
end Go.Proofs.YtigpnopeacicpaaGreatDoor

/-
  A map[int]int that the call has made, as a function of its keys, with its exact size.
-/
namespace Go.Proofs.YtigpnopeacicpaaGreatDoor
open Go.RowKit Go.Maps

def MapX (w : World) (b n : Nat) (f : Int → Option Int) : Prop :=
  ∃ D : DataW Unit, w.ownsMap Tryz.prog 3 (plainElem Tryz.prog 3) b n D ∧ Maps.size D = n ∧ ∀ k, Small k → Maps.has D (.int .i64 k) = (f k).isSome ∧ D.atKey (.int .i64 k) (.lit (.int .i64 0)) = .lit (.int .i64 ((f k).getD 0))
section
variable {w w' : World} {b n : Nat} {f : Int → Option Int} {k v : Int}
theorem MapX.toI (h : MapX w b n f) : MapI w b n f := by
  obtain ⟨D, h1, _, h2⟩ := h
  exact ⟨D, h1, h2⟩
theorem MapX.lt (h : MapX w b n f) : b < w.heap.size := h.toI.lt
theorem MapX.only {S : List Nat} (h : MapX w b n f) (ho : Only S w w') (hb : b ∉ S) : MapX w' b n f := by
  obtain ⟨D, ⟨es, clock, h1, h2⟩, h3⟩ := h
  exact ⟨D, ⟨es, clock, ho.heap h1 hb, h2⟩, h3⟩
theorem MapX.made (w : World) : MapX (w.alloc (.map #[] 0)) w.heap.size 0 (fun _ => none) :=
  ⟨.map [], World.ownsMap_made w _ _ _, rfl, fun _ _ => ⟨rfl, rfl⟩⟩
theorem MapX.look (h : MapX w b n f) (hk : Small k) : (Instr.lookup 147 (.map (some b)) (.int .i64 k) false).run Tryz.prog w = .ok (.int .i64 ((f k).getD 0)) w := h.toI.look hk
theorem MapX.len (h : MapX w b n f) (ty : TypeId) : (Builtin.len_ #[147] ty #[.map (some b)]).run Tryz.prog w = .ok (.int .i64 n) w := by
  obtain ⟨D, h1, h2, _⟩ := h
  rw [h1.len Tryz.underlying147, h2]
theorem MapX.store (h : MapX w b n f) (hn : n < 1000000) (hk : Small k) (hv : Small v) :
    ∃ w', (Instr.mapUpdate 147 (.map (some b)) (.int .i64 k) (.int .i64 v)).run Tryz.prog w = .ok () w' ∧ MapX w' b (if (f k).isSome then n else n + 1) (fun x => if x = k then some v else f x) ∧ Only [b] w w' := by
  obtain ⟨D, h1, h0, h2⟩ := h
  obtain ⟨w', hr, ho, hg⟩ := h1.update (int_keyed Tryz.underlying3) Tryz.underlying147 (by simp only [maxLen]; omega) (keyOf_int_mk Tryz.underlying3 hk.wf) (plainElem_int Tryz.underlying3 hv.wf)
  have ht : Tidy D := h1.tidy (int_keyed Tryz.underlying3)
  have hs : Maps.size (D.put (.int .i64 k) (.lit (.int .i64 v))) = if (f k).isSome then n else n + 1 := by
    rw [size_put ht, (h2 k hk).1, h0]
  refine ⟨w', hr, ⟨_, ?_, hs, fun x hx => ?_⟩, Only.of_grown hg (by simp)⟩
  · rw [← hs]
    obtain ⟨es, clock, q1, q2, q3, q4⟩ := ho
    refine ⟨es, clock, q1, q2, ?_, q4⟩
    rw [q4]
    simp [Maps.size, length_sorted]
  · show _ = (if x = k then some v else f x).isSome ∧ _ = DataW.lit (Lit.int .i64 ((if x = k then some v else f x).getD 0))
    by_cases e : x = k
    · subst e
      have hD := h1.isMap
      rw [if_pos rfl]
      exact ⟨by rw [has_put_same hD (by trivial)]; rfl, by rw [atKey_put_same hD (by trivial)]; rfl⟩
    · rw [if_neg e]
      have hne : Lit.int .i64 x ≠ Lit.int .i64 k := fun h => e (by injection h)
      exact ⟨by rw [has_put_other hne]; exact (h2 x hx).1, by rw [atKey_put_other hne]; exact (h2 x hx).2⟩
end
end Go.Proofs.YtigpnopeacicpaaGreatDoor

/-
  A map of balls by id that the call has made; delete on such a map.
-/
namespace Go.Proofs.YtigpnopeacicpaaGreatDoor
set_option linter.unusedSimpArgs false
open Go.RowKit Go.Maps

theorem MapV.drop {w : World} {b n : Nat} {f : Int → Option Value} {k : Int} {M E : TypeId} (h : MapV w b n f) (hM : Tryz.prog.underlying M = some (.map 3 E)) (hk : Small k) (ty : TypeId) :
    ∃ w' n', (Builtin.delete_ #[M, 3] ty #[.map (some b), .int .i64 k]).run Tryz.prog w = .ok (.tuple #[]) w' ∧ n' ≤ n ∧ MapV w' b n' (fun x => if x = k then none else f x) ∧ Only [b] w w' := by
  obtain ⟨D, h1, h0, hK, h2⟩ := h
  obtain ⟨w', hr, ho, hg⟩ := h1.drop (int_keyed Tryz.underlying3) hM (keyOf_int_mk Tryz.underlying3 hk.wf) ty
  have ht : Tidy D := h1.tidy (int_keyed Tryz.underlying3)
  have hs := size_del ht (k := .int .i64 k)
  refine ⟨w', Maps.size (D.del (.int .i64 k)), hr, by omega, ⟨_, ?_, rfl, fun kl hkl => ?_, fun x hx => ?_⟩, Only.of_grown hg.grown (by simp)⟩
  · obtain ⟨es, clock, q1, q2, q3, q4⟩ := ho
    refine ⟨es, clock, q1, q2, ?_, q4⟩
    rw [q4]
    simp [Maps.size, length_sorted]
  · by_cases e : kl = .int .i64 k
    · exact ⟨k, hk, e⟩
    · rw [has_del_other e] at hkl
      exact hK kl hkl
  · show _ = (if x = k then none else f x).isSome ∧ ∀ z, _ = DataW.held ((if x = k then none else f x).getD z)
    by_cases e : x = k
    · subst e
      rw [if_pos rfl]
      exact ⟨has_del_same, fun z => by rw [atKey_del_same]; rfl⟩
    · rw [if_neg e]
      have hne : Lit.int .i64 x ≠ Lit.int .i64 k := fun h => e (by injection h)
      exact ⟨by rw [has_del_other hne]; exact (h2 x hx).1, fun z => by rw [atKey_del_other hne]; exact (h2 x hx).2 z⟩

theorem IV.far_map {w : World} {s : Bool} {A : Option Addr} {k c g : Nat} {z : Int} (h : IV w (.agg #[.bool s, .slice A k c]) z) (hm : ∃ es clock, w.heap[g]? = some (.map es clock)) : Far g A k := fun hk p hp hc => by
  obtain ⟨es, clock, hm⟩ := hm
  obtain ⟨A1, c1, xs, e, h2, h3, h4, h5⟩ := h.mag
  injection e with e1 e2 e3
  subst e1 e2
  obtain ⟨b, o, e2, hcell⟩ := h2.read 0 hk
  rw [hp] at e2
  injection e2 with e2
  subst e2
  simp only at hc
  subst hc
  simp [World.cell?, hm] at hcell
def NBV (w : World) (v : Value) (x y : Dy) : Prop := ∃ s A k c t B m d, v = .agg #[.bool s, .slice A k c, .int .i64 x.e, .bool t, .slice B m d, .int .i64 y.e] ∧ Cn s k x.z ∧ IV w (.agg #[.bool s, .slice A k c]) x.z ∧ Cn t m y.z ∧ IV w (.agg #[.bool t, .slice B m d]) y.z
theorem NBV.bv {w : World} {v : Value} {x y : Dy} (h : NBV w v x y) : BV w v x y := by
  obtain ⟨s, A, k, c, t, B, m, d, h1, _, h2, _, h3⟩ := h
  exact ⟨s, A, k, c, t, B, m, d, h1, h2, h3⟩
theorem NBV.only {w w' : World} {v : Value} {x y : Dy} (h : NBV w v x y) (ho : Only [] w w') : NBV w' v x y := by
  obtain ⟨s, A, k, c, t, B, m, d, h1, h2, h3, h4, h5⟩ := h
  exact ⟨s, A, k, c, t, B, m, d, h1, h2, h3.only ho, h4, h5.only ho⟩
theorem NBV.far {w w' : World} {v : Value} {x y : Dy} {S : List Nat} (h : NBV w v x y) (ho : Only S w w') (hS : ∀ m ∈ S, ∃ es clock, w.heap[m]? = some (.map es clock)) : NBV w' v x y := by
  obtain ⟨s, A, k, c, t, B, m, d, h1, h2, h3, h4, h5⟩ := h
  exact ⟨s, A, k, c, t, B, m, d, h1, h2, h3.farS ho (fun g hg => h3.far_map (hS g hg)), h4, h5.farS ho (fun g hg => h5.far_map (hS g hg))⟩
theorem cnZ : Cn false 0 0 := ⟨by decide, by show 0 = (limbsOf 0).length; rw [limbsOf_zero]; rfl⟩
theorem NBV.zero (w : World) : NBV w (.agg #[.bool false, .slice none 0 0, .int .i64 0, .bool false, .slice none 0 0, .int .i64 0]) ⟨0, 0⟩ ⟨0, 0⟩ := ⟨false, none, 0, 0, false, none, 0, 0, rfl, cnZ, ⟨false, none, 0, 0, 0, rfl, NV.nil w, rfl⟩, cnZ, ⟨false, none, 0, 0, 0, rfl, NV.nil w, rfl⟩⟩
theorem zeroBall (w : World) : (zeroValue 34).run Tryz.prog w = .ok (.agg #[.bool false, .slice none 0 0, .int .i64 0, .bool false, .slice none 0 0, .int .i64 0]) w := by kernel_rfl

def getB (B : Int → Option (Dy × Dy)) (k : Int) : Dy × Dy := (B k).getD (⟨0, 0⟩, ⟨0, 0⟩)
def putB (B : Int → Option (Dy × Dy)) (k : Int) (b : Dy × Dy) : Int → Option (Dy × Dy) := fun y => if y = k then some b else B y
def delB (B : Int → Option (Dy × Dy)) (k : Int) : Int → Option (Dy × Dy) := fun y => if y = k then none else B y
def BallsAt (w : World) (m n : Nat) (B : Int → Option (Dy × Dy)) : Prop :=
  ∃ n' f, n' ≤ n ∧ MapV w m n' f ∧ (∀ k, (f k).isSome = (B k).isSome) ∧ ∀ k v b, f k = some v → B k = some b → NBV w v b.1 b.2
section
variable {w w' : World} {m n : Nat} {B : Int → Option (Dy × Dy)} {k : Int}
theorem BallsAt.lt (h : BallsAt w m n B) : m < w.heap.size := by
  obtain ⟨n', f, _, h1, _⟩ := h
  exact h1.lt
theorem BallsAt.mono {n2 : Nat} (h : BallsAt w m n B) (hn : n ≤ n2) : BallsAt w m n2 B := by
  obtain ⟨n', f, h0, h1⟩ := h
  exact ⟨n', f, by omega, h1⟩
theorem BallsAt.only (h : BallsAt w m n B) (ho : Only [] w w') : BallsAt w' m n B := by
  obtain ⟨n', f, h0, h1, h2, h3⟩ := h
  exact ⟨n', f, h0, h1.only ho (by simp), h2, fun k v b hv hb => (h3 k v b hv hb).only ho⟩
theorem BallsAt.far {g : Nat} (h : BallsAt w m n B) (ho : Only [g] w w') (hg : ∃ es clock, w.heap[g]? = some (.map es clock)) (hm : m ≠ g) : BallsAt w' m n B := by
  obtain ⟨n', f, h0, h1, h2, h3⟩ := h
  exact ⟨n', f, h0, h1.only ho (by simpa using hm), h2, fun k v b hv hb => (h3 k v b hv hb).far ho (fun x hx => by
    have e : x = g := by simpa using hx
    exact e ▸ hg)⟩
theorem BallsAt.made (w : World) : BallsAt (w.alloc (.map #[] 0)) w.heap.size 0 (fun _ => none) := ⟨0, fun _ => none, Nat.le_refl _, MapV.made w, fun _ => rfl, fun _ _ _ h => by cases h⟩
theorem BallsAt.look (h : BallsAt w m n B) (hk : Small k) : ∃ v, (Instr.lookup 103 (.map (some m)) (.int .i64 k) false).run Tryz.prog w = .ok v w ∧ NBV w v (getB B k).1 (getB B k).2 := by
  obtain ⟨n', f, h0, h1, h2, h3⟩ := h
  refine ⟨_, h1.look Tryz.underlying103 (zeroBall w) hk, ?_⟩
  have e := h2 k
  unfold getB
  cases hf : f k with
  | none =>
    rw [hf] at e
    have hb : B k = none := by simpa using e.symm
    rw [hb]
    exact NBV.zero w
  | some v =>
    rw [hf] at e
    obtain ⟨b, hb⟩ := Option.isSome_iff_exists.1 e.symm
    rw [hb]
    exact h3 k v b hf hb
theorem BallsAt.store {v : Value} {b : Dy × Dy} (h : BallsAt w m n B) (hn : n < 1000000) (hk : Small k) (hv : NBV w v b.1 b.2) :
    ∃ w', (Instr.mapUpdate 103 (.map (some m)) (.int .i64 k) v).run Tryz.prog w = .ok () w' ∧ BallsAt w' m (n + 1) (putB B k b) ∧ Only [m] w w' := by
  obtain ⟨n', f, h0, h1, h2, h3⟩ := h
  have ho1 := h1.obj
  obtain ⟨w', hr, hM, ho⟩ := h1.store Tryz.underlying103 (by omega) hk v
  have hS : ∀ g ∈ [m], ∃ es clock, w.heap[g]? = some (.map es clock) := fun g hg => by
    have e : g = m := by simpa using hg
    exact e ▸ ho1
  refine ⟨w', hr, ⟨_, _, ?_, hM, fun y => ?_, fun y u c hu hc => ?_⟩, ho⟩
  · split <;> omega
  · unfold putB
    by_cases e : y = k
    · rw [if_pos e, if_pos e]; rfl
    · rw [if_neg e, if_neg e]; exact h2 y
  · unfold putB at hc
    by_cases e : y = k
    · rw [if_pos e] at hu hc
      injection hu with hu
      injection hc with hc
      subst hu hc
      exact hv.far ho hS
    · rw [if_neg e] at hu hc
      exact (h3 y u c hu hc).far ho hS
theorem BallsAt.drop (h : BallsAt w m n B) (hk : Small k) (ty : TypeId) :
    ∃ w', (Builtin.delete_ #[103, 3] ty #[.map (some m), .int .i64 k]).run Tryz.prog w = .ok (.tuple #[]) w' ∧ BallsAt w' m n (delB B k) ∧ Only [m] w w' := by
  obtain ⟨n', f, h0, h1, h2, h3⟩ := h
  have ho1 := h1.obj
  obtain ⟨w', n2, hr, hn, hM, ho⟩ := h1.drop Tryz.underlying103 hk ty
  have hS : ∀ g ∈ [m], ∃ es clock, w.heap[g]? = some (.map es clock) := fun g hg => by
    have e : g = m := by simpa using hg
    exact e ▸ ho1
  refine ⟨w', hr, ⟨_, _, by omega, hM, fun y => ?_, fun y u c hu hc => ?_⟩, ho⟩
  · unfold delB
    by_cases e : y = k
    · rw [if_pos e, if_pos e]; rfl
    · rw [if_neg e, if_neg e]; exact h2 y
  · unfold delB at hc
    by_cases e : y = k
    · rw [if_pos e] at hc
      cases hc
    · rw [if_neg e] at hu hc
      exact (h3 y u c hu hc).far ho hS
end
end Go.Proofs.YtigpnopeacicpaaGreatDoor

/-
  What numbers are made of: the plain law (no program in sight): who is reached, a list that rises, a depth-first search and a scan that both find it.
-/
namespace Go.Proofs.YtigpnopeacicpaaGreatDoor

theorem asc_ext : ∀ (xs ys : List Int), xs.Pairwise (· < ·) → ys.Pairwise (· < ·) → (∀ x, x ∈ xs ↔ x ∈ ys) → xs = ys
  | [], [], _, _, _ => rfl
  | [], y :: ys, _, _, h => by have := (h y).2 (by simp); simp at this
  | x :: xs, [], _, _, h => by have := (h x).1 (by simp); simp at this
  | x :: xs, y :: ys, hx, hy, h => by
    rw [List.pairwise_cons] at hx hy
    have e : x = y := by
      rcases List.mem_cons.1 ((h x).1 (by simp)) with h1 | h1
      · exact h1
      · rcases List.mem_cons.1 ((h y).2 (by simp)) with h2 | h2
        · exact h2.symm
        · have := hy.1 x h1
          have := hx.1 y h2
          omega
    subst e
    rw [asc_ext xs ys hx.2 hy.2 (fun z => ?_)]
    constructor
    · intro hz
      rcases List.mem_cons.1 ((h z).1 (by simp [hz])) with h1 | h1
      · have := hx.1 z hz
        omega
      · exact h1
    · intro hz
      rcases List.mem_cons.1 ((h z).2 (by simp [hz])) with h1 | h1
      · have := hy.1 z hz
        omega
      · exact h1

def kids (n : Nd) : List Int := if n.k = 0 then [] else if n.k = 5 then [n.a] else [n.a, n.b]
def nodeAt (ns : List Nd) (x : Int) : Nd := ns[x.toNat]?.getD ⟨0, 0, 0, 0⟩
def OkDag (ns : List Nd) : Prop := ∀ x : Int, 0 ≤ x → x < ns.length → ∀ c ∈ kids (nodeAt ns x), 0 ≤ c ∧ c < x

inductive Reach (ns : List Nd) (R : Int → Prop) : Int → Prop where
  | root (x : Int) (h : R x) (h0 : 0 ≤ x) (h1 : x < ns.length) : Reach ns R x
  | kid (x c : Int) (h : Reach ns R x) (hc : c ∈ kids (nodeAt ns x)) : Reach ns R c
theorem Reach.range {ns : List Nd} (ok : OkDag ns) {R : Int → Prop} {x : Int} (h : Reach ns R x) : 0 ≤ x ∧ x < ns.length := by
  induction h with
  | root x _ h0 h1 => exact ⟨h0, h1⟩
  | kid x c _ hc ih =>
    have := ok x ih.1 ih.2 c hc
    omega

open Classical in
noncomputable def belowL (ns : List Nd) (R : Int → Prop) : List Int := ((List.range ns.length).filter fun (i : Nat) => decide (Reach ns R (i : Int))).map fun (i : Nat) => (i : Int)
theorem mem_belowL {ns : List Nd} (ok : OkDag ns) {R : Int → Prop} {x : Int} : x ∈ belowL ns R ↔ Reach ns R x := by
  unfold belowL
  rw [List.mem_map]
  constructor
  · rintro ⟨i, hi, rfl⟩
    rw [List.mem_filter] at hi
    simpa using hi.2
  · intro h
    obtain ⟨h0, h1⟩ := h.range ok
    refine ⟨x.toNat, ?_, by omega⟩
    rw [List.mem_filter, List.mem_range, show ((x.toNat : Nat) : Int) = x by omega]
    exact ⟨by omega, by simpa using h⟩
theorem belowL_asc (ns : List Nd) (R : Int → Prop) : (belowL ns R).Pairwise (· < ·) := by
  unfold belowL
  rw [List.pairwise_map]
  refine (List.Pairwise.filter _ (List.pairwise_lt_range (n := ns.length))).imp ?_
  intro a b h
  omega

theorem closed_eq {ns : List Nd} (ok : OkDag ns) {R : Int → Prop} {xs : List Int} (hasc : xs.Pairwise (· < ·)) (h1 : ∀ x ∈ xs, Reach ns R x) (hr : ∀ x, R x → 0 ≤ x → x < ns.length → x ∈ xs) (hk : ∀ x ∈ xs, ∀ c ∈ kids (nodeAt ns x), c ∈ xs) : xs = belowL ns R := by
  refine asc_ext _ _ hasc (belowL_asc ns R) (fun x => ?_)
  rw [mem_belowL ok]
  refine ⟨h1 x, fun h => ?_⟩
  induction h with
  | root x h h0 h1 => exact hr x h h0 h1
  | kid x c _ hc ih => exact hk x ih c hc

theorem nodup_len : ∀ (n : Nat) (xs : List Int), xs.Nodup → (∀ x ∈ xs, 0 ≤ x ∧ x < (n : Int)) → xs.length ≤ n
  | 0, [], _, _ => by simp
  | 0, x :: xs, _, h => by have := h x (by simp); omega
  | n + 1, xs, hn, h => by
    by_cases hm : (n : Int) ∈ xs
    · have h1 := nodup_len n (xs.erase (n : Int)) (hn.erase _) (fun x hx => by
        rw [hn.mem_erase_iff] at hx
        have := h x hx.2
        have h3 := hx.1
        omega)
      rw [List.length_erase_of_mem hm] at h1
      omega
    · have h1 := nodup_len n xs hn (fun x hx => by
        have h2 := h x hx
        have h3 : x ≠ (n : Int) := fun e => hm (e ▸ hx)
        omega)
      omega

structure Dfs (ns : List Nd) (R : Int → Prop) (F S : List Int) (V : Int → Prop) : Prop where
  nd : (F ++ S).Nodup
  v : ∀ x, V x ↔ x ∈ F ++ S
  r : ∀ x ∈ F ++ S, Reach ns R x
theorem Dfs.visit {ns : List Nd} {R : Int → Prop} {F S : List Int} {V V' : Int → Prop} {x : Int} (h : Dfs ns R F S V) (hx : Reach ns R x) (hv : ¬ V x) (hV : ∀ y, V' y ↔ V y ∨ y = x) : Dfs ns R F (S ++ [x]) V' := by
  have hn : x ∉ F ++ S := fun hm => hv ((h.v x).2 hm)
  refine ⟨?_, ?_, ?_⟩
  · rw [← List.append_assoc, List.nodup_append]
    refine ⟨h.nd, by simp, fun a ha b hb => ?_⟩
    rintro rfl
    have e : a = x := by simpa using hb
    exact hn (e ▸ ha)
  · intro y
    rw [hV, h.v y, ← List.append_assoc, List.mem_append (s := F ++ S)]
    simp
  · intro y hy
    rw [← List.append_assoc, List.mem_append] at hy
    rcases hy with hy | hy
    · exact h.r y hy
    · have e : y = x := by simpa using hy
      exact e ▸ hx
theorem Dfs.pop {ns : List Nd} {R : Int → Prop} {F S : List Int} {V : Int → Prop} {x : Int} (h : Dfs ns R F (S ++ [x]) V) : Dfs ns R (F ++ [x]) S V := by
  have hp : (F ++ (S ++ [x])).Perm ((F ++ [x]) ++ S) := by
    rw [List.append_assoc]
    exact List.Perm.append_left F List.perm_append_comm
  exact ⟨hp.nodup_iff.1 h.nd, fun y => by rw [h.v y, hp.mem_iff], fun y hy => h.r y (hp.mem_iff.2 hy)⟩
theorem Dfs.len {ns : List Nd} (ok : OkDag ns) {R : Int → Prop} {F S : List Int} {V : Int → Prop} (h : Dfs ns R F S V) : F.length + S.length ≤ ns.length := by
  have := nodup_len ns.length (F ++ S) h.nd (fun x hx => (h.r x hx).range ok)
  rwa [List.length_append] at this
theorem sort_eq {xs : List Int} (hn : xs.Nodup) : (xs.mergeSort fun x y => decide (x ≤ y)).Pairwise (· < ·) := by
  have h1 : (xs.mergeSort fun x y => decide (x ≤ y)).Pairwise (fun x y => decide (x ≤ y) = true) :=
    List.pairwise_mergeSort (fun a b c h1 h2 => by simp at *; omega) (fun a b => by simp; omega) xs
  have h2 : (xs.mergeSort fun x y => decide (x ≤ y)).Nodup := (List.mergeSort_perm xs _).nodup_iff.2 hn
  have h3 := h1.and h2
  refine h3.imp ?_
  rintro a b ⟨ha, hb⟩
  have ha' : a ≤ b := by simpa using ha
  omega
theorem dfs_done {ns : List Nd} (ok : OkDag ns) {R : Int → Prop} {F : List Int} {V : Int → Prop} (h : Dfs ns R F [] V) (hk : ∀ x ∈ F, ∀ c ∈ kids (nodeAt ns x), V c) (hr : ∀ x, R x → 0 ≤ x → x < ns.length → V x) :
    (F.mergeSort fun x y => decide (x ≤ y)) = belowL ns R := by
  have hp := List.mergeSort_perm F (fun x y => decide (x ≤ y))
  have hnd : F.Nodup := by simpa using h.nd
  have hv : ∀ x, V x ↔ x ∈ F := fun x => by simpa using h.v x
  refine closed_eq ok (sort_eq hnd) (fun x hx => h.r x (by simpa using hp.mem_iff.1 hx)) (fun x hx h0 h1 => hp.mem_iff.2 ((hv x).1 (hr x hx h0 h1))) (fun x hx c hc => hp.mem_iff.2 ((hv c).1 (hk x (hp.mem_iff.1 hx) c hc)))
end Go.Proofs.YtigpnopeacicpaaGreatDoor

/-
  fold, Add, Mul: several operands from left to right.
-/
namespace Go.Proofs.YtigpnopeacicpaaGreatDoor
open Go.RowKit

def foldRun (r : Option Nat) (kind : Int) : List Nd → Int → List Int → List Nd × Int
  | ns, id, [] => (ns, id)
  | ns, id, x :: xs => foldRun r kind (putNs r ns ⟨kind, 0, id, x⟩) (putId r ns ⟨kind, 0, id, x⟩) xs

theorem foldRun_snoc (r : Option Nat) (kind : Int) (y : Int) : ∀ (xs : List Int) (ns : List Nd) (id : Int),
    foldRun r kind ns id (xs ++ [y]) = (putNs r (foldRun r kind ns id xs).1 ⟨kind, 0, (foldRun r kind ns id xs).2, y⟩, putId r (foldRun r kind ns id xs).1 ⟨kind, 0, (foldRun r kind ns id xs).2, y⟩)
  | [], _, _ => rfl
  | _ :: xs, _, _ => by simp only [List.cons_append, foldRun]; exact foldRun_snoc r kind y xs _ _

theorem putNs_le (r : Option Nat) (ns : List Nd) (n : Nd) : (putNs r ns n).length ≤ ns.length + 1 := by
  unfold putNs
  split
  · split <;> simp
  · omega
theorem foldRun_le (r : Option Nat) (kind : Int) : ∀ (xs : List Int) (ns : List Nd) (id : Int), (foldRun r kind ns id xs).1.length ≤ ns.length + xs.length
  | [], _, _ => by simp [foldRun]
  | x :: xs, ns, id => by
    simp only [foldRun, List.length_cons]
    have h1 := foldRun_le r kind xs (putNs r ns ⟨kind, 0, id, x⟩) (putId r ns ⟨kind, 0, id, x⟩)
    have h2 := putNs_le r ns ⟨kind, 0, id, x⟩
    omega

def foldS (r : Option Nat) (kind : Int) (ns : List Nd) (l : List Int) : List Nd × Int :=
  match l with
  | [] => (ns, -1)
  | x :: xs => if hasB ns.length x then foldRun r kind ns x xs else (ns, -1)

def FoldRel (d : Nat) (v : Value) (r : Option Nat) (ns : List Nd) (kind x : Int) (xs : List Int) (w : World) (k : Nat) (id : Value) (wr : World) : Prop :=
  ∃ v', id = .int .i64 (foldRun r kind ns x (xs.take k)).2 ∧ DagIs wr d v' r (foldRun r kind ns x (xs.take k)).1 ∧ Step d v r w v' wr

def FPost (d : Nat) (v : Value) (r : Option Nat) (p : List Nd × Int) (w : World) (e : Ending) (w' : World) : Prop :=
  ∃ v', e = .returned (.int .i64 p.2) ∧ DagIs w' d v' r p.1 ∧ Step d v r w v' w'

set_option maxRecDepth 100000 in
set_option maxHeartbeats 800000 in
theorem fold_any (d : Nat) (v : Value) (r : Option Nat) (ns : List Nd) (kind : Int) (lb lo c : Nat) (x : Int) (xs : List Int) (w : World) (hd : DagIs w d v r ns) (hlen : Hid (ns.length + xs.length < 20000))
    (hb : lb ∉ foot d v r) (hx : w.cell? ⟨lb, lo, none⟩ = some (.int .i64 x)) (hxs : Hid (∀ j, j < xs.length → w.cell? ⟨lb, lo + 1 + j, none⟩ = some (.int .i64 (xs[j]?.getD 0)))) (hc : xs.length + 1 ≤ c) (hcm : c ≤ maxLen) :
    Calls Tryz.prog 77 #[.pointer (some ⟨d, 0, none⟩), .int .i64 kind, .slice (some ⟨lb, lo, none⟩) (xs.length + 1) c] w (FPost d v r (foldS r kind ns (x :: xs)) w) := by
  obtain ⟨A, cv, hv⟩ := hd.shape
  have h0 : w.cell? ⟨d, 0, none⟩ = some (.slice A ns.length cv) := by rw [← hv]; exact hd.blk.cell 0
  have Hv := Lib.hid hv
  clear hv
  have hcm' : c ≤ 9223372036854775807 := hcm
  clear hcm
  cases hh : hasB ns.length x
  · have e1 : foldS r kind ns (x :: xs) = (ns, -1) := by simp [foldS, hh]
    rw [e1]
    go_enter Tryz.func77, Tryz.ntmps77
    go_wp2_with (go_at_call 120; (with_reducible refine (has_any d A ns.length cv _ _ h0).mono ?_); rintro e w' ⟨rfl, rfl⟩)
    go_ret
    exact ⟨v, rfl, hd, Step.refl _ _ _ _⟩
  · have e1 : foldS r kind ns (x :: xs) = foldRun r kind ns x xs := by simp [foldS, hh]
    rw [e1]
    go_enter Tryz.func77, Tryz.ntmps77
    go_wp2_with (go_at_call 120; (with_reducible refine (has_any d A ns.length cv _ _ h0).mono ?_); rintro e w' ⟨rfl, rfl⟩)
    · have hx0 : xs = [] := List.eq_nil_of_length_eq_zero (by omega)
      subst hx0
      go_loopw [7, 20] (fun id i wr => id = .int .i64 x ∧ i = .int .i64 0 ∧ wr = w) (fun _ _ _ => 0)
      case atStart => exact ⟨rfl, rfl, rfl⟩
      case round =>
        obtain ⟨rfl, rfl, rfl⟩ := hrel
        go_wp2_with fail
        go_ret
        exact ⟨v, rfl, hd, Step.refl _ _ _ _⟩
    · have HB := Lib.hid hb
      clear hx h0 e1 hb
      go_loopw [7, 20] (fun id i wr => ∃ k : Nat, k ≤ xs.length ∧ i = .int .i64 (k : Int) ∧ FoldRel d v r ns kind x xs w k id wr) (fun _ i _ => xs.length - (intOf i).toNat)
      case atStart => exact ⟨0, Nat.zero_le _, rfl, v, rfl, hd, Step.refl _ _ _ _⟩
      case round =>
        obtain ⟨k, hk, rfl, v1, rfl, hd1, hst⟩ := hrel
        have hst' := Lib.hid hst
        clear hst
        have hle := foldRun_le r kind (xs.take k) ns x
        have hsn : Hid (k < xs.length → foldRun r kind ns x (xs.take (k + 1)) = (putNs r (foldRun r kind ns x (xs.take k)).1 ⟨kind, 0, (foldRun r kind ns x (xs.take k)).2, xs[k]?.getD 0⟩, putId r (foldRun r kind ns x (xs.take k)).1 ⟨kind, 0, (foldRun r kind ns x (xs.take k)).2, xs[k]?.getD 0⟩)) := by
          intro hlt
          rw [List.take_succ_eq_append_getElem hlt, foldRun_snoc]
          simp [hlt]
        have hfin : Hid (k = xs.length → foldRun r kind ns x (xs.take k) = foldRun r kind ns x xs) := by
          intro e
          rw [e, List.take_length]
        generalize hp : foldRun r kind ns x (xs.take k) = p at *
        clear hp
        obtain ⟨ns1, id1⟩ := p
        by_cases hlt : k < xs.length
        · have hce := (hst'.out.2.cell (hxs.out k hlt) HB.out)
          have h2 := hsn.out hlt
          generalize xs[k]?.getD 0 = y at hce h2
          have h1 := Lib.hid h2
          clear h2 hsn hfin
          have hlt' : (k : Int) < (xs.length : Int) := by omega
          have hz : Hid (0 < 2 ^ 64) := by show 0 < 2 ^ 64; omega
          have hl1 : Hid (ns1.length < 20000) := by
            have h1 := hlen.out
            simp only [List.length_take] at hle
            show ns1.length < 20000
            omega
          clear hle
          go_wp2_with fail
          (with_reducible refine (dput_any d v1 r ns1 kind 0 id1 y _ hz hd1 hl1).mono ?_)
          rintro e w2 ⟨v2, rfl, hd2, hst2⟩
          have hst2' := Lib.hid hst2
          clear hst2
          go_wp2_with fail
          go_roundw
          case rel =>
            exact ⟨k + 1, by omega, by go_num, v2, by rw [h1.out], by rw [h1.out]; exact hd2, hst'.out.trans hst2'.out⟩
          case measure => simp [intOf]; omega
        · have hk' : k = xs.length := by omega
          have hnl : ¬ (k : Int) < (xs.length : Int) := by omega
          have h1 := Lib.hid (hfin.out hk')
          clear hle
          go_wp2_with fail
          go_ret
          rw [← h1.out]
          exact ⟨v1, rfl, hd1, hst'.out⟩
end Go.Proofs.YtigpnopeacicpaaGreatDoor

/-
  Add and Mul; a dag that the law itself has made ('Own'), two of them side by side ('Two'); alive.
-/
namespace Go.Proofs.YtigpnopeacicpaaGreatDoor
open Go.RowKit

set_option maxHeartbeats 400000 in
theorem dmul_any (d : Nat) (v : Value) (r : Option Nat) (ns : List Nd) (lb lo c : Nat) (x : Int) (xs : List Int) (w : World) (hd : DagIs w d v r ns) (hlen : Hid (ns.length + xs.length < 20000))
    (hb : lb ∉ foot d v r) (hx : w.cell? ⟨lb, lo, none⟩ = some (.int .i64 x)) (hxs : Hid (∀ j, j < xs.length → w.cell? ⟨lb, lo + 1 + j, none⟩ = some (.int .i64 (xs[j]?.getD 0)))) (hc : xs.length + 1 ≤ c) (hcm : c ≤ maxLen) :
    Calls Tryz.prog 40 #[.pointer (some ⟨d, 0, none⟩), .slice (some ⟨lb, lo, none⟩) (xs.length + 1) c] w (FPost d v r (foldS r 3 ns (x :: xs)) w) := by
  have hcm' : c ≤ 9223372036854775807 := hcm
  have hne : ((xs.length : Int) + 1 == 0) = false := by simp; omega
  go_enter Tryz.func40, Tryz.ntmps40
  go_wp2_with fail
  (with_reducible refine (fold_any d v r ns 3 lb lo c x xs _ hd hlen hb hx hxs hc hcm).mono ?_)
  rintro e w1 ⟨v1, rfl, hd1, hst⟩
  have hst' := Lib.hid hst
  clear hst
  go_wp2_with fail
  go_ret
  exact ⟨v1, rfl, hd1, hst'.out⟩

def QDagP (d : Nat) (v : Value) (r : Option Nat) (id : Int) (ns' : List Nd) (w : World) (e : Ending) (w' : World) : Prop :=
  ∃ v', e = .returned (.int .i64 id) ∧ DagIs w' d v' r ns' ∧ Step d v r w v' w'

theorem PPost.q {d : Nat} {v : Value} {r : Option Nat} {ns : List Nd} {n : Nd} {id : Int} {ns' : List Nd} (h1 : putId r ns n = id) (h2 : putNs r ns n = ns') {w : World} : ∀ e w', PPost d v r ns n w e w' → QDagP d v r id ns' w e w' :=
  fun _ _ ⟨v', he, hd, hs⟩ => ⟨v', by rw [he, h1], by rw [← h2]; exact hd, hs⟩

theorem FPost.q {d : Nat} {v : Value} {r : Option Nat} {p : List Nd × Int} {id : Int} {ns' : List Nd} (h : p = (ns', id)) {w : World} : ∀ e w', FPost d v r p w e w' → QDagP d v r id ns' w e w' :=
  fun _ _ ⟨v', he, hd, hs⟩ => ⟨v', by rw [he, h], by rw [h] at hd; exact hd, hs⟩

structure Own (w0 w : World) (d : Nat) (v : Value) (r : Option Nat) (ns : List Nd) : Prop where
  is : DagIs w d v r ns
  fresh : ∀ k ∈ foot d v r, w0.heap.size ≤ k
  only : Only [] w0 w

theorem Step.foot {d : Nat} {v v' : Value} {r : Option Nat} {w w' : World} (h : Step d v r w v' w') : ∀ k ∈ foot d v' r, k ∈ foot d v r ∨ w.heap.size ≤ k := by
  intro k hk
  simp only [Proofs.YtigpnopeacicpaaGreatDoor.foot, List.mem_cons, List.mem_append, Option.mem_toList] at hk ⊢
  rcases hk with hk | hk | hk
  · exact .inl (.inl hk)
  · rcases h.1 with e | ⟨g, hg, e⟩
    · exact .inl (.inr (.inl (by rw [← e]; exact hk)))
    · right
      have : g = k := by simpa using e.symm.trans hk
      omega
  · exact .inl (.inr (.inr hk))

theorem Own.step {w0 w w' : World} {d : Nat} {v v' : Value} {r : Option Nat} {ns ns' : List Nd} (h : Own w0 w d v r ns) (hs : Step d v r w v' w') (hd : DagIs w' d v' r ns') : Own w0 w' d v' r ns' :=
  ⟨hd, fun k hk => by
    rcases hs.foot k hk with h1 | h1
    · exact h.fresh k h1
    · exact Nat.le_trans h.only.size h1, h.only.trans hs.2 (fun k hk => .inr (h.fresh k hk))⟩

theorem Own.other {w0 w w' : World} {d : Nat} {v : Value} {r : Option Nat} {ns : List Nd} {S : List Nat} (h : Own w0 w d v r ns) (ho : Only S w w') (hS : ∀ k ∈ S, w0.heap.size ≤ k) (hn : ∀ k ∈ foot d v r, k ∉ S) : Own w0 w' d v r ns :=
  ⟨h.is.only ho hn, h.fresh, h.only.trans ho (fun k hk => .inr (hS k hk))⟩

theorem own_new {w w' : World} {r : Option Nat} (hd : DagIs w' w.heap.size (.slice none 0 0) r []) (hr : ∀ m, r = some m → w.heap.size ≤ m) (ho : Only [] w w') : Own w w' w.heap.size (.slice none 0 0) r [] :=
  ⟨hd, fun k hk => by
    simp only [Proofs.YtigpnopeacicpaaGreatDoor.foot, List.mem_cons, List.mem_append, Option.mem_toList] at hk
    rcases hk with hk | hk | hk
    · omega
    · simp [Value.ownBlock] at hk
    · exact hr k hk, ho⟩

end Go.Proofs.YtigpnopeacicpaaGreatDoor

/-
  Nodes in memory: four cells each, slices of them; what Put makes of nodes.
-/
namespace Go.Proofs.YtigpnopeacicpaaGreatDoor
open Go.RowKit

def Cells4 (w : World) (b o : Nat) (n : Nd) : Prop :=
  w.cell? ⟨b, o, none⟩ = some (.int .i64 n.k) ∧ w.cell? ⟨b, o + 1, none⟩ = some (.float .f64 n.f) ∧ w.cell? ⟨b, o + 2, none⟩ = some (.int .i64 n.a) ∧ w.cell? ⟨b, o + 3, none⟩ = some (.int .i64 n.b)
theorem Cells4.only {w w' : World} {b o : Nat} {n : Nd} {S : List Nat} (h : Cells4 w b o n) (ho : Only S w w') (hn : b ∉ S) : Cells4 w' b o n :=
  ⟨ho.cell h.1 hn, ho.cell h.2.1 hn, ho.cell h.2.2.1 hn, ho.cell h.2.2.2 hn⟩

def nd0 : Nd := ⟨0, 0, 0, 0⟩

theorem flat_get : ∀ (ns : List Nd) (k j : Nat), k < ns.length → j < 4 → (flat ns)[k * 4 + j]? = ((ns[k]?.getD nd0).cells)[j]?
  | [], k, j, h, _ => by simp at h
  | n :: r, 0, j, _, hj => by
    have e : flat (n :: r) = n.cells ++ flat r := rfl
    rw [e, Nat.zero_mul, Nat.zero_add, List.getElem?_append_left (by simpa [Nd.cells] using hj)]
    rfl
  | n :: r, k + 1, j, h, hj => by
    have e : flat (n :: r) = n.cells ++ flat r := rfl
    have hl : n.cells.length = 4 := rfl
    rw [e, List.getElem?_append_right (by omega), hl, show (k + 1) * 4 + j - 4 = k * 4 + j by omega, flat_get r k j (by simpa using h) hj]
    simp

theorem NodesAt.shape {w : World} {u : Value} {ns : List Nd} (h : NodesAt w u ns) : ∃ A c, u = .slice A ns.length c ∧ ns.length ≤ c ∧ c ≤ maxLen ∧
    (∀ k, k < ns.length → ∃ g, A = some ⟨g, 0, none⟩ ∧ Cells4 w g (k * 4) (ns[k]?.getD nd0)) := by
  rcases h.2 with ⟨rfl, h0⟩ | ⟨g, cap, cur, rfl, _, hg, hn, hm, _⟩
  · refine ⟨none, 0, by rw [h0], by omega, by simp [maxLen], fun k hk => by omega⟩
  · refine ⟨_, cap, rfl, hn, hm, fun k hk => ⟨g, rfl, ?_⟩⟩
    have hc := World.ownsRow.cells h (g := g) rfl
    have at_ : ∀ j v, j < 4 → ((ns[k]?.getD nd0).cells)[j]? = some v → w.cell? ⟨g, k * 4 + j, none⟩ = some v := by
      intro j v hj hv
      have h1 := hc (k * 4 + j) v (by rw [flat_get ns k j hk hj, hv])
      have h2 : (⟨g, 0, none⟩ : Addr).add (k * 4 + j) = ⟨g, k * 4 + j, none⟩ := by unfold Addr.add; split <;> simp_all
      rwa [h2] at h1
    exact ⟨at_ 0 _ (by omega) rfl, at_ 1 _ (by omega) rfl, at_ 2 _ (by omega) rfl, at_ 3 _ (by omega) rfl⟩

theorem NodesAt.only {w w' : World} {u : Value} {ns : List Nd} {S : List Nat} (h : NodesAt w u ns) (ho : Only S w w') (hn : ∀ g, u.ownBlock = some g → g ∉ S) : NodesAt w' u ns := ownsRow_only h ho hn

def Fine (len : Nat) (k : Int) (f : Nat) (a b : Int) : Prop :=
  (validB k f a b = true ∧ k = 0 ∧ finB f = true) ∨ (validB k f a b = true ∧ k = 5 ∧ ¬ (len : Int) ≤ a) ∨ (validB k f a b = true ∧ k ≠ 0 ∧ k ≠ 5 ∧ ¬ (len : Int) ≤ a ∧ ¬ (len : Int) ≤ b)
theorem fine_of (len : Nat) (k : Int) (f : Nat) (a b : Int) (h : takesB len k f a b = true) : Fine len k f a b := by
  unfold takesB at h
  unfold Fine
  simp only [Bool.and_eq_true] at h
  obtain ⟨hv, h⟩ := h
  simp only [hv, true_and]
  by_cases h0 : k = 0
  · rw [if_pos h0] at h
    exact .inl ⟨h0, h⟩
  · rw [if_neg h0] at h
    right
    by_cases h5 : k = 5
    · rw [if_pos h5] at h
      left
      simp [hasB] at h
      exact ⟨h5, by omega⟩
    · rw [if_neg h5] at h
      right
      simp [hasB] at h
      exact ⟨h0, h5, by omega, by omega⟩

end Go.Proofs.YtigpnopeacicpaaGreatDoor

/-
  A region that draws its order, whose operations read and whose callees only make new memory: one walk in the order of the text (over the kit's wp_region_quiet, at the class 'w but for new blocks').
-/
namespace Go.Proofs.YtigpnopeacicpaaGreatDoor
open Go.RowKit

def Ext (w : World) : Type := { x : World // Only [] w x }
instance extNonempty (w : World) : Nonempty (Ext w) := ⟨⟨w, Only.refl [] w⟩⟩
def Ext.w {w : World} (g : Ext w) : World := g.1
theorem Ext.ho {w : World} (g : Ext w) : Only [] w g.w := g.2
theorem Ext.cell {w : World} {p : Addr} {v : Value} (h : w.cell? p = some v) (g : Ext w) : g.w.cell? p = some v := g.ho.cell h (by simp)

end Go.Proofs.YtigpnopeacicpaaGreatDoor
