/-
  Joined texts.
-/
import Derived.Test.YtigpnopeacicpaaDoorTaWalkT
import Derived.Test.YtigpnopeacicpaaDoorTaRoots
import Derived.Test.YtigpnopeacicpaaDoorTaMapI
import Derived.Test.YtigpnopeacicpaaDoorTaBelowD
import Derived.Test.YtigpnopeacicpaaDoorTaLd10
import Derived.Test.YtigpnopeacicpaaDoorTaGLd
/-
  How deep a number is: the plain law.
-/
namespace Go.Proofs.YtigpnopeacicpaaDoor

def depF (ns : List Nd) : Nat → Int → Int
  | 0, _ => 0
  | m + 1, x => (kids (nodeAt ns x)).foldl (fun acc c => max acc (1 + depF ns m c)) 0
/-- How deep it is. -/
def dep (ns : List Nd) (x : Int) : Int := depF ns (x.toNat + 1) x

theorem kids_cases (n : Nd) : kids n = [] ∨ (∃ a, kids n = [a]) ∨ ∃ a b, kids n = [a, b] := by
  unfold kids
  split
  · exact .inl rfl
  · split
    · exact .inr (.inl ⟨_, rfl⟩)
    · exact .inr (.inr ⟨_, _, rfl⟩)
theorem depF_more {ns : List Nd} (ok : OkDag ns) : ∀ (m m' : Nat) (x : Int), 0 ≤ x → x < ns.length → x < m → x < m' → depF ns m x = depF ns m' x
  | 0, _, x, h0, _, h2, _ => by omega
  | _ + 1, 0, x, h0, _, _, h3 => by omega
  | m + 1, m' + 1, x, h0, h1, h2, h3 => by
    have hk := ok x h0 h1
    unfold depF
    have e : ∀ c ∈ kids (nodeAt ns x), depF ns m c = depF ns m' c := fun c hc => by
      have := hk c hc
      exact depF_more ok m m' c this.1 (by omega) (by omega) (by omega)
    rcases kids_cases (nodeAt ns x) with h | ⟨a, h⟩ | ⟨a, b, h⟩ <;> rw [h] at e ⊢ <;> simp only [List.foldl]
    · rw [e a (by simp)]
    · rw [e a (by simp), e b (by simp)]
theorem dep_eq {ns : List Nd} (ok : OkDag ns) {x : Int} (h0 : 0 ≤ x) (h1 : x < ns.length) : dep ns x = (kids (nodeAt ns x)).foldl (fun acc c => max acc (1 + dep ns c)) 0 := by
  have hk := ok x h0 h1
  unfold dep
  rw [depF]
  have e : ∀ c ∈ kids (nodeAt ns x), depF ns x.toNat c = depF ns (c.toNat + 1) c := fun c hc => by
    have := hk c hc
    exact depF_more ok _ _ c this.1 (by omega) (by omega) (by omega)
  rcases kids_cases (nodeAt ns x) with h | ⟨a, h⟩ | ⟨a, b, h⟩ <;> rw [h] at e ⊢ <;> simp only [List.foldl]
  · rw [e a (by simp)]
  · rw [e a (by simp), e b (by simp)]
end Go.Proofs.YtigpnopeacicpaaDoor

/-
  A map[int]int that the call has made, as a function of its keys, with its exact size.
-/
namespace Go.Proofs.YtigpnopeacicpaaDoor
open Go.RowKit Go.Maps

/-- Block b is a map of n entries; f k is what key k has. -/
def MapX (w : World) (b n : Nat) (f : Int → Option Int) : Prop :=
  ∃ D : DataW Unit, w.ownsMap Tryd.prog 3 (plainElem Tryd.prog 3) b n D ∧ Maps.size D = n ∧ ∀ k, Small k → Maps.has D (.int .i64 k) = (f k).isSome ∧ D.atKey (.int .i64 k) (.lit (.int .i64 0)) = .lit (.int .i64 ((f k).getD 0))
section
variable {w w' : World} {b n : Nat} {f : Int → Option Int} {k v : Int}
theorem MapX.toI (h : MapX w b n f) : MapI w b n f := by
  obtain ⟨D, h1, _, h2⟩ := h
  exact ⟨D, h1, h2⟩
theorem MapX.lt (h : MapX w b n f) : b < w.heap.size := h.toI.lt
theorem MapX.only {S : List Nat} (h : MapX w b n f) (ho : Only S w w') (hb : b ∉ S) : MapX w' b n f := by
  obtain ⟨D, ⟨es, clock, h1, h2⟩, h3⟩ := h
  exact ⟨D, ⟨es, clock, ho.heap h1 hb, h2⟩, h3⟩
theorem MapX.look (h : MapX w b n f) (hk : Small k) : (Instr.lookup 110 (.map (some b)) (.int .i64 k) false).run Tryd.prog w = .ok (.int .i64 ((f k).getD 0)) w := h.toI.look hk
theorem MapX.len (h : MapX w b n f) (ty : TypeId) : (Builtin.len_ #[110] ty #[.map (some b)]).run Tryd.prog w = .ok (.int .i64 n) w := by
  obtain ⟨D, h1, h2, _⟩ := h
  rw [h1.len Tryd.underlying110, h2]
theorem MapX.store (h : MapX w b n f) (hn : n < 1000000) (hk : Small k) (hv : Small v) :
    ∃ w', (Instr.mapUpdate 110 (.map (some b)) (.int .i64 k) (.int .i64 v)).run Tryd.prog w = .ok () w' ∧ MapX w' b (if (f k).isSome then n else n + 1) (fun x => if x = k then some v else f x) ∧ Only [b] w w' := by
  obtain ⟨D, h1, h0, h2⟩ := h
  obtain ⟨w', hr, ho, hg⟩ := h1.update (int_keyed Tryd.underlying3) Tryd.underlying110 (by simp only [maxLen]; omega) (keyOf_int_mk Tryd.underlying3 hk.wf) (plainElem_int Tryd.underlying3 hv.wf)
  have ht : Tidy D := h1.tidy (int_keyed Tryd.underlying3)
  have hs : Maps.size (D.put (.int .i64 k) (.lit (.int .i64 v))) = if (f k).isSome then n else n + 1 := by
    rw [size_put ht, (h2 k hk).1, h0]
  refine ⟨w', hr, ⟨_, ?_, hs, fun x hx => ?_⟩, Only.of_grown hg (by simp)⟩
  · rw [← hs]
    obtain ⟨es, clock, q1, q2, q3, q4⟩ := ho
    refine ⟨es, clock, q1, q2, ?_, q4⟩
    rw [q4]
    simp [Maps.size, length_sorted]
  · show _ = (if x = k then some v else f x).isSome ∧ _ = DataW.lit (Lit.int .i64 ((if x = k then some v else f x).getD 0))
    by_cases e : x = k
    · subst e
      have hD := h1.isMap
      rw [if_pos rfl]
      exact ⟨by rw [has_put_same hD (by trivial)]; rfl, by rw [atKey_put_same hD (by trivial)]; rfl⟩
    · rw [if_neg e]
      have hne : Lit.int .i64 x ≠ Lit.int .i64 k := fun h => e (by injection h)
      exact ⟨by rw [has_put_other hne]; exact (h2 x hx).1, by rw [atKey_put_other hne]; exact (h2 x hx).2⟩
end
end Go.Proofs.YtigpnopeacicpaaDoor

/-
  walk.Depth: how deep a number is.
-/
namespace Go.Proofs.YtigpnopeacicpaaDoor
open Go.RowKit
attribute [local go_sem] run_store_float

/-- The map of depths: those of the ids of P, and c that of x. -/
def DepC (w : World) (m nn : Nat) (ns : List Nd) (P : List Int) (x c : Int) : Prop :=
  ∃ n' f, n' ≤ nn ∧ MapI w m n' f ∧ (f x).getD 0 = c ∧ ∀ y, y ≠ x → (f y).getD 0 = if y ∈ P then dep ns y else 0

def DepAt (w : World) (m nn : Nat) (ns : List Nd) (P : List Int) : Prop :=
  ∃ n' f, n' ≤ nn ∧ MapI w m n' f ∧ ∀ y, (f y).getD 0 = if y ∈ P then dep ns y else 0

section
variable {w w' : World} {m nn : Nat} {ns : List Nd} {P P' : List Int} {x c y : Int}

theorem DepC.done (h : DepC w m nn ns P x (dep ns x)) (hP : ∀ y, y ∈ P' ↔ y ∈ P ∨ y = x) {n2 : Nat} (hn : nn ≤ n2) : DepAt w m n2 ns P' := by
  obtain ⟨n', f, h1, h2, h3, h4⟩ := h
  refine ⟨n', f, by omega, h2, fun y => ?_⟩
  by_cases e : y = x
  · subst e
    rw [h3, if_pos ((hP y).2 (.inr rfl))]
  · rw [h4 y e]
    by_cases hy : y ∈ P
    · rw [if_pos hy, if_pos ((hP y).2 (.inl hy))]
    · rw [if_neg hy, if_neg (fun h => ((hP y).1 h).elim hy e)]

theorem DepC.lt (h : DepC w m nn ns P x c) : m < w.heap.size := by
  obtain ⟨n', f, h1, h2, h3⟩ := h
  exact h2.lt

theorem DepC.only (h : DepC w m nn ns P x c) (ho : Only [] w w') : DepC w' m nn ns P x c := by
  obtain ⟨n', f, h1, h2, h3⟩ := h
  exact ⟨n', f, h1, h2.only ho (by simp), h3⟩

end

end Go.Proofs.YtigpnopeacicpaaDoor

/-
  The laws on what numbers are made of: Load, alive.
-/
namespace Go.Proofs.YtigpnopeacicpaaDoor
open Go.RowKit
attribute [local go_sem] run_store_float

/-- Each node is made of the one before it. -/
structure Chain (ns : List Nd) : Prop where
  zero : kids (nodeAt ns 0) = []
  succ : ∀ i : Nat, i + 1 < ns.length → kids (nodeAt ns ((i + 1 : Nat) : Int)) = [(i : Int)] ∨ kids (nodeAt ns ((i + 1 : Nat) : Int)) = [(i : Int), (i : Int)]

theorem Chain.dep {ns : List Nd} (ok : OkDag ns) (h : Chain ns) : ∀ i : Nat, i < ns.length → dep ns (i : Int) = i
  | 0, hi => by
    rw [dep_eq ok (by omega) (by omega), show ((0 : Nat) : Int) = 0 from rfl, h.zero]
    rfl
  | i + 1, hi => by
    have ih := h.dep ok i (by omega)
    rw [dep_eq ok (by omega) (by omega)]
    rcases h.succ i hi with h2 | h2 <;> rw [h2] <;> simp [ih] <;> omega

end Go.Proofs.YtigpnopeacicpaaDoor

/-
  compasslaw10.Tree: nodes of any kinds, made right.
-/
namespace Go.Proofs.YtigpnopeacicpaaDoor
open Go.RowKit
attribute [local go_sem] run_store_float

theorem emod_of (x m : Int) : (x.tmod m + m) % m = x % m := by
  rw [Int.add_emod_right, Int.tmod_def, Int.sub_mul_emod_self_left]
theorem tmod_bd (x m : Int) (hm : 0 < m) : -m < x.tmod m ∧ x.tmod m < m := ⟨Int.lt_tmod_of_pos x hm, Int.tmod_lt_of_pos x hm⟩

def treeN (kinds refs : List Int) (i : Nat) : Nd :=
  if i = 0 ∨ (kinds[i]?.getD 0) % 6 = 0 then ndOne
  else ⟨(kinds[i]?.getD 0) % 6, 0, if 2 * i < refs.length then (refs[2 * i]?.getD 0) % (i : Int) else 0, if 2 * i + 1 < refs.length ∧ (kinds[i]?.getD 0) % 6 ≠ 5 then (refs[2 * i + 1]?.getD 0) % (i : Int) else 0⟩
def treeL (kinds refs : List Int) (k : Nat) : List Nd := (List.range k).map (treeN kinds refs)
theorem treeL_succ (kinds refs : List Int) (k : Nat) : treeL kinds refs (k + 1) = treeL kinds refs k ++ [treeN kinds refs k] := by simp [treeL, List.range_succ]
theorem treeL_len (kinds refs : List Int) (k : Nat) : (treeL kinds refs k).length = k := by simp [treeL]
theorem treeN_bits (kinds refs : List Int) (i : Nat) : (treeN kinds refs i).f < 2 ^ 64 := by
  unfold treeN
  split
  · decide
  · simp
theorem treeN_takes (kinds refs : List Int) (i : Nat) (hi : i ≤ 65535) : takesB i (treeN kinds refs i).k (treeN kinds refs i).f (treeN kinds refs i).a (treeN kinds refs i).b = true := by
  unfold treeN
  split
  · exact takes_one i
  · rename_i h
    have h0 : i ≠ 0 := fun e => h (.inl e)
    have h6 : (kinds[i]?.getD 0) % 6 ≠ 0 := fun e => h (.inr e)
    have b1 := Int.emod_nonneg (kinds[i]?.getD 0) (b := 6) (by omega)
    have b2 := Int.emod_lt_of_pos (kinds[i]?.getD 0) (b := 6) (by omega)
    have c1 := Int.emod_nonneg (refs[2 * i]?.getD 0) (b := (i : Int)) (by omega)
    have c2 := Int.emod_lt_of_pos (refs[2 * i]?.getD 0) (b := (i : Int)) (by omega)
    have d1 := Int.emod_nonneg (refs[2 * i + 1]?.getD 0) (b := (i : Int)) (by omega)
    have d2 := Int.emod_lt_of_pos (refs[2 * i + 1]?.getD 0) (b := (i : Int)) (by omega)
    have ha : 0 ≤ (if 2 * i < refs.length then (refs[2 * i]?.getD 0) % (i : Int) else 0) ∧ (if 2 * i < refs.length then (refs[2 * i]?.getD 0) % (i : Int) else 0) < i := by split <;> omega
    have hb : 0 ≤ (if 2 * i + 1 < refs.length ∧ (kinds[i]?.getD 0) % 6 ≠ 5 then (refs[2 * i + 1]?.getD 0) % (i : Int) else 0) ∧ (if 2 * i + 1 < refs.length ∧ (kinds[i]?.getD 0) % 6 ≠ 5 then (refs[2 * i + 1]?.getD 0) % (i : Int) else 0) < i ∧ ((kinds[i]?.getD 0) % 6 = 5 → (if 2 * i + 1 < refs.length ∧ (kinds[i]?.getD 0) % 6 ≠ 5 then (refs[2 * i + 1]?.getD 0) % (i : Int) else 0) = 0) := by
      split
      · rename_i h; exact ⟨by omega, by omega, fun e => absurd e h.2⟩
      · exact ⟨by omega, by omega, fun _ => rfl⟩
    generalize (if 2 * i < refs.length then (refs[2 * i]?.getD 0) % (i : Int) else 0) = a at ha
    generalize (if 2 * i + 1 < refs.length ∧ (kinds[i]?.getD 0) % 6 ≠ 5 then (refs[2 * i + 1]?.getD 0) % (i : Int) else 0) = b at hb
    generalize (kinds[i]?.getD 0) % 6 = x at h6 b1 b2 hb
    simp only [takesB, validB, hasB]
    by_cases h5 : x = 5
    · have := hb.2.2 h5
      subst this h5
      simp
      omega
    · simp [h6, h5]
      omega
theorem treeN_mid {kinds refs : List Int} {i : Nat} {x X a b : Int} (hx : kinds[i]?.getD 0 = x) (hX : x % 6 = X) (h0 : i ≠ 0) (h6 : X ≠ 0)
    (ha : a = if 2 * i < refs.length then (refs[2 * i]?.getD 0) % (i : Int) else 0) (hb : b = if 2 * i + 1 < refs.length ∧ X ≠ 5 then (refs[2 * i + 1]?.getD 0) % (i : Int) else 0) : (⟨X, 0, a, b⟩ : Nd) = treeN kinds refs i := by
  unfold treeN
  rw [hx, hX, if_neg (by omega), ha, hb]

/-- Where Tree's loop stands. -/
def TrRel (w0 : World) (kinds refs : List Int) (k : Nat) (u : Value) (wr : World) : Prop :=
  NodesAt wr u (treeL kinds refs k) ∧ (∀ g, u.ownBlock = some g → w0.heap.size ≤ g) ∧ Only [] w0 wr
theorem TrRel.push {w0 wr w1 w' : World} {kinds refs : List Int} {k : Nat} {u : Value} {g cap : Nat} (h : TrRel w0 kinds refs k u wr) (hW : Only [] wr w1) (n : Nd) (hn : n = treeN kinds refs k)
    (hown : w'.ownsRow 0 31 4 (.slice (some ⟨g, 0, none⟩) (k + 1) cap) (k + 1) (flat (treeL kinds refs k) ++ n.cells)) (hgr : w1.grownBy w' u.ownBlock) (hat : u.ownBlock = some g ∨ wr.heap.size ≤ g) : TrRel w0 kinds refs (k + 1) (.slice (some ⟨g, 0, none⟩) (k + 1) cap) w' := by
  subst hn
  obtain ⟨h1, h2, h3⟩ := h
  have ho : Only u.ownBlock.toList wr w' := (hW.mono (by simp)).trans (Only.of_grown (S := u.ownBlock.toList) hgr (by simp)) (fun k hk => .inl hk)
  refine ⟨?_, ?_, h3.trans ho (fun k hk => .inr (h2 k (by simpa using hk)))⟩
  · unfold NodesAt
    rw [treeL_succ, flat_snoc, List.length_append, treeL_len]
    exact hown
  · intro q hq
    have e : g = q := by simpa [Value.ownBlock] using hq
    subst e
    rcases hat with e | e
    · exact h2 g e
    · have := h3.size
      omega

theorem news4_two (w : World) (o : Obj) (x0 x1 x2 x3 : Value) (t : TypeId) : ∀ j u, [x0, x1, x2, x3][j]? = some u → ((w.alloc o).alloc (.cells #[x0, x1, x2, x3] t)).cell? ((⟨w.heap.size + 1, 0, none⟩ : Addr).add j) = some u := by
  have h := heap_alloc_new (w.alloc o) (.cells #[x0, x1, x2, x3] t)
  rw [World.size_alloc] at h
  exact news4 h

end Go.Proofs.YtigpnopeacicpaaDoor
