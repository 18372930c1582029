/-
  What numbers are made of: the plain law (no program in sight): who is reached, a list that rises, a depth-first search and a scan that both find it.
-/
import Derived.Test.YtigpnopeacicpaaDoorTaGDag
namespace Go.Proofs.YtigpnopeacicpaaDoor

theorem asc_ext : ∀ (xs ys : List Int), xs.Pairwise (· < ·) → ys.Pairwise (· < ·) → (∀ x, x ∈ xs ↔ x ∈ ys) → xs = ys
  | [], [], _, _, _ => rfl
  | [], y :: ys, _, _, h => by have := (h y).2 (by simp); simp at this
  | x :: xs, [], _, _, h => by have := (h x).1 (by simp); simp at this
  | x :: xs, y :: ys, hx, hy, h => by
    rw [List.pairwise_cons] at hx hy
    have e : x = y := by
      rcases List.mem_cons.1 ((h x).1 (by simp)) with h1 | h1
      · exact h1
      · rcases List.mem_cons.1 ((h y).2 (by simp)) with h2 | h2
        · exact h2.symm
        · have := hy.1 x h1
          have := hx.1 y h2
          omega
    subst e
    rw [asc_ext xs ys hx.2 hy.2 (fun z => ?_)]
    constructor
    · intro hz
      rcases List.mem_cons.1 ((h z).1 (by simp [hz])) with h1 | h1
      · have := hx.1 z hz
        omega
      · exact h1
    · intro hz
      rcases List.mem_cons.1 ((h z).2 (by simp [hz])) with h1 | h1
      · have := hy.1 z hz
        omega
      · exact h1

/-- The operands of a node. -/
def kids (n : Nd) : List Int := if n.k = 0 then [] else if n.k = 5 then [n.a] else [n.a, n.b]
def nodeAt (ns : List Nd) (x : Int) : Nd := ns[x.toNat]?.getD ⟨0, 0, 0, 0⟩
/-- Each node's operands stand before it. -/
def OkDag (ns : List Nd) : Prop := ∀ x : Int, 0 ≤ x → x < ns.length → ∀ c ∈ kids (nodeAt ns x), 0 ≤ c ∧ c < x

/-- Who is reached from those in R. -/
inductive Reach (ns : List Nd) (R : Int → Prop) : Int → Prop where
  | root (x : Int) (h : R x) (h0 : 0 ≤ x) (h1 : x < ns.length) : Reach ns R x
  | kid (x c : Int) (h : Reach ns R x) (hc : c ∈ kids (nodeAt ns x)) : Reach ns R c
theorem Reach.range {ns : List Nd} (ok : OkDag ns) {R : Int → Prop} {x : Int} (h : Reach ns R x) : 0 ≤ x ∧ x < ns.length := by
  induction h with
  | root x _ h0 h1 => exact ⟨h0, h1⟩
  | kid x c _ hc ih =>
    have := ok x ih.1 ih.2 c hc
    omega

open Classical in
/-- All that are reached, rising. -/
noncomputable def belowL (ns : List Nd) (R : Int → Prop) : List Int := ((List.range ns.length).filter fun (i : Nat) => decide (Reach ns R (i : Int))).map fun (i : Nat) => (i : Int)
theorem mem_belowL {ns : List Nd} (ok : OkDag ns) {R : Int → Prop} {x : Int} : x ∈ belowL ns R ↔ Reach ns R x := by
  unfold belowL
  rw [List.mem_map]
  constructor
  · rintro ⟨i, hi, rfl⟩
    rw [List.mem_filter] at hi
    simpa using hi.2
  · intro h
    obtain ⟨h0, h1⟩ := h.range ok
    refine ⟨x.toNat, ?_, by omega⟩
    rw [List.mem_filter, List.mem_range, show ((x.toNat : Nat) : Int) = x by omega]
    exact ⟨by omega, by simpa using h⟩
theorem belowL_asc (ns : List Nd) (R : Int → Prop) : (belowL ns R).Pairwise (· < ·) := by
  unfold belowL
  rw [List.pairwise_map]
  refine (List.Pairwise.filter _ (List.pairwise_lt_range (n := ns.length))).imp ?_
  intro a b h
  omega

/-- A set that is closed, holds the roots, and holds only what is reached. -/
theorem closed_eq {ns : List Nd} (ok : OkDag ns) {R : Int → Prop} {xs : List Int} (hasc : xs.Pairwise (· < ·)) (h1 : ∀ x ∈ xs, Reach ns R x) (hr : ∀ x, R x → 0 ≤ x → x < ns.length → x ∈ xs) (hk : ∀ x ∈ xs, ∀ c ∈ kids (nodeAt ns x), c ∈ xs) : xs = belowL ns R := by
  refine asc_ext _ _ hasc (belowL_asc ns R) (fun x => ?_)
  rw [mem_belowL ok]
  refine ⟨h1 x, fun h => ?_⟩
  induction h with
  | root x h h0 h1 => exact hr x h h0 h1
  | kid x c _ hc ih => exact hk x ih c hc

theorem nodup_len : ∀ (n : Nat) (xs : List Int), xs.Nodup → (∀ x ∈ xs, 0 ≤ x ∧ x < (n : Int)) → xs.length ≤ n
  | 0, [], _, _ => by simp
  | 0, x :: xs, _, h => by have := h x (by simp); omega
  | n + 1, xs, hn, h => by
    by_cases hm : (n : Int) ∈ xs
    · have h1 := nodup_len n (xs.erase (n : Int)) (hn.erase _) (fun x hx => by
        rw [hn.mem_erase_iff] at hx
        have := h x hx.2
        have h3 := hx.1
        omega)
      rw [List.length_erase_of_mem hm] at h1
      omega
    · have h1 := nodup_len n xs hn (fun x hx => by
        have h2 := h x hx
        have h3 : x ≠ (n : Int) := fun e => hm (e ▸ hx)
        omega)
      omega

/-- A depth-first search: F found, S to do. -/
structure Dfs (ns : List Nd) (R : Int → Prop) (F S : List Int) (V : Int → Prop) : Prop where
  nd : (F ++ S).Nodup
  v : ∀ x, V x ↔ x ∈ F ++ S
  r : ∀ x ∈ F ++ S, Reach ns R x
theorem Dfs.visit {ns : List Nd} {R : Int → Prop} {F S : List Int} {V V' : Int → Prop} {x : Int} (h : Dfs ns R F S V) (hx : Reach ns R x) (hv : ¬ V x) (hV : ∀ y, V' y ↔ V y ∨ y = x) : Dfs ns R F (S ++ [x]) V' := by
  have hn : x ∉ F ++ S := fun hm => hv ((h.v x).2 hm)
  refine ⟨?_, ?_, ?_⟩
  · rw [← List.append_assoc, List.nodup_append]
    refine ⟨h.nd, by simp, fun a ha b hb => ?_⟩
    rintro rfl
    have e : a = x := by simpa using hb
    exact hn (e ▸ ha)
  · intro y
    rw [hV, h.v y, ← List.append_assoc, List.mem_append (s := F ++ S)]
    simp
  · intro y hy
    rw [← List.append_assoc, List.mem_append] at hy
    rcases hy with hy | hy
    · exact h.r y hy
    · have e : y = x := by simpa using hy
      exact e ▸ hx
theorem Dfs.pop {ns : List Nd} {R : Int → Prop} {F S : List Int} {V : Int → Prop} {x : Int} (h : Dfs ns R F (S ++ [x]) V) : Dfs ns R (F ++ [x]) S V := by
  have hp : (F ++ (S ++ [x])).Perm ((F ++ [x]) ++ S) := by
    rw [List.append_assoc]
    exact List.Perm.append_left F List.perm_append_comm
  exact ⟨hp.nodup_iff.1 h.nd, fun y => by rw [h.v y, hp.mem_iff], fun y hy => h.r y (hp.mem_iff.2 hy)⟩
theorem Dfs.len {ns : List Nd} (ok : OkDag ns) {R : Int → Prop} {F S : List Int} {V : Int → Prop} (h : Dfs ns R F S V) : F.length + S.length ≤ ns.length := by
  have := nodup_len ns.length (F ++ S) h.nd (fun x hx => (h.r x hx).range ok)
  rwa [List.length_append] at this
theorem sort_eq {xs : List Int} (hn : xs.Nodup) : (xs.mergeSort fun x y => decide (x ≤ y)).Pairwise (· < ·) := by
  have h1 : (xs.mergeSort fun x y => decide (x ≤ y)).Pairwise (fun x y => decide (x ≤ y) = true) :=
    List.pairwise_mergeSort (fun a b c h1 h2 => by simp at *; omega) (fun a b => by simp; omega) xs
  have h2 : (xs.mergeSort fun x y => decide (x ≤ y)).Nodup := (List.mergeSort_perm xs _).nodup_iff.2 hn
  have h3 := h1.and h2
  refine h3.imp ?_
  rintro a b ⟨ha, hb⟩
  have ha' : a ≤ b := by simpa using ha
  omega
theorem dfs_done {ns : List Nd} (ok : OkDag ns) {R : Int → Prop} {F : List Int} {V : Int → Prop} (h : Dfs ns R F [] V) (hk : ∀ x ∈ F, ∀ c ∈ kids (nodeAt ns x), V c) (hr : ∀ x, R x → 0 ≤ x → x < ns.length → V x) :
    (F.mergeSort fun x y => decide (x ≤ y)) = belowL ns R := by
  have hp := List.mergeSort_perm F (fun x y => decide (x ≤ y))
  have hnd : F.Nodup := by simpa using h.nd
  have hv : ∀ x, V x ↔ x ∈ F := fun x => by simpa using h.v x
  refine closed_eq ok (sort_eq hnd) (fun x hx => h.r x (by simpa using hp.mem_iff.1 hx)) (fun x hx h0 h1 => hp.mem_iff.2 ((hv x).1 (hr x hx h0 h1))) (fun x hx c hc => hp.mem_iff.2 ((hv c).1 (hk x (hp.mem_iff.1 hx) c hc)))
end Go.Proofs.YtigpnopeacicpaaDoor
