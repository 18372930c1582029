/-
  Joined texts.
-/
import Derived.Test.YtigpnopeacicpaaGreatDoorProg
import Derived.Test.YtigpnopeacicpaaGreatDoorTnJ0
import Derived.Maps.OwnSet
import Derived.MapKept
/-
  THE SMALL FUNCTIONS OF dag, code, flo, fail: what each computes.
-/
namespace Go.Proofs.YtigpnopeacicpaaGreatDoor
open Go.RowKit

/-- A node as plain data: kind, the float64's bits, the operands. -/
structure Nd where
  k : Int
  f : Nat
  a : Int
  b : Int
  deriving DecidableEq
def Nd.val (n : Nd) : Value := .agg #[.int .i64 n.k, .float .f64 n.f, .int .i64 n.a, .int .i64 n.b]
def Nd.cells (n : Nd) : List Value := [.int .i64 n.k, .float .f64 n.f, .int .i64 n.a, .int .i64 n.b]
def Nd.keyVal (n : Nd) : Value := .agg #[.int .i64 n.k, .int .i64 n.a, .int .i64 n.b, .int .u64 (n.f : Int)]
def flat (ns : List Nd) : List Value := ns.flatMap Nd.cells

def finB (f : Nat) : Bool := decide (f / 4503599627370496 % 2048 ≠ 2047)
def fitsB (v : Int) : Bool := decide (0 ≤ v ∧ v ≤ 65535)
def validB (k : Int) (f : Nat) (a b : Int) : Bool :=
  decide ((k = 0 ∧ a = 0 ∧ b = 0) ∨ (1 ≤ k ∧ k ≤ 5 ∧ (k = 5 → b = 0) ∧ f = 0 ∧ 0 ≤ a ∧ a ≤ 65535 ∧ 0 ≤ b ∧ b ≤ 65535))
def hasB (n : Nat) (id : Int) : Bool := decide (0 ≤ id ∧ id < n)
def takesB (n : Nat) (k : Int) (f : Nat) (a b : Int) : Bool :=
  validB k f a b && (if k = 0 then finB f else if k = 5 then hasB n a else hasB n a && hasB n b)

theorem bits_run (b : Nat) (w : World) : (callFunc 161 #[.float .f64 b]).run Tryz.prog w = .ok (.value (.int .u64 (b : Int))) w := by
  kernel_rfl

theorem fin_arith (b : Nat) (hb : b < 18446744073709551616) : (bits BinOp.and IntKind.u64 ((b : Int) / 4503599627370496) 2047 != 2047) = finB b := by
  have h1 : ((b : Int) / 4503599627370496) = ((b / 4503599627370496 : Nat) : Int) := by omega
  rw [h1, show (2047 : Int) = ((2047 : Nat) : Int) from rfl, u64_and_nat _ _ (by omega) (by omega)]
  have h2 : (b / 4503599627370496) &&& 2047 = (b / 4503599627370496) % 2048 := Nat.and_two_pow_sub_one_eq_mod _ 11
  rw [h2]
  unfold finB
  rw [Bool.eq_iff_iff]
  simp
  omega

set_option maxHeartbeats 400000 in
theorem finite_any (b : Nat) (hb : b < 2 ^ 64) (w : World) :
    Calls Tryz.prog 160 #[.float .f64 b] w fun e w' => e = .returned (.bool (finB b)) ∧ w = w' := by
  have h := bits_run
  have hf := Lib.hid (fin_arith b hb)
  clear hb
  go_enter Tryz.func160, Tryz.ntmps160
  go_wp2
  go_ret
  exact ⟨by simp [hf.out], rfl⟩

set_option maxHeartbeats 400000 in
theorem fits_any (v : Int) (w : World) :
    Calls Tryz.prog 166 #[.int .i64 v] w fun e w' => e = .returned (.bool (fitsB v)) ∧ w = w' := by
  go_enter Tryz.func166, Tryz.ntmps166
  go_wp2
  all_goals (go_ret; refine ⟨?_, rfl⟩; simp [fitsB]; try omega)

set_option maxHeartbeats 800000 in
theorem cvalid_any (k : Int) (f : Nat) (a b : Int) (w : World) :
    Calls Tryz.prog 158 #[.agg #[.int .i64 k, .float .f64 f, .int .i64 a, .int .i64 b]] w fun e w' => e = .returned (.bool (validB k f a b)) ∧ Only [] w w' := by
  have h := bits_run
  go_enter Tryz.func158, Tryz.ntmps158
  go_wp2_with (go_at_call 166; (with_reducible refine (fits_any _ _).mono ?_); rintro e w' ⟨rfl, rfl⟩)
  all_goals go_ret
  all_goals (refine ⟨?_, ((Only.refl [] w).alloc _)⟩)
  all_goals clear h
  all_goals (simp_all [validB, fitsB]; try (first | omega | (rw [Bool.eq_iff_iff]; simp; done)))
end Go.Proofs.YtigpnopeacicpaaGreatDoor

/-
  What numbers are made of: the plain law (no program in sight): who is reached, a list that rises, a depth-first search and a scan that both find it.
-/
namespace Go.Proofs.YtigpnopeacicpaaGreatDoor

theorem asc_ext : ∀ (xs ys : List Int), xs.Pairwise (· < ·) → ys.Pairwise (· < ·) → (∀ x, x ∈ xs ↔ x ∈ ys) → xs = ys
  | [], [], _, _, _ => rfl
  | [], y :: ys, _, _, h => by have := (h y).2 (by simp); simp at this
  | x :: xs, [], _, _, h => by have := (h x).1 (by simp); simp at this
  | x :: xs, y :: ys, hx, hy, h => by
    rw [List.pairwise_cons] at hx hy
    have e : x = y := by
      rcases List.mem_cons.1 ((h x).1 (by simp)) with h1 | h1
      · exact h1
      · rcases List.mem_cons.1 ((h y).2 (by simp)) with h2 | h2
        · exact h2.symm
        · have := hy.1 x h1
          have := hx.1 y h2
          omega
    subst e
    rw [asc_ext xs ys hx.2 hy.2 (fun z => ?_)]
    constructor
    · intro hz
      rcases List.mem_cons.1 ((h z).1 (by simp [hz])) with h1 | h1
      · have := hx.1 z hz
        omega
      · exact h1
    · intro hz
      rcases List.mem_cons.1 ((h z).2 (by simp [hz])) with h1 | h1
      · have := hy.1 z hz
        omega
      · exact h1

/-- The operands of a node. -/
def kids (n : Nd) : List Int := if n.k = 0 then [] else if n.k = 5 then [n.a] else [n.a, n.b]
def nodeAt (ns : List Nd) (x : Int) : Nd := ns[x.toNat]?.getD ⟨0, 0, 0, 0⟩
/-- Each node's operands stand before it. -/
def OkDag (ns : List Nd) : Prop := ∀ x : Int, 0 ≤ x → x < ns.length → ∀ c ∈ kids (nodeAt ns x), 0 ≤ c ∧ c < x

/-- Who is reached from those in R. -/
inductive Reach (ns : List Nd) (R : Int → Prop) : Int → Prop where
  | root (x : Int) (h : R x) (h0 : 0 ≤ x) (h1 : x < ns.length) : Reach ns R x
  | kid (x c : Int) (h : Reach ns R x) (hc : c ∈ kids (nodeAt ns x)) : Reach ns R c
theorem Reach.range {ns : List Nd} (ok : OkDag ns) {R : Int → Prop} {x : Int} (h : Reach ns R x) : 0 ≤ x ∧ x < ns.length := by
  induction h with
  | root x _ h0 h1 => exact ⟨h0, h1⟩
  | kid x c _ hc ih =>
    have := ok x ih.1 ih.2 c hc
    omega

open Classical in
/-- All that are reached, rising. -/
noncomputable def belowL (ns : List Nd) (R : Int → Prop) : List Int := ((List.range ns.length).filter fun (i : Nat) => decide (Reach ns R (i : Int))).map fun (i : Nat) => (i : Int)
theorem mem_belowL {ns : List Nd} (ok : OkDag ns) {R : Int → Prop} {x : Int} : x ∈ belowL ns R ↔ Reach ns R x := by
  unfold belowL
  rw [List.mem_map]
  constructor
  · rintro ⟨i, hi, rfl⟩
    rw [List.mem_filter] at hi
    simpa using hi.2
  · intro h
    obtain ⟨h0, h1⟩ := h.range ok
    refine ⟨x.toNat, ?_, by omega⟩
    rw [List.mem_filter, List.mem_range, show ((x.toNat : Nat) : Int) = x by omega]
    exact ⟨by omega, by simpa using h⟩
theorem belowL_asc (ns : List Nd) (R : Int → Prop) : (belowL ns R).Pairwise (· < ·) := by
  unfold belowL
  rw [List.pairwise_map]
  refine (List.Pairwise.filter _ (List.pairwise_lt_range (n := ns.length))).imp ?_
  intro a b h
  omega

/-- A set that is closed, holds the roots, and holds only what is reached. -/
theorem closed_eq {ns : List Nd} (ok : OkDag ns) {R : Int → Prop} {xs : List Int} (hasc : xs.Pairwise (· < ·)) (h1 : ∀ x ∈ xs, Reach ns R x) (hr : ∀ x, R x → 0 ≤ x → x < ns.length → x ∈ xs) (hk : ∀ x ∈ xs, ∀ c ∈ kids (nodeAt ns x), c ∈ xs) : xs = belowL ns R := by
  refine asc_ext _ _ hasc (belowL_asc ns R) (fun x => ?_)
  rw [mem_belowL ok]
  refine ⟨h1 x, fun h => ?_⟩
  induction h with
  | root x h h0 h1 => exact hr x h h0 h1
  | kid x c _ hc ih => exact hk x ih c hc

theorem nodup_len : ∀ (n : Nat) (xs : List Int), xs.Nodup → (∀ x ∈ xs, 0 ≤ x ∧ x < (n : Int)) → xs.length ≤ n
  | 0, [], _, _ => by simp
  | 0, x :: xs, _, h => by have := h x (by simp); omega
  | n + 1, xs, hn, h => by
    by_cases hm : (n : Int) ∈ xs
    · have h1 := nodup_len n (xs.erase (n : Int)) (hn.erase _) (fun x hx => by
        rw [hn.mem_erase_iff] at hx
        have := h x hx.2
        have h3 := hx.1
        omega)
      rw [List.length_erase_of_mem hm] at h1
      omega
    · have h1 := nodup_len n xs hn (fun x hx => by
        have h2 := h x hx
        have h3 : x ≠ (n : Int) := fun e => hm (e ▸ hx)
        omega)
      omega

/-- A depth-first search: F found, S to do. -/
structure Dfs (ns : List Nd) (R : Int → Prop) (F S : List Int) (V : Int → Prop) : Prop where
  nd : (F ++ S).Nodup
  v : ∀ x, V x ↔ x ∈ F ++ S
  r : ∀ x ∈ F ++ S, Reach ns R x
theorem Dfs.visit {ns : List Nd} {R : Int → Prop} {F S : List Int} {V V' : Int → Prop} {x : Int} (h : Dfs ns R F S V) (hx : Reach ns R x) (hv : ¬ V x) (hV : ∀ y, V' y ↔ V y ∨ y = x) : Dfs ns R F (S ++ [x]) V' := by
  have hn : x ∉ F ++ S := fun hm => hv ((h.v x).2 hm)
  refine ⟨?_, ?_, ?_⟩
  · rw [← List.append_assoc, List.nodup_append]
    refine ⟨h.nd, by simp, fun a ha b hb => ?_⟩
    rintro rfl
    have e : a = x := by simpa using hb
    exact hn (e ▸ ha)
  · intro y
    rw [hV, h.v y, ← List.append_assoc, List.mem_append (s := F ++ S)]
    simp
  · intro y hy
    rw [← List.append_assoc, List.mem_append] at hy
    rcases hy with hy | hy
    · exact h.r y hy
    · have e : y = x := by simpa using hy
      exact e ▸ hx
theorem Dfs.pop {ns : List Nd} {R : Int → Prop} {F S : List Int} {V : Int → Prop} {x : Int} (h : Dfs ns R F (S ++ [x]) V) : Dfs ns R (F ++ [x]) S V := by
  have hp : (F ++ (S ++ [x])).Perm ((F ++ [x]) ++ S) := by
    rw [List.append_assoc]
    exact List.Perm.append_left F List.perm_append_comm
  exact ⟨hp.nodup_iff.1 h.nd, fun y => by rw [h.v y, hp.mem_iff], fun y hy => h.r y (hp.mem_iff.2 hy)⟩
theorem Dfs.len {ns : List Nd} (ok : OkDag ns) {R : Int → Prop} {F S : List Int} {V : Int → Prop} (h : Dfs ns R F S V) : F.length + S.length ≤ ns.length := by
  have := nodup_len ns.length (F ++ S) h.nd (fun x hx => (h.r x hx).range ok)
  rwa [List.length_append] at this
theorem sort_eq {xs : List Int} (hn : xs.Nodup) : (xs.mergeSort fun x y => decide (x ≤ y)).Pairwise (· < ·) := by
  have h1 : (xs.mergeSort fun x y => decide (x ≤ y)).Pairwise (fun x y => decide (x ≤ y) = true) :=
    List.pairwise_mergeSort (fun a b c h1 h2 => by simp at *; omega) (fun a b => by simp; omega) xs
  have h2 : (xs.mergeSort fun x y => decide (x ≤ y)).Nodup := (List.mergeSort_perm xs _).nodup_iff.2 hn
  have h3 := h1.and h2
  refine h3.imp ?_
  rintro a b ⟨ha, hb⟩
  have ha' : a ≤ b := by simpa using ha
  omega
theorem dfs_done {ns : List Nd} (ok : OkDag ns) {R : Int → Prop} {F : List Int} {V : Int → Prop} (h : Dfs ns R F [] V) (hk : ∀ x ∈ F, ∀ c ∈ kids (nodeAt ns x), V c) (hr : ∀ x, R x → 0 ≤ x → x < ns.length → V x) :
    (F.mergeSort fun x y => decide (x ≤ y)) = belowL ns R := by
  have hp := List.mergeSort_perm F (fun x y => decide (x ≤ y))
  have hnd : F.Nodup := by simpa using h.nd
  have hv : ∀ x, V x ↔ x ∈ F := fun x => by simpa using h.v x
  refine closed_eq ok (sort_eq hnd) (fun x hx => h.r x (by simpa using hp.mem_iff.1 hx)) (fun x hx h0 h1 => hp.mem_iff.2 ((hv x).1 (hr x hx h0 h1))) (fun x hx c hc => hp.mem_iff.2 ((hv c).1 (hk x (hp.mem_iff.1 hx) c hc)))
end Go.Proofs.YtigpnopeacicpaaGreatDoor

/-
  has, keyOf, Same, the errors: what each computes.
-/
namespace Go.Proofs.YtigpnopeacicpaaGreatDoor
open Go.RowKit

set_option maxHeartbeats 400000 in
theorem has_any (b : Nat) (A : Option Addr) (n c : Nat) (id : Int) (w : World) (h0 : w.cell? ⟨b, 0, none⟩ = some (.slice A n c)) :
    Calls Tryz.prog 120 #[.pointer (some ⟨b, 0, none⟩), .int .i64 id] w fun e w' => e = .returned (.bool (hasB n id)) ∧ w = w' := by
  go_enter Tryz.func120, Tryz.ntmps120
  go_wp2
  all_goals (go_ret; refine ⟨?_, rfl⟩; simp [hasB]; try omega)

set_option maxHeartbeats 400000 in
theorem keyOf_any (k a b : Int) (f : Nat) (w : World) :
    Calls Tryz.prog 139 #[.agg #[.int .i64 k, .float .f64 f, .int .i64 a, .int .i64 b]] w fun e w' =>
      e = .returned (.agg #[.int .i64 k, .int .i64 a, .int .i64 b, .int .u64 (f : Int)]) ∧ Only [] w w' := by
  have hb := bits_run
  go_enter Tryz.func139, Tryz.ntmps139
  go_wp2
  go_region
  go_wp2
  go_returns
  exact ⟨rfl, (((Only.refl [] w).alloc _).alloc _).drew⟩

set_option maxHeartbeats 400000 in
theorem malformed_any (w : World) :
    Calls Tryz.prog 136 #[] w fun e w' => e = .returned (.iface 188 (.int .i64 1)) ∧ w = w' := by
  go_enter Tryz.func136, Tryz.ntmps136
  go_wp2
  go_ret
  exact ⟨rfl, rfl⟩

/-- An error At: a new block with the place and what it wraps. -/
def IsAt (w w' : World) (i : Int) (err v : Value) : Prop :=
  ∃ g, w.heap.size ≤ g ∧ v = .iface 190 (.pointer (some ⟨g, 0, none⟩)) ∧ Blk w' g 192 [.int .i64 i, err]

set_option maxHeartbeats 400000 in
theorem node_any (i : Int) (t : TypeId) (x : Int) (w : World) :
    Calls Tryz.prog 138 #[.int .i64 i, .iface t (.int .i64 x)] w fun e w' => ∃ v, e = .returned v ∧ IsAt w w' i (.iface t (.int .i64 x)) v ∧ Only [] w w' := by
  go_enter Tryz.func138, Tryz.ntmps138
  go_wp2
  go_ret
  refine ⟨_, rfl, ⟨w.heap.size, Nat.le_refl _, rfl, ?_⟩, ?_⟩
  · exact Blk.new w 192 [.int .i64 i, .iface t (.int .i64 x)]
  · exact (Only.refl [] w).alloc _

end Go.Proofs.YtigpnopeacicpaaGreatDoor

/-
  THE MAP OF A DAG: the run of a look-up and of a store, over the very entries. WHAT A DAG IS in memory ('DagIs').
-/
namespace Go.Proofs.YtigpnopeacicpaaGreatDoor
open Go.RowKit

theorem key_eq (n m : Nd) (w : World) : (Op.equal 168 n.keyVal m.keyVal).run Tryz.prog w = .ok (decide (n = m)) w := by
  obtain ⟨k, f, a, b⟩ := n
  obtain ⟨k', f', a', b'⟩ := m
  have e : decide ((⟨k, f, a, b⟩ : Nd) = ⟨k', f', a', b'⟩) = (k == k' && (a == a' && (b == b' && ((f : Int) == (f' : Int))))) := by
    rw [Bool.eq_iff_iff]; simp; omega
  rw [e]
  simp only [Op.equal, Nd.keyVal]
  rw [show Op.maxDepth = 9999 + 1 from rfl, run_equalIn_struct w 9999 168 _ _ (by kernel_rfl) (by kernel_rfl)]
  have hl : (Tryz.prog.fieldsOf 168).toList.map (fun f => (f.type, f.offset, (f.name != "_"))) = [(3, 0, true), (3, 1, true), (3, 2, true), (133, 3, true)] := by kernel_rfl
  have hp0 : ∀ (x y z u : Value) (w : World), (part 3 #[x, y, z, u] 0).run Tryz.prog w = .ok x w := fun _ _ _ _ _ => by kernel_rfl
  have hp1 : ∀ (x y z u : Value) (w : World), (part 3 #[x, y, z, u] 1).run Tryz.prog w = .ok y w := fun _ _ _ _ _ => by kernel_rfl
  have hp2 : ∀ (x y z u : Value) (w : World), (part 3 #[x, y, z, u] 2).run Tryz.prog w = .ok z w := fun _ _ _ _ _ => by kernel_rfl
  have hp3 : ∀ (x y z u : Value) (w : World), (part 133 #[x, y, z, u] 3).run Tryz.prog w = .ok u w := fun _ _ _ _ _ => by kernel_rfl
  generalize (Tryz.prog.fieldsOf 168).toList = fs at hl ⊢
  obtain ⟨f0, f1, f2, f3, rfl⟩ : ∃ f0 f1 f2 f3, fs = [f0, f1, f2, f3] := by
    have hlen := congrArg List.length hl
    simp only [List.length_map, List.length_cons, List.length_nil] at hlen
    match fs, hlen with
    | [f0, f1, f2, f3], _ => exact ⟨_, _, _, _, rfl⟩
  simp only [List.map_cons, List.map_nil, List.cons.injEq, Prod.mk.injEq, and_true] at hl
  obtain ⟨⟨t0, o0, n0⟩, ⟨t1, o1, n1⟩, ⟨t2, o2, n2⟩, ⟨t3, o3, n3⟩⟩ := hl
  have n0' := (bne_iff_ne).1 n0
  have n1' := (bne_iff_ne).1 n1
  have n2' := (bne_iff_ne).1 n2
  have n3' := (bne_iff_ne).1 n3
  have q : ∀ (x y : Int) (k : IntKind) (t : TypeId) (kk : IntKind), Tryz.prog.underlying t = some (.int kk) → (Op.equalIn 9999 t (.int k x) (.int k y)).run Tryz.prog w = .ok (x == y) w := fun x y k t kk h => run_equalIn_int w 9998 t k kk x y h
  have qi := fun (x y : Int) => q x y .i64 _ _ Tryz.underlying3
  have qu := fun (x y : Int) => q x y .u64 _ _ Tryz.underlying133
  clear q e
  simp only [Op.eqFields, t0, o0, n0', t1, o1, n1', t2, o2, n2', t3, o3, n3', ne_eq, not_false_eq_true, if_true, Sem.run_bind, Sem.run_ite, Sem.run_pure, hp0, hp1, hp2, hp3, Result.andThen_ok, qi, qu]
  generalize (k == k') = c1
  generalize (a == a') = c2
  generalize (b == b') = c3
  generalize ((f : Int) == (f' : Int)) = c4
  cases c1 <;> cases c2 <;> cases c3 <;> cases c4 <;> rfl

/-- Keys with their ids, as the map has them. -/
def pairs : Nat → List Nd → List (Value × Value)
  | _, [] => []
  | i, n :: r => (n.keyVal, .int .i64 (i : Int)) :: pairs (i + 1) r
def HasKeys (es : List MapEntry) (s : Nat) (ns : List Nd) : Prop := es.map (fun e => (e.key, e.val)) = pairs s ns

theorem pairs_snoc (n : Nd) : ∀ (ns : List Nd) (s : Nat), pairs s (ns ++ [n]) = pairs s ns ++ [(n.keyVal, .int .i64 ((s + ns.length : Nat) : Int))]
  | [], s => by simp [pairs]
  | m :: r, s => by
    have h : s + 1 + r.length = s + (r.length + 1) := by omega
    simp [pairs, pairs_snoc n r (s + 1), h]

def found (i s : Nat) (ns : List Nd) (n : Nd) : Option (Nat × Value) := if n ∈ ns then some (i + ns.idxOf n, .int .i64 ((s + ns.idxOf n : Nat) : Int)) else none

theorem found_cons (i s : Nat) (m : Nd) (ns : List Nd) (n : Nd) : found i s (m :: ns) n = if n = m then some (i, .int .i64 (s : Int)) else found (i + 1) (s + 1) ns n := by
  unfold found
  by_cases h : n = m
  · subst h; simp
  · have h' : ¬ m = n := fun e => h e.symm
    simp only [List.mem_cons, h, false_or, if_false]
    by_cases hm : n ∈ ns
    · have hb : (m == n) = false := by simpa using h'
      have e1 : (m :: ns).idxOf n = ns.idxOf n + 1 := by rw [List.idxOf_cons, hb]; rfl
      rw [if_pos hm, if_pos hm, e1]
      have e2 : i + (ns.idxOf n + 1) = i + 1 + ns.idxOf n := by omega
      have e3 : s + (ns.idxOf n + 1) = s + 1 + ns.idxOf n := by omega
      rw [e2, e3]
    · rw [if_neg hm, if_neg hm]

theorem find_run (n : Nd) (w : World) : ∀ (es : List MapEntry) (i s : Nat) (ns : List Nd), HasKeys es s ns →
    (Instr.findAsking 168 n.keyVal es i).run Tryz.prog w = .ok (found i s ns n) w
  | [], i, s, ns, h => by
    cases ns with
    | nil => rfl
    | cons m r => simp [HasKeys, pairs] at h
  | e :: es, i, s, ns, h => by
    cases ns with
    | nil => simp [HasKeys, pairs] at h
    | cons m r =>
      simp only [HasKeys, pairs, List.map_cons, List.cons.injEq, Prod.mk.injEq] at h
      obtain ⟨⟨hk, hv⟩, hr⟩ := h
      simp only [Instr.findAsking, Sem.run_bind, hk, key_eq, Result.andThen_ok, found_cons]
      by_cases hnm : n = m
      · simp [hnm, hv]
      · simp only [hnm, decide_false, Bool.false_eq_true, if_false]
        exact find_run n w es (i + 1) (s + 1) r hr

theorem findKey_run (n : Nd) (w : World) (es : List MapEntry) (ns : List Nd) (h : HasKeys es 0 ns) :
    (Instr.findKey 168 n.keyVal es).run Tryz.prog w = .ok (found 0 0 ns n) w := by
  have hu : ∃ fs, Tryz.prog.underlying 168 = some (.struct fs) := ⟨_, Tryz.underlying168⟩
  obtain ⟨fs, hu⟩ := hu
  simp only [Instr.findKey, Sem.run_bind, run_underlying hu, Result.andThen_ok]
  cases es with
  | nil =>
    cases ns with
    | nil => rfl
    | cons m r => simp [HasKeys, pairs] at h
  | cons e es' =>
    have : Instr.findNow (.struct fs) n.keyVal (e :: es') 0 = none := by
      simp [Instr.findNow, Instr.sameNow]
    rw [this]
    exact find_run n w _ 0 0 ns h

theorem checkKey_run (n : Nd) (b : Bool) (w : World) : (Instr.checkKey b 10000 168 n.keyVal).run Tryz.prog w = .ok () w := by
  obtain ⟨k, f, a, c⟩ := n
  cases b <;> kernel_rfl

/-- What a look-up with ok gives. -/
def lookVal (ns : List Nd) (n : Nd) : Value := .tuple #[.int .i64 (if n ∈ ns then (ns.idxOf n : Int) else 0), .bool (decide (n ∈ ns))]

theorem look_some (n : Nd) (w : World) (m : Nat) (es : Array MapEntry) (clock : Nat) (ns : List Nd) (hm : w.heap[m]? = some (.map es clock)) (h : HasKeys es.toList 0 ns) :
    (Instr.lookup 98 (.map (some m)) n.keyVal true).run Tryz.prog w = .ok (lookVal ns n) w := by
  have hz : (zeroValue 3).run Tryz.prog w = .ok (.int .i64 0) w := by kernel_rfl
  simp only [Instr.lookup, Sem.run_bind, run_underlying Tryz.underlying98, Result.andThen_ok, MapKept.run_getObj_map hm, Sem.run_pure, checkKey_run, findKey_run n w es.toList ns h]
  unfold found lookVal
  by_cases hn : n ∈ ns
  · simp [hn]
  · simp [hn, hz]

theorem look_hit (n : Nd) (w : World) (m : Nat) (es : Array MapEntry) (clock : Nat) (ns : List Nd) (hm : w.heap[m]? = some (.map es clock)) (h : HasKeys es.toList 0 ns) (hn : n ∈ ns) :
    (Instr.lookup 98 (.map (some m)) (.agg #[.int .i64 n.k, .int .i64 n.a, .int .i64 n.b, .int .u64 (n.f : Int)]) true).run Tryz.prog w = .ok (.tuple #[.int .i64 (ns.idxOf n : Int), .bool true]) w := by
  have := look_some n w m es clock ns hm h
  simpa [lookVal, hn, Nd.keyVal] using this
theorem look_miss (n : Nd) (w : World) (m : Nat) (es : Array MapEntry) (clock : Nat) (ns : List Nd) (hm : w.heap[m]? = some (.map es clock)) (h : HasKeys es.toList 0 ns) (hn : n ∉ ns) :
    (Instr.lookup 98 (.map (some m)) (.agg #[.int .i64 n.k, .int .i64 n.a, .int .i64 n.b, .int .u64 (n.f : Int)]) true).run Tryz.prog w = .ok (.tuple #[.int .i64 0, .bool false]) w := by
  have := look_some n w m es clock ns hm h
  simpa [lookVal, hn, Nd.keyVal] using this
theorem look_none (n : Nd) (w : World) : (Instr.lookup 98 (.map none) n.keyVal true).run Tryz.prog w = .ok (.tuple #[.int .i64 0, .bool false]) w := by
  have hz : (zeroValue 3).run Tryz.prog w = .ok (.int .i64 0) w := by kernel_rfl
  have hk : (Instr.findKey 168 n.keyVal (#[] : Array MapEntry).toList).run Tryz.prog w = .ok none w := findKey_run n w [] [] rfl
  simp only [Instr.lookup, Sem.run_bind, run_underlying Tryz.underlying98, Result.andThen_ok, Sem.run_pure, checkKey_run, hk]
  simp [hz]

theorem look_none' (n : Nd) (w : World) : (Instr.lookup 98 (.map none) (.agg #[.int .i64 n.k, .int .i64 n.a, .int .i64 n.b, .int .u64 (n.f : Int)]) true).run Tryz.prog w = .ok (.tuple #[.int .i64 0, .bool false]) w := look_none n w

theorem upd_run (n : Nd) (x : Int) (w : World) (m : Nat) (es : Array MapEntry) (clock : Nat) (ns : List Nd) (hm : w.heap[m]? = some (.map es clock)) (h : HasKeys es.toList 0 ns) (hn : n ∉ ns) :
    (Instr.mapUpdate 98 (.map (some m)) n.keyVal (.int .i64 x)).run Tryz.prog w = .ok () { w with heap := w.heap.setIfInBounds m (.map (es.push { key := n.keyVal, val := .int .i64 x, born := clock }) (clock + 1)) } := by
  simp only [Instr.mapUpdate, Sem.run_bind, run_underlying Tryz.underlying98, Result.andThen_ok, MapKept.run_getObj_map hm, checkKey_run, findKey_run n w es.toList ns h]
  unfold found
  rw [if_neg hn]
  exact MapKept.run_setObj_map _ hm

theorem upd_run' (n : Nd) (x : Int) (w : World) (m : Nat) (es : Array MapEntry) (clock : Nat) (ns : List Nd) (hm : w.heap[m]? = some (.map es clock)) (h : HasKeys es.toList 0 ns) (hn : n ∉ ns) :
    (Instr.mapUpdate 98 (.map (some m)) (.agg #[.int .i64 n.k, .int .i64 n.a, .int .i64 n.b, .int .u64 (n.f : Int)]) (.int .i64 x)).run Tryz.prog w =
      .ok () { w with heap := w.heap.setIfInBounds m (.map (es.push { key := n.keyVal, val := .int .i64 x, born := clock }) (clock + 1)) } := upd_run n x w m es clock ns hm h hn

theorem upd_only (w : World) (m : Nat) (o : Obj) : Only [m] w { w with heap := w.heap.setIfInBounds m o } :=
  ⟨rfl, rfl, rfl, by simp, fun k _ hn => by
    have : m ≠ k := fun e => hn (by simp [e])
    simp [this]⟩

theorem upd_keys (n : Nd) (w : World) (m : Nat) (es : Array MapEntry) (clock : Nat) (ns : List Nd) (hm : w.heap[m]? = some (.map es clock)) (h : HasKeys es.toList 0 ns) :
    ∃ es' clock', (({ w with heap := w.heap.setIfInBounds m (.map (es.push { key := n.keyVal, val := .int .i64 (ns.length : Int), born := clock }) (clock + 1)) } : World)).heap[m]? = some (.map es' clock') ∧ HasKeys es'.toList 0 (ns ++ [n]) := by
  refine ⟨es.push { key := n.keyVal, val := .int .i64 (ns.length : Int), born := clock }, clock + 1, ?_, ?_⟩
  · have := lt_of_heap hm
    simp [this]
  unfold HasKeys at *
  rw [pairs_snoc, Array.toList_push, List.map_append, h]
  simp

theorem upd_all (n : Nd) (w : World) (m : Nat) (es : Array MapEntry) (clock : Nat) (ns : List Nd) (hm : w.heap[m]? = some (.map es clock)) (h : HasKeys es.toList 0 ns) (hn : n ∉ ns) :
    ∃ w', (Instr.mapUpdate 98 (.map (some m)) (.agg #[.int .i64 n.k, .int .i64 n.a, .int .i64 n.b, .int .u64 (n.f : Int)]) (.int .i64 (ns.length : Int))).run Tryz.prog w = .ok () w' ∧ Only [m] w w' ∧
      ∃ es' clock', w'.heap[m]? = some (.map es' clock') ∧ HasKeys es'.toList 0 (ns ++ [n]) :=
  ⟨_, upd_run' n _ w m es clock ns hm h hn, upd_only w m _, upd_keys n w m es clock ns hm h⟩

/-- A dag at block b: its nodes in the row of v, its map (if it has one) in block r. -/
structure DagIs (w : World) (b : Nat) (v : Value) (r : Option Nat) (ns : List Nd) : Prop where
  blk : Blk w b 100 [v, .map r]
  row : w.ownsRow 0 95 4 v ns.length (flat ns)
  map : ∀ m, r = some m → ∃ es clock, w.heap[m]? = some (.map es clock) ∧ HasKeys es.toList 0 ns
  nodup : r ≠ none → ns.Nodup

/-- The blocks of a dag. -/
def foot (b : Nat) (v : Value) (r : Option Nat) : List Nat := b :: (v.ownBlock.toList ++ r.toList)

theorem ownsRow_only {w w' : World} {S : List Nat} {base : Nat} {e : TypeId} {size : Nat} {v : Value} {n : Nat} {xs : List Value} (h : w.ownsRow base e size v n xs) (ho : Only S w w') (hn : ∀ g, v.ownBlock = some g → g ∉ S) :
    w'.ownsRow base e size v n xs := by
  refine ⟨h.1, ?_⟩
  rcases h.2 with h0 | ⟨g, cap, cur, rfl, hb, hg, rest⟩
  · exact .inl h0
  · exact .inr ⟨g, cap, cur, rfl, hb, ho.heap hg (hn g rfl), rest⟩

theorem DagIs.only {w w' : World} {S : List Nat} {b : Nat} {v : Value} {r : Option Nat} {ns : List Nd} (h : DagIs w b v r ns) (ho : Only S w w') (hn : ∀ k ∈ foot b v r, k ∉ S) : DagIs w' b v r ns :=
  ⟨h.blk.only ho (hn b (by simp [foot])), ownsRow_only h.row ho (fun g hg => hn g (by simp [foot, hg])), fun m hm => by
    obtain ⟨es, clock, h1, h2⟩ := h.map m hm
    exact ⟨es, clock, ho.heap h1 (hn m (by simp [foot, hm])), h2⟩, h.nodup⟩

theorem DagIs.lt {w : World} {b : Nat} {v : Value} {r : Option Nat} {ns : List Nd} (h : DagIs w b v r ns) : ∀ k ∈ foot b v r, k < w.heap.size := by
  intro k hk
  simp only [foot, List.mem_cons, List.mem_append, Option.mem_toList] at hk
  rcases hk with rfl | hk | hk
  · exact h.blk.lt
  · exact (h.row.lt k hk).2
  · obtain ⟨es, clock, h1, _⟩ := h.map k hk
    exact lt_of_heap h1
end Go.Proofs.YtigpnopeacicpaaGreatDoor

/-
  takes, New, Put: what each does to a dag.
-/
namespace Go.Proofs.YtigpnopeacicpaaGreatDoor
open Go.RowKit

theorem box_cells {w w' : World} {S : List Nat} {g : Nat} {t : TypeId} {x0 x1 x2 x3 : Value} (h : Blk w g t [x0, x1, x2, x3]) (ho : Only S w w') (hn : g ∉ S) :
    w'.cell? ⟨g, 0, none⟩ = some x0 ∧ w'.cell? ⟨g, 1, none⟩ = some x1 ∧ w'.cell? ⟨g, 2, none⟩ = some x2 ∧ w'.cell? ⟨g, 3, none⟩ = some x3 := by
  have hb := h.only ho hn
  exact ⟨hb.cell 0, hb.cell 1, hb.cell 2, hb.cell 3⟩

set_option maxHeartbeats 800000 in
theorem takes_any (d : Nat) (A : Option Addr) (n c : Nat) (k : Int) (f : Nat) (a b : Int) (w : World) (hf : Hid (f < 2 ^ 64)) (h0 : w.cell? ⟨d, 0, none⟩ = some (.slice A n c)) :
    Calls Tryz.prog 137 #[.pointer (some ⟨d, 0, none⟩), .agg #[.int .i64 k, .float .f64 f, .int .i64 a, .int .i64 b]] w fun e w' => e = .returned (.bool (takesB n k f a b)) ∧ Only [] w w' := by
  go_enter Tryz.func137, Tryz.ntmps137
  go_wp2_with fail
  refine (cvalid_any k f a b _).mono ?_
  rintro e w1 ⟨rfl, ho⟩
  obtain ⟨k0, k1, k2, k3⟩ := box_cells (Blk.new w 95 [.int .i64 k, .float .f64 f, .int .i64 a, .int .i64 b]) ho (by simp)
  have c0 := (ho.cell (p := ⟨d, 0, none⟩) ((((Only.refl [] w).alloc (.cells #[.int .i64 k, .float .f64 f, .int .i64 a, .int .i64 b] 95))).cell h0 (by simp)) (by simp))
  have ho' : Hid (Only [] w w1) := ((Only.refl [] w).alloc _).nil_trans ho
  clear ho h0
  cases hv : validB k f a b
  · go_wp2_with fail
    go_ret
    exact ⟨by simp [takesB, hv], ho'.out⟩
  · by_cases hk0 : k = 0
    · subst hk0
      go_wp2_with (go_at_call 160; (with_reducible refine (finite_any f hf.out _).mono ?_); rintro e w' ⟨rfl, rfl⟩)
      go_ret
      exact ⟨by simp [takesB, hv], ho'.out⟩
    · by_cases hk5 : k = 5
      · subst hk5
        go_wp2_with (go_at_call 120; (with_reducible refine (has_any d A n c _ _ c0).mono ?_); rintro e w' ⟨rfl, rfl⟩)
        go_ret
        exact ⟨by simp [takesB, hv], ho'.out⟩
      · have e0 : (k == 0) = false := by simpa using hk0
        have e5 : (k == 5) = false := by simpa using hk5
        go_wp2_with (go_at_call 120; (with_reducible refine (has_any d A n c _ _ c0).mono ?_); rintro e w' ⟨rfl, rfl⟩)
        all_goals go_ret
        all_goals (refine ⟨?_, ho'.out⟩)
        all_goals (simp_all [takesB])

set_option maxHeartbeats 800000 in
theorem new_any (same : Bool) (w : World) :
    Calls Tryz.prog 35 #[.bool same] w fun e w' => ∃ r, e = .returned (.pointer (some ⟨w.heap.size, 0, none⟩)) ∧ DagIs w' w.heap.size (.slice none 0 0) r [] ∧ (r = none ↔ same = false) ∧
      (∀ m, r = some m → w.heap.size ≤ m) ∧ Only [] w w' := by
  have hmm := @run_makeMap Tryz.prog
  cases same
  · go_enter Tryz.func35, Tryz.ntmps35
    go_wp2
    go_ret
    refine ⟨none, rfl, ⟨Blk.new w 100 [.slice none 0 0, .map none], World.ownsRow_nil _ 0 95 4, by simp, by simp⟩, by simp, by simp, (Only.refl [] w).alloc _⟩
  · go_enter Tryz.func35, Tryz.ntmps35
    go_wp2
    go_ret
    refine ⟨some (w.heap.size + 1), rfl, ⟨(Blk.new w 100 [.slice none 0 0, .map (some (w.heap.size + 1))]).alloc _, World.ownsRow_nil _ 0 95 4, ?_, by simp⟩, by simp, by simp, ((Only.refl [] w).alloc _).alloc _⟩
    intro m hm
    obtain rfl : w.heap.size + 1 = m := by simpa using hm
    refine ⟨#[], 0, ?_, rfl⟩
    have := heap_alloc_new (w.alloc (.cells #[.slice none 0 0, .map (some (w.heap.size + 1))] 100)) (.map #[] 0)
    simpa using this
end Go.Proofs.YtigpnopeacicpaaGreatDoor

/-
  Put: what it does to a dag.
-/
namespace Go.Proofs.YtigpnopeacicpaaGreatDoor
open Go.RowKit

def putId (r : Option Nat) (ns : List Nd) (n : Nd) : Int :=
  if takesB ns.length n.k n.f n.a n.b = true then (if r ≠ none ∧ n ∈ ns then (ns.idxOf n : Int) else (ns.length : Int)) else -1
def putNs (r : Option Nat) (ns : List Nd) (n : Nd) : List Nd :=
  if takesB ns.length n.k n.f n.a n.b = true then (if r ≠ none ∧ n ∈ ns then ns else ns ++ [n]) else ns

def PutPost (d : Nat) (v : Value) (r : Option Nat) (ns : List Nd) (n : Nd) (w : World) (e : Ending) (w' : World) : Prop :=
  ∃ ev v', e = .returned (.tuple #[.int .i64 (putId r ns n), ev]) ∧ DagIs w' d v' r (putNs r ns n) ∧ (v'.ownBlock = v.ownBlock ∨ ∃ g, w.heap.size ≤ g ∧ v'.ownBlock = some g) ∧
    Only (foot d v r) w w' ∧ (if takesB ns.length n.k n.f n.a n.b = true then ev = .nilIface else IsAt w w' (ns.length : Int) (.iface 188 (.int .i64 1)) ev)

theorem IsAt.old {w0 w w' : World} {i : Int} {err v : Value} (h : IsAt w w' i err v) (hs : w0.heap.size ≤ w.heap.size) : IsAt w0 w' i err v := by
  obtain ⟨g, h1, h2, h3⟩ := h
  exact ⟨g, by omega, h2, h3⟩
theorem IsAt.drewN {w w' : World} {i : Int} {err v : Value} (h : IsAt w w' i err v) (n : Nat) : IsAt w (w'.drewN n) i err v := h
theorem IsAt.drew {w w' : World} {i : Int} {err v : Value} (h : IsAt w w' i err v) : IsAt w w'.drew i err v := h

theorem DagIs.shape {w : World} {d : Nat} {v : Value} {r : Option Nat} {ns : List Nd} (h : DagIs w d v r ns) : ∃ A c, v = .slice A ns.length c := by
  rcases h.row.2 with ⟨rfl, h0⟩ | ⟨g, cap, cur, rfl, _⟩
  · exact ⟨none, 0, by rw [h0]⟩
  · exact ⟨_, _, rfl⟩

set_option maxHeartbeats 800000 in
theorem put_bad (d : Nat) (v : Value) (r : Option Nat) (ns : List Nd) (k : Int) (f : Nat) (a b : Int) (w : World) (hf : Hid (f < 2 ^ 64)) (hd : DagIs w d v r ns)
    (ht : takesB ns.length k f a b = false) :
    Calls Tryz.prog 113 #[.pointer (some ⟨d, 0, none⟩), .agg #[.int .i64 k, .float .f64 f, .int .i64 a, .int .i64 b]] w (PutPost d v r ns ⟨k, f, a, b⟩ w) := by
  obtain ⟨A, c, rfl⟩ := hd.shape
  have h0 : w.cell? ⟨d, 0, none⟩ = some (.slice A ns.length c) := hd.blk.cell 0
  have hB := Blk.new w 95 [.int .i64 k, .float .f64 f, .int .i64 a, .int .i64 b]
  have ho0 := (Only.refl [] w).alloc (.cells #[.int .i64 k, .float .f64 f, .int .i64 a, .int .i64 b] 95)
  have h0' := ho0.cell h0 (by simp)
  go_enter Tryz.func113, Tryz.ntmps113
  go_wp2_with fail
  refine (takes_any d A ns.length c k f a b _ hf h0').mono ?_
  rintro e w1 ⟨rfl, ho⟩
  have c0 := ho.cell h0' (by simp)
  have ho1 : Hid (Only [] w w1) := ho0.nil_trans ho
  clear ho h0' hB ho0
  go_wp2_with fail
  go_region_held3 (fun w' => w'.cell? ⟨d, 0, none⟩ = some (.slice A ns.length c)) (go_keep)
    (first | (go_at_call 136; refine (malformed_any _).mono ?_; rintro e w' ⟨rfl, rfl⟩) | (go_at_call 138; refine (node_any _ _ _ _).mono ?_; rintro e w2 ⟨ev, rfl, hat, ho2⟩; have c2 := ho2.cell (p := ⟨d, 0, none⟩) c0 (by simp)))
  go_wp2_with fail
  go_ret2
  have hT : Only [] w w2 := ho1.out.nil_trans ((Only.refl [] w1).drew.nil_trans ho2)
  have e1 : putId r ns ⟨k, f, a, b⟩ = -1 := by simp [putId, ht]
  have e2 : putNs r ns ⟨k, f, a, b⟩ = ns := by simp [putNs, ht]
  refine ⟨ev, .slice A ns.length c, by rw [e1]; rfl, by rw [e2]; exact hd.only hT (by simp), .inl rfl, hT.mono (by simp), ?_⟩
  rw [if_neg (by simp [ht])]
  exact hat.old ho1.out.size

set_option maxHeartbeats 800000 in
/-- Put of a node that is there already, where equal ones are shared. -/
theorem put_found (d : Nat) (v : Value) (m : Nat) (ns : List Nd) (k : Int) (f : Nat) (a b : Int) (w : World) (hf : Hid (f < 2 ^ 64)) (hd : DagIs w d v (some m) ns)
    (ht : takesB ns.length k f a b = true) (hn : (⟨k, f, a, b⟩ : Nd) ∈ ns) :
    Calls Tryz.prog 113 #[.pointer (some ⟨d, 0, none⟩), .agg #[.int .i64 k, .float .f64 f, .int .i64 a, .int .i64 b]] w (PutPost d v (some m) ns ⟨k, f, a, b⟩ w) := by
  obtain ⟨A, c, rfl⟩ := hd.shape
  obtain ⟨es, clock, hm', hkeys'⟩ := hd.map m rfl
  have hm := Lib.hid hm'
  have hkeys := Lib.hid hkeys'
  have hin := Lib.hid hn
  clear hm' hkeys' hn
  have h0 : w.cell? ⟨d, 0, none⟩ = some (.slice A ns.length c) := hd.blk.cell 0
  have hB := Blk.new w 95 [.int .i64 k, .float .f64 f, .int .i64 a, .int .i64 b]
  have ho0 := (Only.refl [] w).alloc (.cells #[.int .i64 k, .float .f64 f, .int .i64 a, .int .i64 b] 95)
  have h0' := ho0.cell h0 (by simp)
  go_enter Tryz.func113, Tryz.ntmps113
  go_wp2_with fail
  refine (takes_any d A ns.length c k f a b _ hf h0').mono ?_
  rintro e w1 ⟨rfl, ho⟩
  obtain ⟨k0, k1, k2, k3⟩ := box_cells hB ho (by simp)
  have ho1 : Hid (Only [] w w1) := ho0.nil_trans ho
  have c1 : w1.cell? ⟨d, 1, none⟩ = some (.map (some m)) := ho1.out.cell (hd.blk.cell 1) (by simp)
  clear ho h0' hB ho0 h0
  go_wp2_with fail
  go_region_held3 (fun w' => w'.cell? ⟨d, 1, none⟩ = some (.map (some m)) ∧ w'.cell? ⟨w.heap.size, 0, none⟩ = some (.int .i64 k) ∧ w'.cell? ⟨w.heap.size, 1, none⟩ = some (.float .f64 f) ∧ w'.cell? ⟨w.heap.size, 2, none⟩ = some (.int .i64 a) ∧ w'.cell? ⟨w.heap.size, 3, none⟩ = some (.int .i64 b)) (go_keep)
    (first | (go_at_call 139; refine (keyOf_any _ _ _ _ _).mono ?_; rintro e w2 ⟨rfl, ho2⟩; have c2 := ho2.cell (p := ⟨d, 1, none⟩) c1 (by simp); have q0 := ho2.cell k0 (by simp); have q1 := ho2.cell k1 (by simp); have q2 := ho2.cell k2 (by simp); have q3 := ho2.cell k3 (by simp); have hlk := look_hit _ w2 m es clock ns (ho2.heap (ho1.out.heap hm.out (by simp)) (by simp)) hkeys.out hin.out))
  go_wp2_with fail
  go_ret2
  have hT : Only [] w w2 := ho1.out.nil_trans ((Only.refl [] w1).drew.nil_trans ho2)
  have e1 : putId (some m) ns ⟨k, f, a, b⟩ = (ns.idxOf (⟨k, f, a, b⟩ : Nd) : Int) := by simp [putId, ht, hin.out]
  have e2 : putNs (some m) ns ⟨k, f, a, b⟩ = ns := by simp [putNs, hin.out]
  refine ⟨.nilIface, .slice A ns.length c, by rw [e1]; rfl, by rw [e2]; exact hd.only hT (by simp), .inl rfl, hT.mono (by simp), ?_⟩
  rw [if_pos (by simp [ht])]
end Go.Proofs.YtigpnopeacicpaaGreatDoor
