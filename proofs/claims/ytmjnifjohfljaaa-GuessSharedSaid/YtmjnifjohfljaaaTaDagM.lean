/-
  THE MAP OF A DAG: the run of a look-up and of a store, over the very entries. WHAT A DAG IS in memory ('DagIs').
-/
import Derived.Test.YtmjnifjohfljaaaTaDagA
import Derived.Maps.OwnSet
import Derived.MapKept
namespace Go.Proofs.Ytmjnifjohfljaaa
open Go.RowKit

theorem key_eq (n m : Nd) (w : World) : (Op.equal 76 n.keyVal m.keyVal).run Try.prog w = .ok (decide (n = m)) w := by
  obtain ⟨k, f, a, b⟩ := n
  obtain ⟨k', f', a', b'⟩ := m
  have e : decide ((⟨k, f, a, b⟩ : Nd) = ⟨k', f', a', b'⟩) = (k == k' && (a == a' && (b == b' && ((f : Int) == (f' : Int))))) := by
    rw [Bool.eq_iff_iff]; simp; omega
  rw [e]
  simp only [Op.equal, Nd.keyVal]
  rw [show Op.maxDepth = 9999 + 1 from rfl, run_equalIn_struct w 9999 76 _ _ (by kernel_rfl) (by kernel_rfl)]
  have hl : (Try.prog.fieldsOf 76).toList.map (fun f => (f.type, f.offset, (f.name != "_"))) = [(3, 0, true), (3, 1, true), (3, 2, true), (56, 3, true)] := by kernel_rfl
  have hp0 : ∀ (x y z u : Value) (w : World), (part 3 #[x, y, z, u] 0).run Try.prog w = .ok x w := fun _ _ _ _ _ => by kernel_rfl
  have hp1 : ∀ (x y z u : Value) (w : World), (part 3 #[x, y, z, u] 1).run Try.prog w = .ok y w := fun _ _ _ _ _ => by kernel_rfl
  have hp2 : ∀ (x y z u : Value) (w : World), (part 3 #[x, y, z, u] 2).run Try.prog w = .ok z w := fun _ _ _ _ _ => by kernel_rfl
  have hp3 : ∀ (x y z u : Value) (w : World), (part 56 #[x, y, z, u] 3).run Try.prog w = .ok u w := fun _ _ _ _ _ => by kernel_rfl
  generalize (Try.prog.fieldsOf 76).toList = fs at hl ⊢
  obtain ⟨f0, f1, f2, f3, rfl⟩ : ∃ f0 f1 f2 f3, fs = [f0, f1, f2, f3] := by
    have hlen := congrArg List.length hl
    simp only [List.length_map, List.length_cons, List.length_nil] at hlen
    match fs, hlen with
    | [f0, f1, f2, f3], _ => exact ⟨_, _, _, _, rfl⟩
  simp only [List.map_cons, List.map_nil, List.cons.injEq, Prod.mk.injEq, and_true] at hl
  obtain ⟨⟨t0, o0, n0⟩, ⟨t1, o1, n1⟩, ⟨t2, o2, n2⟩, ⟨t3, o3, n3⟩⟩ := hl
  have n0' := (bne_iff_ne).1 n0
  have n1' := (bne_iff_ne).1 n1
  have n2' := (bne_iff_ne).1 n2
  have n3' := (bne_iff_ne).1 n3
  have q : ∀ (x y : Int) (k : IntKind) (t : TypeId) (kk : IntKind), Try.prog.underlying t = some (.int kk) → (Op.equalIn 9999 t (.int k x) (.int k y)).run Try.prog w = .ok (x == y) w := fun x y k t kk h => run_equalIn_int w 9998 t k kk x y h
  have qi := fun (x y : Int) => q x y .i64 _ _ Try.underlying3
  have qu := fun (x y : Int) => q x y .u64 _ _ Try.underlying56
  clear q e
  simp only [Op.eqFields, t0, o0, n0', t1, o1, n1', t2, o2, n2', t3, o3, n3', ne_eq, not_false_eq_true, if_true, Sem.run_bind, Sem.run_ite, Sem.run_pure, hp0, hp1, hp2, hp3, Result.andThen_ok, qi, qu]
  generalize (k == k') = c1
  generalize (a == a') = c2
  generalize (b == b') = c3
  generalize ((f : Int) == (f' : Int)) = c4
  cases c1 <;> cases c2 <;> cases c3 <;> cases c4 <;> rfl

/-- Keys with their ids, as the map has them. -/
def pairs : Nat → List Nd → List (Value × Value)
  | _, [] => []
  | i, n :: r => (n.keyVal, .int .i64 (i : Int)) :: pairs (i + 1) r
def HasKeys (es : List MapEntry) (s : Nat) (ns : List Nd) : Prop := es.map (fun e => (e.key, e.val)) = pairs s ns

theorem pairs_snoc (n : Nd) : ∀ (ns : List Nd) (s : Nat), pairs s (ns ++ [n]) = pairs s ns ++ [(n.keyVal, .int .i64 ((s + ns.length : Nat) : Int))]
  | [], s => by simp [pairs]
  | m :: r, s => by
    have h : s + 1 + r.length = s + (r.length + 1) := by omega
    simp [pairs, pairs_snoc n r (s + 1), h]

def found (i s : Nat) (ns : List Nd) (n : Nd) : Option (Nat × Value) := if n ∈ ns then some (i + ns.idxOf n, .int .i64 ((s + ns.idxOf n : Nat) : Int)) else none

theorem found_cons (i s : Nat) (m : Nd) (ns : List Nd) (n : Nd) : found i s (m :: ns) n = if n = m then some (i, .int .i64 (s : Int)) else found (i + 1) (s + 1) ns n := by
  unfold found
  by_cases h : n = m
  · subst h; simp
  · have h' : ¬ m = n := fun e => h e.symm
    simp only [List.mem_cons, h, false_or, if_false]
    by_cases hm : n ∈ ns
    · have hb : (m == n) = false := by simpa using h'
      have e1 : (m :: ns).idxOf n = ns.idxOf n + 1 := by rw [List.idxOf_cons, hb]; rfl
      rw [if_pos hm, if_pos hm, e1]
      have e2 : i + (ns.idxOf n + 1) = i + 1 + ns.idxOf n := by omega
      have e3 : s + (ns.idxOf n + 1) = s + 1 + ns.idxOf n := by omega
      rw [e2, e3]
    · rw [if_neg hm, if_neg hm]

theorem find_run (n : Nd) (w : World) : ∀ (es : List MapEntry) (i s : Nat) (ns : List Nd), HasKeys es s ns →
    (Instr.findAsking 76 n.keyVal es i).run Try.prog w = .ok (found i s ns n) w
  | [], i, s, ns, h => by
    cases ns with
    | nil => rfl
    | cons m r => simp [HasKeys, pairs] at h
  | e :: es, i, s, ns, h => by
    cases ns with
    | nil => simp [HasKeys, pairs] at h
    | cons m r =>
      simp only [HasKeys, pairs, List.map_cons, List.cons.injEq, Prod.mk.injEq] at h
      obtain ⟨⟨hk, hv⟩, hr⟩ := h
      simp only [Instr.findAsking, Sem.run_bind, hk, key_eq, Result.andThen_ok, found_cons]
      by_cases hnm : n = m
      · simp [hnm, hv]
      · simp only [hnm, decide_false, Bool.false_eq_true, if_false]
        exact find_run n w es (i + 1) (s + 1) r hr

theorem findKey_run (n : Nd) (w : World) (es : List MapEntry) (ns : List Nd) (h : HasKeys es 0 ns) :
    (Instr.findKey 76 n.keyVal es).run Try.prog w = .ok (found 0 0 ns n) w := by
  have hu : ∃ fs, Try.prog.underlying 76 = some (.struct fs) := ⟨_, Try.underlying76⟩
  obtain ⟨fs, hu⟩ := hu
  simp only [Instr.findKey, Sem.run_bind, run_underlying hu, Result.andThen_ok]
  cases es with
  | nil =>
    cases ns with
    | nil => rfl
    | cons m r => simp [HasKeys, pairs] at h
  | cons e es' =>
    have : Instr.findNow (.struct fs) n.keyVal (e :: es') 0 = none := by
      simp [Instr.findNow, Instr.sameNow]
    rw [this]
    exact find_run n w _ 0 0 ns h

theorem checkKey_run (n : Nd) (b : Bool) (w : World) : (Instr.checkKey b 10000 76 n.keyVal).run Try.prog w = .ok () w := by
  obtain ⟨k, f, a, c⟩ := n
  cases b <;> kernel_rfl

/-- What a look-up with ok gives. -/
def lookVal (ns : List Nd) (n : Nd) : Value := .tuple #[.int .i64 (if n ∈ ns then (ns.idxOf n : Int) else 0), .bool (decide (n ∈ ns))]

theorem look_some (n : Nd) (w : World) (m : Nat) (es : Array MapEntry) (clock : Nat) (ns : List Nd) (hm : w.heap[m]? = some (.map es clock)) (h : HasKeys es.toList 0 ns) :
    (Instr.lookup 67 (.map (some m)) n.keyVal true).run Try.prog w = .ok (lookVal ns n) w := by
  have hz : (zeroValue 3).run Try.prog w = .ok (.int .i64 0) w := by kernel_rfl
  simp only [Instr.lookup, Sem.run_bind, run_underlying Try.underlying67, Result.andThen_ok, MapKept.run_getObj_map hm, Sem.run_pure, checkKey_run, findKey_run n w es.toList ns h]
  unfold found lookVal
  by_cases hn : n ∈ ns
  · simp [hn]
  · simp [hn, hz]

theorem look_hit (n : Nd) (w : World) (m : Nat) (es : Array MapEntry) (clock : Nat) (ns : List Nd) (hm : w.heap[m]? = some (.map es clock)) (h : HasKeys es.toList 0 ns) (hn : n ∈ ns) :
    (Instr.lookup 67 (.map (some m)) (.agg #[.int .i64 n.k, .int .i64 n.a, .int .i64 n.b, .int .u64 (n.f : Int)]) true).run Try.prog w = .ok (.tuple #[.int .i64 (ns.idxOf n : Int), .bool true]) w := by
  have := look_some n w m es clock ns hm h
  simpa [lookVal, hn, Nd.keyVal] using this
theorem look_miss (n : Nd) (w : World) (m : Nat) (es : Array MapEntry) (clock : Nat) (ns : List Nd) (hm : w.heap[m]? = some (.map es clock)) (h : HasKeys es.toList 0 ns) (hn : n ∉ ns) :
    (Instr.lookup 67 (.map (some m)) (.agg #[.int .i64 n.k, .int .i64 n.a, .int .i64 n.b, .int .u64 (n.f : Int)]) true).run Try.prog w = .ok (.tuple #[.int .i64 0, .bool false]) w := by
  have := look_some n w m es clock ns hm h
  simpa [lookVal, hn, Nd.keyVal] using this
theorem look_none (n : Nd) (w : World) : (Instr.lookup 67 (.map none) n.keyVal true).run Try.prog w = .ok (.tuple #[.int .i64 0, .bool false]) w := by
  have hz : (zeroValue 3).run Try.prog w = .ok (.int .i64 0) w := by kernel_rfl
  have hk : (Instr.findKey 76 n.keyVal (#[] : Array MapEntry).toList).run Try.prog w = .ok none w := findKey_run n w [] [] rfl
  simp only [Instr.lookup, Sem.run_bind, run_underlying Try.underlying67, Result.andThen_ok, Sem.run_pure, checkKey_run, hk]
  simp [hz]

theorem look_none' (n : Nd) (w : World) : (Instr.lookup 67 (.map none) (.agg #[.int .i64 n.k, .int .i64 n.a, .int .i64 n.b, .int .u64 (n.f : Int)]) true).run Try.prog w = .ok (.tuple #[.int .i64 0, .bool false]) w := look_none n w

theorem upd_run (n : Nd) (x : Int) (w : World) (m : Nat) (es : Array MapEntry) (clock : Nat) (ns : List Nd) (hm : w.heap[m]? = some (.map es clock)) (h : HasKeys es.toList 0 ns) (hn : n ∉ ns) :
    (Instr.mapUpdate 67 (.map (some m)) n.keyVal (.int .i64 x)).run Try.prog w = .ok () { w with heap := w.heap.setIfInBounds m (.map (es.push { key := n.keyVal, val := .int .i64 x, born := clock }) (clock + 1)) } := by
  simp only [Instr.mapUpdate, Sem.run_bind, run_underlying Try.underlying67, Result.andThen_ok, MapKept.run_getObj_map hm, checkKey_run, findKey_run n w es.toList ns h]
  unfold found
  rw [if_neg hn]
  exact MapKept.run_setObj_map _ hm

theorem upd_run' (n : Nd) (x : Int) (w : World) (m : Nat) (es : Array MapEntry) (clock : Nat) (ns : List Nd) (hm : w.heap[m]? = some (.map es clock)) (h : HasKeys es.toList 0 ns) (hn : n ∉ ns) :
    (Instr.mapUpdate 67 (.map (some m)) (.agg #[.int .i64 n.k, .int .i64 n.a, .int .i64 n.b, .int .u64 (n.f : Int)]) (.int .i64 x)).run Try.prog w =
      .ok () { w with heap := w.heap.setIfInBounds m (.map (es.push { key := n.keyVal, val := .int .i64 x, born := clock }) (clock + 1)) } := upd_run n x w m es clock ns hm h hn

theorem upd_only (w : World) (m : Nat) (o : Obj) : Only [m] w { w with heap := w.heap.setIfInBounds m o } :=
  ⟨rfl, rfl, rfl, by simp, fun k _ hn => by
    have : m ≠ k := fun e => hn (by simp [e])
    simp [this]⟩

theorem upd_keys (n : Nd) (w : World) (m : Nat) (es : Array MapEntry) (clock : Nat) (ns : List Nd) (hm : w.heap[m]? = some (.map es clock)) (h : HasKeys es.toList 0 ns) :
    ∃ es' clock', (({ w with heap := w.heap.setIfInBounds m (.map (es.push { key := n.keyVal, val := .int .i64 (ns.length : Int), born := clock }) (clock + 1)) } : World)).heap[m]? = some (.map es' clock') ∧ HasKeys es'.toList 0 (ns ++ [n]) := by
  refine ⟨es.push { key := n.keyVal, val := .int .i64 (ns.length : Int), born := clock }, clock + 1, ?_, ?_⟩
  · have := lt_of_heap hm
    simp [this]
  unfold HasKeys at *
  rw [pairs_snoc, Array.toList_push, List.map_append, h]
  simp

theorem upd_all (n : Nd) (w : World) (m : Nat) (es : Array MapEntry) (clock : Nat) (ns : List Nd) (hm : w.heap[m]? = some (.map es clock)) (h : HasKeys es.toList 0 ns) (hn : n ∉ ns) :
    ∃ w', (Instr.mapUpdate 67 (.map (some m)) (.agg #[.int .i64 n.k, .int .i64 n.a, .int .i64 n.b, .int .u64 (n.f : Int)]) (.int .i64 (ns.length : Int))).run Try.prog w = .ok () w' ∧ Only [m] w w' ∧
      ∃ es' clock', w'.heap[m]? = some (.map es' clock') ∧ HasKeys es'.toList 0 (ns ++ [n]) :=
  ⟨_, upd_run' n _ w m es clock ns hm h hn, upd_only w m _, upd_keys n w m es clock ns hm h⟩

/-- A dag at block b: its nodes in the row of v, its map (if it has one) in block r. -/
structure DagIs (w : World) (b : Nat) (v : Value) (r : Option Nat) (ns : List Nd) : Prop where
  blk : Blk w b 69 [v, .map r]
  row : w.ownsRow 0 26 4 v ns.length (flat ns)
  map : ∀ m, r = some m → ∃ es clock, w.heap[m]? = some (.map es clock) ∧ HasKeys es.toList 0 ns
  nodup : r ≠ none → ns.Nodup

/-- The blocks of a dag. -/
def foot (b : Nat) (v : Value) (r : Option Nat) : List Nat := b :: (v.ownBlock.toList ++ r.toList)

theorem ownsRow_only {w w' : World} {S : List Nat} {base : Nat} {e : TypeId} {size : Nat} {v : Value} {n : Nat} {xs : List Value} (h : w.ownsRow base e size v n xs) (ho : Only S w w') (hn : ∀ g, v.ownBlock = some g → g ∉ S) :
    w'.ownsRow base e size v n xs := by
  refine ⟨h.1, ?_⟩
  rcases h.2 with h0 | ⟨g, cap, cur, rfl, hb, hg, rest⟩
  · exact .inl h0
  · exact .inr ⟨g, cap, cur, rfl, hb, ho.heap hg (hn g rfl), rest⟩

theorem DagIs.only {w w' : World} {S : List Nat} {b : Nat} {v : Value} {r : Option Nat} {ns : List Nd} (h : DagIs w b v r ns) (ho : Only S w w') (hn : ∀ k ∈ foot b v r, k ∉ S) : DagIs w' b v r ns :=
  ⟨h.blk.only ho (hn b (by simp [foot])), ownsRow_only h.row ho (fun g hg => hn g (by simp [foot, hg])), fun m hm => by
    obtain ⟨es, clock, h1, h2⟩ := h.map m hm
    exact ⟨es, clock, ho.heap h1 (hn m (by simp [foot, hm])), h2⟩, h.nodup⟩

theorem DagIs.lt {w : World} {b : Nat} {v : Value} {r : Option Nat} {ns : List Nd} (h : DagIs w b v r ns) : ∀ k ∈ foot b v r, k < w.heap.size := by
  intro k hk
  simp only [foot, List.mem_cons, List.mem_append, Option.mem_toList] at hk
  rcases hk with rfl | hk | hk
  · exact h.blk.lt
  · exact (h.row.lt k hk).2
  · obtain ⟨es, clock, h1, _⟩ := h.map k hk
    exact lt_of_heap h1
end Go.Proofs.Ytmjnifjohfljaaa
