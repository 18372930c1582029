/-
  Joined texts.
-/
import Derived.Test.YtigpnopeacicpaaDoorTbJ5
import Derived.Maps.OwnSet
import Derived.MapKept
/-
  THE MAP OF A DAG: the run of a look-up and of a store, over the very entries. WHAT A DAG IS in memory ('DagIs').
-/
namespace Go.Proofs.YtigpnopeacicpaaDoor
open Go.RowKit

theorem key_eq (n m : Nd) (w : World) : (Op.equal 156 n.keyVal m.keyVal).run Tryd.prog w = .ok (decide (n = m)) w := by
  obtain ⟨k, f, a, b⟩ := n
  obtain ⟨k', f', a', b'⟩ := m
  have e : decide ((⟨k, f, a, b⟩ : Nd) = ⟨k', f', a', b'⟩) = (k == k' && (a == a' && (b == b' && ((f : Int) == (f' : Int))))) := by
    rw [Bool.eq_iff_iff]; simp; omega
  rw [e]
  simp only [Op.equal, Nd.keyVal]
  rw [show Op.maxDepth = 9999 + 1 from rfl, run_equalIn_struct w 9999 156 _ _ (by kernel_rfl) (by kernel_rfl)]
  have hl : (Tryd.prog.fieldsOf 156).toList.map (fun f => (f.type, f.offset, (f.name != "_"))) = [(3, 0, true), (3, 1, true), (3, 2, true), (90, 3, true)] := by kernel_rfl
  have hp0 : ∀ (x y z u : Value) (w : World), (part 3 #[x, y, z, u] 0).run Tryd.prog w = .ok x w := fun _ _ _ _ _ => by kernel_rfl
  have hp1 : ∀ (x y z u : Value) (w : World), (part 3 #[x, y, z, u] 1).run Tryd.prog w = .ok y w := fun _ _ _ _ _ => by kernel_rfl
  have hp2 : ∀ (x y z u : Value) (w : World), (part 3 #[x, y, z, u] 2).run Tryd.prog w = .ok z w := fun _ _ _ _ _ => by kernel_rfl
  have hp3 : ∀ (x y z u : Value) (w : World), (part 90 #[x, y, z, u] 3).run Tryd.prog w = .ok u w := fun _ _ _ _ _ => by kernel_rfl
  generalize (Tryd.prog.fieldsOf 156).toList = fs at hl ⊢
  obtain ⟨f0, f1, f2, f3, rfl⟩ : ∃ f0 f1 f2 f3, fs = [f0, f1, f2, f3] := by
    have hlen := congrArg List.length hl
    simp only [List.length_map, List.length_cons, List.length_nil] at hlen
    match fs, hlen with
    | [f0, f1, f2, f3], _ => exact ⟨_, _, _, _, rfl⟩
  simp only [List.map_cons, List.map_nil, List.cons.injEq, Prod.mk.injEq, and_true] at hl
  obtain ⟨⟨t0, o0, n0⟩, ⟨t1, o1, n1⟩, ⟨t2, o2, n2⟩, ⟨t3, o3, n3⟩⟩ := hl
  have n0' := (bne_iff_ne).1 n0
  have n1' := (bne_iff_ne).1 n1
  have n2' := (bne_iff_ne).1 n2
  have n3' := (bne_iff_ne).1 n3
  have q : ∀ (x y : Int) (k : IntKind) (t : TypeId) (kk : IntKind), Tryd.prog.underlying t = some (.int kk) → (Op.equalIn 9999 t (.int k x) (.int k y)).run Tryd.prog w = .ok (x == y) w := fun x y k t kk h => run_equalIn_int w 9998 t k kk x y h
  have qi := fun (x y : Int) => q x y .i64 _ _ Tryd.underlying3
  have qu := fun (x y : Int) => q x y .u64 _ _ Tryd.underlying90
  clear q e
  simp only [Op.eqFields, t0, o0, n0', t1, o1, n1', t2, o2, n2', t3, o3, n3', ne_eq, not_false_eq_true, if_true, Sem.run_bind, Sem.run_ite, Sem.run_pure, hp0, hp1, hp2, hp3, Result.andThen_ok, qi, qu]
  generalize (k == k') = c1
  generalize (a == a') = c2
  generalize (b == b') = c3
  generalize ((f : Int) == (f' : Int)) = c4
  cases c1 <;> cases c2 <;> cases c3 <;> cases c4 <;> rfl

/-- Keys with their ids, as the map has them. -/
def pairs : Nat → List Nd → List (Value × Value)
  | _, [] => []
  | i, n :: r => (n.keyVal, .int .i64 (i : Int)) :: pairs (i + 1) r
def HasKeys (es : List MapEntry) (s : Nat) (ns : List Nd) : Prop := es.map (fun e => (e.key, e.val)) = pairs s ns

theorem pairs_snoc (n : Nd) : ∀ (ns : List Nd) (s : Nat), pairs s (ns ++ [n]) = pairs s ns ++ [(n.keyVal, .int .i64 ((s + ns.length : Nat) : Int))]
  | [], s => by simp [pairs]
  | m :: r, s => by
    have h : s + 1 + r.length = s + (r.length + 1) := by omega
    simp [pairs, pairs_snoc n r (s + 1), h]

def found (i s : Nat) (ns : List Nd) (n : Nd) : Option (Nat × Value) := if n ∈ ns then some (i + ns.idxOf n, .int .i64 ((s + ns.idxOf n : Nat) : Int)) else none

theorem found_cons (i s : Nat) (m : Nd) (ns : List Nd) (n : Nd) : found i s (m :: ns) n = if n = m then some (i, .int .i64 (s : Int)) else found (i + 1) (s + 1) ns n := by
  unfold found
  by_cases h : n = m
  · subst h; simp
  · have h' : ¬ m = n := fun e => h e.symm
    simp only [List.mem_cons, h, false_or, if_false]
    by_cases hm : n ∈ ns
    · have hb : (m == n) = false := by simpa using h'
      have e1 : (m :: ns).idxOf n = ns.idxOf n + 1 := by rw [List.idxOf_cons, hb]; rfl
      rw [if_pos hm, if_pos hm, e1]
      have e2 : i + (ns.idxOf n + 1) = i + 1 + ns.idxOf n := by omega
      have e3 : s + (ns.idxOf n + 1) = s + 1 + ns.idxOf n := by omega
      rw [e2, e3]
    · rw [if_neg hm, if_neg hm]

theorem find_run (n : Nd) (w : World) : ∀ (es : List MapEntry) (i s : Nat) (ns : List Nd), HasKeys es s ns →
    (Instr.findAsking 156 n.keyVal es i).run Tryd.prog w = .ok (found i s ns n) w
  | [], i, s, ns, h => by
    cases ns with
    | nil => rfl
    | cons m r => simp [HasKeys, pairs] at h
  | e :: es, i, s, ns, h => by
    cases ns with
    | nil => simp [HasKeys, pairs] at h
    | cons m r =>
      simp only [HasKeys, pairs, List.map_cons, List.cons.injEq, Prod.mk.injEq] at h
      obtain ⟨⟨hk, hv⟩, hr⟩ := h
      simp only [Instr.findAsking, Sem.run_bind, hk, key_eq, Result.andThen_ok, found_cons]
      by_cases hnm : n = m
      · simp [hnm, hv]
      · simp only [hnm, decide_false, Bool.false_eq_true, if_false]
        exact find_run n w es (i + 1) (s + 1) r hr

theorem findKey_run (n : Nd) (w : World) (es : List MapEntry) (ns : List Nd) (h : HasKeys es 0 ns) :
    (Instr.findKey 156 n.keyVal es).run Tryd.prog w = .ok (found 0 0 ns n) w := by
  have hu : ∃ fs, Tryd.prog.underlying 156 = some (.struct fs) := ⟨_, Tryd.underlying156⟩
  obtain ⟨fs, hu⟩ := hu
  simp only [Instr.findKey, Sem.run_bind, run_underlying hu, Result.andThen_ok]
  cases es with
  | nil =>
    cases ns with
    | nil => rfl
    | cons m r => simp [HasKeys, pairs] at h
  | cons e es' =>
    have : Instr.findNow (.struct fs) n.keyVal (e :: es') 0 = none := by
      simp [Instr.findNow, Instr.sameNow]
    rw [this]
    exact find_run n w _ 0 0 ns h

theorem checkKey_run (n : Nd) (b : Bool) (w : World) : (Instr.checkKey b 10000 156 n.keyVal).run Tryd.prog w = .ok () w := by
  obtain ⟨k, f, a, c⟩ := n
  cases b <;> kernel_rfl

/-- What a look-up with ok gives. -/
def lookVal (ns : List Nd) (n : Nd) : Value := .tuple #[.int .i64 (if n ∈ ns then (ns.idxOf n : Int) else 0), .bool (decide (n ∈ ns))]

theorem look_some (n : Nd) (w : World) (m : Nat) (es : Array MapEntry) (clock : Nat) (ns : List Nd) (hm : w.heap[m]? = some (.map es clock)) (h : HasKeys es.toList 0 ns) :
    (Instr.lookup 152 (.map (some m)) n.keyVal true).run Tryd.prog w = .ok (lookVal ns n) w := by
  have hz : (zeroValue 3).run Tryd.prog w = .ok (.int .i64 0) w := by kernel_rfl
  simp only [Instr.lookup, Sem.run_bind, run_underlying Tryd.underlying152, Result.andThen_ok, MapKept.run_getObj_map hm, Sem.run_pure, checkKey_run, findKey_run n w es.toList ns h]
  unfold found lookVal
  by_cases hn : n ∈ ns
  · simp [hn]
  · simp [hn, hz]

theorem look_hit (n : Nd) (w : World) (m : Nat) (es : Array MapEntry) (clock : Nat) (ns : List Nd) (hm : w.heap[m]? = some (.map es clock)) (h : HasKeys es.toList 0 ns) (hn : n ∈ ns) :
    (Instr.lookup 152 (.map (some m)) (.agg #[.int .i64 n.k, .int .i64 n.a, .int .i64 n.b, .int .u64 (n.f : Int)]) true).run Tryd.prog w = .ok (.tuple #[.int .i64 (ns.idxOf n : Int), .bool true]) w := by
  have := look_some n w m es clock ns hm h
  simpa [lookVal, hn, Nd.keyVal] using this
theorem look_miss (n : Nd) (w : World) (m : Nat) (es : Array MapEntry) (clock : Nat) (ns : List Nd) (hm : w.heap[m]? = some (.map es clock)) (h : HasKeys es.toList 0 ns) (hn : n ∉ ns) :
    (Instr.lookup 152 (.map (some m)) (.agg #[.int .i64 n.k, .int .i64 n.a, .int .i64 n.b, .int .u64 (n.f : Int)]) true).run Tryd.prog w = .ok (.tuple #[.int .i64 0, .bool false]) w := by
  have := look_some n w m es clock ns hm h
  simpa [lookVal, hn, Nd.keyVal] using this
theorem look_none (n : Nd) (w : World) : (Instr.lookup 152 (.map none) n.keyVal true).run Tryd.prog w = .ok (.tuple #[.int .i64 0, .bool false]) w := by
  have hz : (zeroValue 3).run Tryd.prog w = .ok (.int .i64 0) w := by kernel_rfl
  have hk : (Instr.findKey 156 n.keyVal (#[] : Array MapEntry).toList).run Tryd.prog w = .ok none w := findKey_run n w [] [] rfl
  simp only [Instr.lookup, Sem.run_bind, run_underlying Tryd.underlying152, Result.andThen_ok, Sem.run_pure, checkKey_run, hk]
  simp [hz]

theorem look_none' (n : Nd) (w : World) : (Instr.lookup 152 (.map none) (.agg #[.int .i64 n.k, .int .i64 n.a, .int .i64 n.b, .int .u64 (n.f : Int)]) true).run Tryd.prog w = .ok (.tuple #[.int .i64 0, .bool false]) w := look_none n w

theorem upd_run (n : Nd) (x : Int) (w : World) (m : Nat) (es : Array MapEntry) (clock : Nat) (ns : List Nd) (hm : w.heap[m]? = some (.map es clock)) (h : HasKeys es.toList 0 ns) (hn : n ∉ ns) :
    (Instr.mapUpdate 152 (.map (some m)) n.keyVal (.int .i64 x)).run Tryd.prog w = .ok () { w with heap := w.heap.setIfInBounds m (.map (es.push { key := n.keyVal, val := .int .i64 x, born := clock }) (clock + 1)) } := by
  simp only [Instr.mapUpdate, Sem.run_bind, run_underlying Tryd.underlying152, Result.andThen_ok, MapKept.run_getObj_map hm, checkKey_run, findKey_run n w es.toList ns h]
  unfold found
  rw [if_neg hn]
  exact MapKept.run_setObj_map _ hm

theorem upd_run' (n : Nd) (x : Int) (w : World) (m : Nat) (es : Array MapEntry) (clock : Nat) (ns : List Nd) (hm : w.heap[m]? = some (.map es clock)) (h : HasKeys es.toList 0 ns) (hn : n ∉ ns) :
    (Instr.mapUpdate 152 (.map (some m)) (.agg #[.int .i64 n.k, .int .i64 n.a, .int .i64 n.b, .int .u64 (n.f : Int)]) (.int .i64 x)).run Tryd.prog w =
      .ok () { w with heap := w.heap.setIfInBounds m (.map (es.push { key := n.keyVal, val := .int .i64 x, born := clock }) (clock + 1)) } := upd_run n x w m es clock ns hm h hn

theorem upd_only (w : World) (m : Nat) (o : Obj) : Only [m] w { w with heap := w.heap.setIfInBounds m o } :=
  ⟨rfl, rfl, rfl, by simp, fun k _ hn => by
    have : m ≠ k := fun e => hn (by simp [e])
    simp [this]⟩

theorem upd_keys (n : Nd) (w : World) (m : Nat) (es : Array MapEntry) (clock : Nat) (ns : List Nd) (hm : w.heap[m]? = some (.map es clock)) (h : HasKeys es.toList 0 ns) :
    ∃ es' clock', (({ w with heap := w.heap.setIfInBounds m (.map (es.push { key := n.keyVal, val := .int .i64 (ns.length : Int), born := clock }) (clock + 1)) } : World)).heap[m]? = some (.map es' clock') ∧ HasKeys es'.toList 0 (ns ++ [n]) := by
  refine ⟨es.push { key := n.keyVal, val := .int .i64 (ns.length : Int), born := clock }, clock + 1, ?_, ?_⟩
  · have := lt_of_heap hm
    simp [this]
  unfold HasKeys at *
  rw [pairs_snoc, Array.toList_push, List.map_append, h]
  simp

theorem upd_all (n : Nd) (w : World) (m : Nat) (es : Array MapEntry) (clock : Nat) (ns : List Nd) (hm : w.heap[m]? = some (.map es clock)) (h : HasKeys es.toList 0 ns) (hn : n ∉ ns) :
    ∃ w', (Instr.mapUpdate 152 (.map (some m)) (.agg #[.int .i64 n.k, .int .i64 n.a, .int .i64 n.b, .int .u64 (n.f : Int)]) (.int .i64 (ns.length : Int))).run Tryd.prog w = .ok () w' ∧ Only [m] w w' ∧
      ∃ es' clock', w'.heap[m]? = some (.map es' clock') ∧ HasKeys es'.toList 0 (ns ++ [n]) :=
  ⟨_, upd_run' n _ w m es clock ns hm h hn, upd_only w m _, upd_keys n w m es clock ns hm h⟩

/-- A dag at block b: its nodes in the row of v, its map (if it has one) in block r. -/
structure DagIs (w : World) (b : Nat) (v : Value) (r : Option Nat) (ns : List Nd) : Prop where
  blk : Blk w b 154 [v, .map r]
  row : w.ownsRow 0 31 4 v ns.length (flat ns)
  map : ∀ m, r = some m → ∃ es clock, w.heap[m]? = some (.map es clock) ∧ HasKeys es.toList 0 ns
  nodup : r ≠ none → ns.Nodup

/-- The blocks of a dag. -/
def foot (b : Nat) (v : Value) (r : Option Nat) : List Nat := b :: (v.ownBlock.toList ++ r.toList)

theorem ownsRow_only {w w' : World} {S : List Nat} {base : Nat} {e : TypeId} {size : Nat} {v : Value} {n : Nat} {xs : List Value} (h : w.ownsRow base e size v n xs) (ho : Only S w w') (hn : ∀ g, v.ownBlock = some g → g ∉ S) :
    w'.ownsRow base e size v n xs := by
  refine ⟨h.1, ?_⟩
  rcases h.2 with h0 | ⟨g, cap, cur, rfl, hb, hg, rest⟩
  · exact .inl h0
  · exact .inr ⟨g, cap, cur, rfl, hb, ho.heap hg (hn g rfl), rest⟩

theorem DagIs.only {w w' : World} {S : List Nat} {b : Nat} {v : Value} {r : Option Nat} {ns : List Nd} (h : DagIs w b v r ns) (ho : Only S w w') (hn : ∀ k ∈ foot b v r, k ∉ S) : DagIs w' b v r ns :=
  ⟨h.blk.only ho (hn b (by simp [foot])), ownsRow_only h.row ho (fun g hg => hn g (by simp [foot, hg])), fun m hm => by
    obtain ⟨es, clock, h1, h2⟩ := h.map m hm
    exact ⟨es, clock, ho.heap h1 (hn m (by simp [foot, hm])), h2⟩, h.nodup⟩

theorem DagIs.lt {w : World} {b : Nat} {v : Value} {r : Option Nat} {ns : List Nd} (h : DagIs w b v r ns) : ∀ k ∈ foot b v r, k < w.heap.size := by
  intro k hk
  simp only [foot, List.mem_cons, List.mem_append, Option.mem_toList] at hk
  rcases hk with rfl | hk | hk
  · exact h.blk.lt
  · exact (h.row.lt k hk).2
  · obtain ⟨es, clock, h1, _⟩ := h.map k hk
    exact lt_of_heap h1
end Go.Proofs.YtigpnopeacicpaaDoor

/-
  takes, New, Put: what each does to a dag.
-/
namespace Go.Proofs.YtigpnopeacicpaaDoor
open Go.RowKit

theorem box_cells {w w' : World} {S : List Nat} {g : Nat} {t : TypeId} {x0 x1 x2 x3 : Value} (h : Blk w g t [x0, x1, x2, x3]) (ho : Only S w w') (hn : g ∉ S) :
    w'.cell? ⟨g, 0, none⟩ = some x0 ∧ w'.cell? ⟨g, 1, none⟩ = some x1 ∧ w'.cell? ⟨g, 2, none⟩ = some x2 ∧ w'.cell? ⟨g, 3, none⟩ = some x3 := by
  have hb := h.only ho hn
  exact ⟨hb.cell 0, hb.cell 1, hb.cell 2, hb.cell 3⟩

set_option maxHeartbeats 800000 in
theorem takes_any (d : Nat) (A : Option Addr) (n c : Nat) (k : Int) (f : Nat) (a b : Int) (w : World) (hf : Hid (f < 2 ^ 64)) (h0 : w.cell? ⟨d, 0, none⟩ = some (.slice A n c)) :
    Calls Tryd.prog 101 #[.pointer (some ⟨d, 0, none⟩), .agg #[.int .i64 k, .float .f64 f, .int .i64 a, .int .i64 b]] w fun e w' => e = .returned (.bool (takesB n k f a b)) ∧ Only [] w w' := by
  go_enter Tryd.func101, Tryd.ntmps101
  go_wp2_with fail
  refine (cvalid_any k f a b _).mono ?_
  rintro e w1 ⟨rfl, ho⟩
  obtain ⟨k0, k1, k2, k3⟩ := box_cells (Blk.new w 31 [.int .i64 k, .float .f64 f, .int .i64 a, .int .i64 b]) ho (by simp)
  have c0 := (ho.cell (p := ⟨d, 0, none⟩) ((((Only.refl [] w).alloc (.cells #[.int .i64 k, .float .f64 f, .int .i64 a, .int .i64 b] 31))).cell h0 (by simp)) (by simp))
  have ho' : Hid (Only [] w w1) := ((Only.refl [] w).alloc _).nil_trans ho
  clear ho h0
  cases hv : validB k f a b
  · go_wp2_with fail
    go_ret
    exact ⟨by simp [takesB, hv], ho'.out⟩
  · by_cases hk0 : k = 0
    · subst hk0
      go_wp2_with (go_at_call 127; (with_reducible refine (finite_any f hf.out _).mono ?_); rintro e w' ⟨rfl, rfl⟩)
      go_ret
      exact ⟨by simp [takesB, hv], ho'.out⟩
    · by_cases hk5 : k = 5
      · subst hk5
        go_wp2_with (go_at_call 103; (with_reducible refine (has_any d A n c _ _ c0).mono ?_); rintro e w' ⟨rfl, rfl⟩)
        go_ret
        exact ⟨by simp [takesB, hv], ho'.out⟩
      · have e0 : (k == 0) = false := by simpa using hk0
        have e5 : (k == 5) = false := by simpa using hk5
        go_wp2_with (go_at_call 103; (with_reducible refine (has_any d A n c _ _ c0).mono ?_); rintro e w' ⟨rfl, rfl⟩)
        all_goals go_ret
        all_goals (refine ⟨?_, ho'.out⟩)
        all_goals (simp_all [takesB])

set_option maxHeartbeats 800000 in
theorem new_any (same : Bool) (w : World) :
    Calls Tryd.prog 70 #[.bool same] w fun e w' => ∃ r, e = .returned (.pointer (some ⟨w.heap.size, 0, none⟩)) ∧ DagIs w' w.heap.size (.slice none 0 0) r [] ∧ (r = none ↔ same = false) ∧
      (∀ m, r = some m → w.heap.size ≤ m) ∧ Only [] w w' := by
  have hmm := @run_makeMap Tryd.prog
  cases same
  · go_enter Tryd.func70, Tryd.ntmps70
    go_wp2
    go_ret
    refine ⟨none, rfl, ⟨Blk.new w 154 [.slice none 0 0, .map none], World.ownsRow_nil _ 0 31 4, by simp, by simp⟩, by simp, by simp, (Only.refl [] w).alloc _⟩
  · go_enter Tryd.func70, Tryd.ntmps70
    go_wp2
    go_ret
    refine ⟨some (w.heap.size + 1), rfl, ⟨(Blk.new w 154 [.slice none 0 0, .map (some (w.heap.size + 1))]).alloc _, World.ownsRow_nil _ 0 31 4, ?_, by simp⟩, by simp, by simp, ((Only.refl [] w).alloc _).alloc _⟩
    intro m hm
    obtain rfl : w.heap.size + 1 = m := by simpa using hm
    refine ⟨#[], 0, ?_, rfl⟩
    have := heap_alloc_new (w.alloc (.cells #[.slice none 0 0, .map (some (w.heap.size + 1))] 154)) (.map #[] 0)
    simpa using this
end Go.Proofs.YtigpnopeacicpaaDoor

/-
  Put: what it does to a dag.
-/
namespace Go.Proofs.YtigpnopeacicpaaDoor
open Go.RowKit

def putId (r : Option Nat) (ns : List Nd) (n : Nd) : Int :=
  if takesB ns.length n.k n.f n.a n.b = true then (if r ≠ none ∧ n ∈ ns then (ns.idxOf n : Int) else (ns.length : Int)) else -1
def putNs (r : Option Nat) (ns : List Nd) (n : Nd) : List Nd :=
  if takesB ns.length n.k n.f n.a n.b = true then (if r ≠ none ∧ n ∈ ns then ns else ns ++ [n]) else ns

def PutPost (d : Nat) (v : Value) (r : Option Nat) (ns : List Nd) (n : Nd) (w : World) (e : Ending) (w' : World) : Prop :=
  ∃ ev v', e = .returned (.tuple #[.int .i64 (putId r ns n), ev]) ∧ DagIs w' d v' r (putNs r ns n) ∧ (v'.ownBlock = v.ownBlock ∨ ∃ g, w.heap.size ≤ g ∧ v'.ownBlock = some g) ∧
    Only (foot d v r) w w' ∧ (if takesB ns.length n.k n.f n.a n.b = true then ev = .nilIface else IsAt w w' (ns.length : Int) (.iface 175 (.int .i64 1)) ev)

theorem IsAt.old {w0 w w' : World} {i : Int} {err v : Value} (h : IsAt w w' i err v) (hs : w0.heap.size ≤ w.heap.size) : IsAt w0 w' i err v := by
  obtain ⟨g, h1, h2, h3⟩ := h
  exact ⟨g, by omega, h2, h3⟩
theorem IsAt.drewN {w w' : World} {i : Int} {err v : Value} (h : IsAt w w' i err v) (n : Nat) : IsAt w (w'.drewN n) i err v := h
theorem IsAt.drew {w w' : World} {i : Int} {err v : Value} (h : IsAt w w' i err v) : IsAt w w'.drew i err v := h

theorem DagIs.shape {w : World} {d : Nat} {v : Value} {r : Option Nat} {ns : List Nd} (h : DagIs w d v r ns) : ∃ A c, v = .slice A ns.length c := by
  rcases h.row.2 with ⟨rfl, h0⟩ | ⟨g, cap, cur, rfl, _⟩
  · exact ⟨none, 0, by rw [h0]⟩
  · exact ⟨_, _, rfl⟩

set_option maxHeartbeats 800000 in
theorem put_bad (d : Nat) (v : Value) (r : Option Nat) (ns : List Nd) (k : Int) (f : Nat) (a b : Int) (w : World) (hf : Hid (f < 2 ^ 64)) (hd : DagIs w d v r ns)
    (ht : takesB ns.length k f a b = false) :
    Calls Tryd.prog 71 #[.pointer (some ⟨d, 0, none⟩), .agg #[.int .i64 k, .float .f64 f, .int .i64 a, .int .i64 b]] w (PutPost d v r ns ⟨k, f, a, b⟩ w) := by
  obtain ⟨A, c, rfl⟩ := hd.shape
  have h0 : w.cell? ⟨d, 0, none⟩ = some (.slice A ns.length c) := hd.blk.cell 0
  have hB := Blk.new w 31 [.int .i64 k, .float .f64 f, .int .i64 a, .int .i64 b]
  have ho0 := (Only.refl [] w).alloc (.cells #[.int .i64 k, .float .f64 f, .int .i64 a, .int .i64 b] 31)
  have h0' := ho0.cell h0 (by simp)
  go_enter Tryd.func71, Tryd.ntmps71
  go_wp2_with fail
  refine (takes_any d A ns.length c k f a b _ hf h0').mono ?_
  rintro e w1 ⟨rfl, ho⟩
  have c0 := ho.cell h0' (by simp)
  have ho1 : Hid (Only [] w w1) := ho0.nil_trans ho
  clear ho h0' hB ho0
  go_wp2_with fail
  go_region_held3 (fun w' => w'.cell? ⟨d, 0, none⟩ = some (.slice A ns.length c)) (go_keep)
    (first | (go_at_call 100; refine (malformed_any _).mono ?_; rintro e w' ⟨rfl, rfl⟩) | (go_at_call 99; refine (node_any _ _ _ _).mono ?_; rintro e w2 ⟨ev, rfl, hat, ho2⟩; have c2 := ho2.cell (p := ⟨d, 0, none⟩) c0 (by simp)))
  go_wp2_with fail
  go_ret2
  have hT : Only [] w w2 := ho1.out.nil_trans ((Only.refl [] w1).drew.nil_trans ho2)
  have e1 : putId r ns ⟨k, f, a, b⟩ = -1 := by simp [putId, ht]
  have e2 : putNs r ns ⟨k, f, a, b⟩ = ns := by simp [putNs, ht]
  refine ⟨ev, .slice A ns.length c, by rw [e1]; rfl, by rw [e2]; exact hd.only hT (by simp), .inl rfl, hT.mono (by simp), ?_⟩
  rw [if_neg (by simp [ht])]
  exact hat.old ho1.out.size

set_option maxHeartbeats 800000 in
/-- Put of a node that is there already, where equal ones are shared. -/
theorem put_found (d : Nat) (v : Value) (m : Nat) (ns : List Nd) (k : Int) (f : Nat) (a b : Int) (w : World) (hf : Hid (f < 2 ^ 64)) (hd : DagIs w d v (some m) ns)
    (ht : takesB ns.length k f a b = true) (hn : (⟨k, f, a, b⟩ : Nd) ∈ ns) :
    Calls Tryd.prog 71 #[.pointer (some ⟨d, 0, none⟩), .agg #[.int .i64 k, .float .f64 f, .int .i64 a, .int .i64 b]] w (PutPost d v (some m) ns ⟨k, f, a, b⟩ w) := by
  obtain ⟨A, c, rfl⟩ := hd.shape
  obtain ⟨es, clock, hm', hkeys'⟩ := hd.map m rfl
  have hm := Lib.hid hm'
  have hkeys := Lib.hid hkeys'
  have hin := Lib.hid hn
  clear hm' hkeys' hn
  have h0 : w.cell? ⟨d, 0, none⟩ = some (.slice A ns.length c) := hd.blk.cell 0
  have hB := Blk.new w 31 [.int .i64 k, .float .f64 f, .int .i64 a, .int .i64 b]
  have ho0 := (Only.refl [] w).alloc (.cells #[.int .i64 k, .float .f64 f, .int .i64 a, .int .i64 b] 31)
  have h0' := ho0.cell h0 (by simp)
  go_enter Tryd.func71, Tryd.ntmps71
  go_wp2_with fail
  refine (takes_any d A ns.length c k f a b _ hf h0').mono ?_
  rintro e w1 ⟨rfl, ho⟩
  obtain ⟨k0, k1, k2, k3⟩ := box_cells hB ho (by simp)
  have ho1 : Hid (Only [] w w1) := ho0.nil_trans ho
  have c1 : w1.cell? ⟨d, 1, none⟩ = some (.map (some m)) := ho1.out.cell (hd.blk.cell 1) (by simp)
  clear ho h0' hB ho0 h0
  go_wp2_with fail
  go_region_held3 (fun w' => w'.cell? ⟨d, 1, none⟩ = some (.map (some m)) ∧ w'.cell? ⟨w.heap.size, 0, none⟩ = some (.int .i64 k) ∧ w'.cell? ⟨w.heap.size, 1, none⟩ = some (.float .f64 f) ∧ w'.cell? ⟨w.heap.size, 2, none⟩ = some (.int .i64 a) ∧ w'.cell? ⟨w.heap.size, 3, none⟩ = some (.int .i64 b)) (go_keep)
    (first | (go_at_call 102; refine (keyOf_any _ _ _ _ _).mono ?_; rintro e w2 ⟨rfl, ho2⟩; have c2 := ho2.cell (p := ⟨d, 1, none⟩) c1 (by simp); have q0 := ho2.cell k0 (by simp); have q1 := ho2.cell k1 (by simp); have q2 := ho2.cell k2 (by simp); have q3 := ho2.cell k3 (by simp); have hlk := look_hit _ w2 m es clock ns (ho2.heap (ho1.out.heap hm.out (by simp)) (by simp)) hkeys.out hin.out))
  go_wp2_with fail
  go_ret2
  have hT : Only [] w w2 := ho1.out.nil_trans ((Only.refl [] w1).drew.nil_trans ho2)
  have e1 : putId (some m) ns ⟨k, f, a, b⟩ = (ns.idxOf (⟨k, f, a, b⟩ : Nd) : Int) := by simp [putId, ht, hin.out]
  have e2 : putNs (some m) ns ⟨k, f, a, b⟩ = ns := by simp [putNs, hin.out]
  refine ⟨.nilIface, .slice A ns.length c, by rw [e1]; rfl, by rw [e2]; exact hd.only hT (by simp), .inl rfl, hT.mono (by simp), ?_⟩
  rw [if_pos (by simp [ht])]
end Go.Proofs.YtigpnopeacicpaaDoor

/-
  Put of a node that comes behind the others.
-/
namespace Go.Proofs.YtigpnopeacicpaaDoor
open Go.RowKit

theorem Tryd.nodeInfo : (Tryd.prog.info? 31).map (fun i => (i.zero, i.size, i.bytes)) = some (some (.agg #[.int .i64 0, .float .f64 0, .int .i64 0, .int .i64 0]), 4, 32) := by kernel_rfl

theorem flat_snoc (ns : List Nd) (n : Nd) : flat (ns ++ [n]) = flat ns ++ n.cells := by simp [flat]

theorem row_apart {w : World} {d : Nat} {v : Value} {n : Nat} {xs cs : List Value} (h : w.ownsRow 0 31 4 v n xs) (hb : Blk w d 154 cs) : v.ownBlock ≠ some d := by
  rcases h.2 with ⟨rfl, _⟩ | ⟨g, cap, cur, rfl, _, hg, _⟩
  · simp [Value.ownBlock]
  · intro e
    have e' : g = d := by simpa [Value.ownBlock] using e
    subst e'
    unfold Blk at hb
    rw [hg] at hb
    injection hb with hb
    injection hb with _ hb
    exact absurd hb (by decide)
theorem DagIs.apart {w : World} {d : Nat} {v : Value} {r : Option Nat} {ns : List Nd} (h : DagIs w d v r ns) : v.ownBlock ≠ some d := row_apart h.row h.blk
theorem DagIs.apart_map {w : World} {d : Nat} {v : Value} {m : Nat} {ns : List Nd} (h : DagIs w d v (some m) ns) : v.ownBlock ≠ some m ∧ d ≠ m := by
  obtain ⟨es, clock, hm, _⟩ := h.map m rfl
  constructor
  · rcases h.row.2 with ⟨rfl, _⟩ | ⟨g, cap, cur, rfl, _, hg, _⟩
    · simp [Value.ownBlock]
    · intro e
      have e' : g = m := by simpa [Value.ownBlock] using e
      subst e'
      rw [hg] at hm
      cases hm
  · rintro rfl
    have := h.blk
    unfold Blk at this
    rw [hm] at this
    cases this

theorem news4 {w : World} {B : Nat} {x0 x1 x2 x3 : Value} {t : TypeId} (hb : w.heap[B]? = some (.cells #[x0, x1, x2, x3] t (0, 0))) :
    ∀ j u, [x0, x1, x2, x3][j]? = some u → w.cell? ((⟨B, 0, none⟩ : Addr).add j) = some u := World.news_of_block hb

/-- The end of Put: the new row is in, the map (if there is one) has been written, the struct's field holds the row. -/
theorem put_close {w w2 w3 w4 : World} {d : Nat} {v : Value} {r : Option Nat} {ns : List Nd} {n : Nd} {g cap : Nat} {o : Obj} (hT : Only [] w w2) (hd2 : DagIs w2 d v r ns)
    (hown3 : w3.ownsRow 0 31 4 (.slice (some ⟨g, 0, none⟩) (ns.length + 1) cap) (ns.length + 1) (flat ns ++ n.cells)) (hgrow3 : (w2.alloc o).drew.grownBy w3 v.ownBlock)
    (hat3 : v.ownBlock = some g ∨ g = w2.heap.size + 1) (hnew : takesB ns.length n.k n.f n.a n.b = true) (hn : ¬ (r ≠ none ∧ n ∈ ns))
    (h4 : Only (r.toList) (w3.setCell ⟨d, 0, none⟩ (.slice (some ⟨g, 0, none⟩) (ns.length + 1) cap)) w4)
    (hm4 : ∀ m, r = some m → ∃ es clock, w4.heap[m]? = some (.map es clock) ∧ HasKeys es.toList 0 (ns ++ [n])) (hdr : ∀ m, r = some m → d ≠ m ∧ v.ownBlock ≠ some m ∧ m < w2.heap.size) :
    PutPost d v r ns n w (.returned (.tuple #[.int .i64 (ns.length : Int), .nilIface])) w4 := by
  have hb3 : Blk w3 d 154 [v, .map r] := ((hd2.blk.alloc o).drew).grown hgrow3 hd2.apart
  have hgd := row_apart hown3 hb3
  have e1 : putId r ns n = (ns.length : Int) := by unfold putId; rw [if_pos hnew, if_neg hn]
  have e2 : putNs r ns n = ns ++ [n] := by unfold putNs; rw [if_pos hnew, if_neg hn]
  have hb4 : Blk (w3.setCell ⟨d, 0, none⟩ (.slice (some ⟨g, 0, none⟩) (ns.length + 1) cap)) d 154 [.slice (some ⟨g, 0, none⟩) (ns.length + 1) cap, .map r] := hb3.set_ 0 _
  have ho3 : Only [d] w3 (w3.setCell ⟨d, 0, none⟩ (.slice (some ⟨g, 0, none⟩) (ns.length + 1) cap)) := (Only.refl [d] w3).setCell (.inl (by simp)) _
  have hg2 : v.ownBlock = some g ∨ w2.heap.size ≤ g := by rcases hat3 with h | h; exact .inl h; exact .inr (by omega)
  have hv2 : ∀ m, r = some m → g ≠ m := fun m hm e => by
    obtain ⟨_, h2, h3⟩ := hdr m hm
    rcases hg2 with h | h
    · exact h2 (by rw [h, e])
    · omega
  have hTT : Only (foot d v r) w w3 := ((hT.mono (by simp)).alloc o).drew.trans (Only.of_grown (S := v.ownBlock.toList) hgrow3 (by simp)) (fun k hk => .inl (by simp [foot] at hk ⊢; simp [hk]))
  refine ⟨.nilIface, .slice (some ⟨g, 0, none⟩) (ns.length + 1) cap, by rw [e1], ?_, ?_, ?_, by rw [if_pos hnew]⟩
  · rw [e2]
    refine ⟨hb4.only h4 ?_, ?_, hm4, ?_⟩
    · intro hm
      exact (hdr d (by simpa using hm)).1 rfl
    · rw [flat_snoc, List.length_append, List.length_singleton]
      refine ownsRow_only (ownsRow_only hown3 ho3 ?_) h4 ?_
      · intro k hk hm
        have : k = d := by simpa using hm
        subst this
        exact hgd hk
      · intro k hk hm
        have e : g = k := by simpa [Value.ownBlock] using hk
        subst e
        exact hv2 g (by simpa using hm) rfl
    · intro hr
      have hnin : n ∉ ns := fun h => hn ⟨hr, h⟩
      exact List.nodup_append.2 ⟨hd2.nodup hr, by simp, by simpa using fun a ha => (fun e : a = n => hnin (e ▸ ha))⟩
  · rcases hg2 with h | h
    · exact .inl (by rw [h]; rfl)
    · exact .inr ⟨g, Nat.le_trans hT.size h, rfl⟩
  · refine ((hTT.setCell (.inl (by simp [foot])) _).trans h4 (fun k hk => .inl (by simp [foot] at hk ⊢; simp [hk])))

set_option maxRecDepth 100000 in
set_option maxHeartbeats 1600000 in
theorem put_new_none (d : Nat) (v : Value) (ns : List Nd) (k : Int) (f : Nat) (a b : Int) (w : World) (hf : Hid (f < 2 ^ 64)) (hd : DagIs w d v none ns) (hlen : decide ((20000 : Int) ≤ (ns.length : Int)) = false)
    (ht : takesB ns.length k f a b = true) :
    Calls Tryd.prog 71 #[.pointer (some ⟨d, 0, none⟩), .agg #[.int .i64 k, .float .f64 f, .int .i64 a, .int .i64 b]] w (PutPost d v none ns ⟨k, f, a, b⟩ w) := by
  obtain ⟨A, c, rfl⟩ := hd.shape
  have hlen' : Hid (ns.length < 20000) := by have := of_decide_eq_false hlen; show _ < _; omega
  obtain ⟨i0, hi, hz0, hz1, hz2⟩ := info_parts Tryd.nodeInfo
  have hne := fun W => run_neq_map_nil (P := Tryd.prog) W 152 _ _ none Tryd.underlying152
  have h0 : w.cell? ⟨d, 0, none⟩ = some (.slice A ns.length c) := hd.blk.cell 0
  have hB := Blk.new w 31 [.int .i64 k, .float .f64 f, .int .i64 a, .int .i64 b]
  have ho0 := (Only.refl [] w).alloc (.cells #[.int .i64 k, .float .f64 f, .int .i64 a, .int .i64 b] 31)
  have h0' := ho0.cell h0 (by simp)
  go_enter Tryd.func71, Tryd.ntmps71
  go_wp2_with fail
  refine (takes_any d A ns.length c k f a b _ hf h0').mono ?_
  rintro e w1 ⟨rfl, ho⟩
  obtain ⟨k0, k1, k2, k3⟩ := box_cells hB ho (by simp)
  have ho1 : Hid (Only [] w w1) := ho0.nil_trans ho
  have c1 : w1.cell? ⟨d, 1, none⟩ = some (.map none) := ho1.out.cell (hd.blk.cell 1) (by simp)
  clear ho h0' hB ho0 h0
  go_wp2_with fail
  go_region_held3 (fun w' => w'.cell? ⟨d, 1, none⟩ = some (.map none) ∧ w'.cell? ⟨w.heap.size, 0, none⟩ = some (.int .i64 k) ∧ w'.cell? ⟨w.heap.size, 1, none⟩ = some (.float .f64 f) ∧ w'.cell? ⟨w.heap.size, 2, none⟩ = some (.int .i64 a) ∧ w'.cell? ⟨w.heap.size, 3, none⟩ = some (.int .i64 b)) (go_keep)
    (first | (go_at_call 102; refine (keyOf_any _ _ _ _ _).mono ?_; rintro e w2 ⟨rfl, ho2⟩; have c2 := ho2.cell (p := ⟨d, 1, none⟩) c1 (by simp); have q0 := ho2.cell k0 (by simp); have q1 := ho2.cell k1 (by simp); have q2 := ho2.cell k2 (by simp); have q3 := ho2.cell k3 (by simp); have hlk := look_none' ⟨k, f, a, b⟩ w2))
  have hT : Hid (Only [] w w2) := ho1.out.nil_trans ((Only.refl [] w1).drew.nil_trans ho2)
  have hd2 := hd.only hT.out (by simp)
  have c0 : w2.cell? ⟨d, 0, none⟩ = some (.slice A ns.length c) := hd2.blk.cell 0
  clear ho2 ho1 k0 k1 k2 k3 c1 hlk
  go_wp2_with fail
  have hl' := hlen'.out
  have cA := ((Only.refl [] w2).alloc (.cells #[.int .i64 k, .float .f64 f, .int .i64 a, .int .i64 b] 31)).cell c0 (by simp)
  go_region_law (first | (refine step_append_lies _ rfl (.tmp 51) (.tmp 53) 25 rfl 0 31 i0 _ 4 32 Tryd.underlying25 hi hz0 hz1 hz2 rfl (by decide) (.slice A ns.length c) ns.length (flat ns) rfl (by exact hd2.row.alloc _) ⟨w2.heap.size, 0, none⟩ 1 1 [.int .i64 k, .float .f64 f, .int .i64 a, .int .i64 b] rfl rfl (by exact news4 (heap_alloc_new w2 _)) (by simp [Value.oneCell']) (by decide) (by simp only [maxLen]; omega) (by omega) (Nat.zero_le _) (w2.heap.size + 1) (by simp) ?_; intro g cap w3 hown3 hgrow3 hat3 hlt3; have hb3 : Blk w3 d 154 [.slice A ns.length c, .map none] := ((hd2.blk.alloc _).drew).grown hgrow3 hd2.apart; have a0 := hb3.cell 0; have a1 := hb3.frozen 0; have a2 := hb3.cell 1; simp only [List.getElem?_cons_zero, List.getElem?_cons_succ] at a0 a2))
  all_goals go_wp2_with fail
  all_goals go_ret2
  all_goals exact put_close (r := none) (n := ⟨k, f, a, b⟩) hT.out hd2 hown3 hgrow3 hat3 ht (by simp) ((Only.refl [] _).mono (by simp)) (by simp) (by simp)
set_option maxRecDepth 100000 in
set_option maxHeartbeats 1600000 in
theorem put_new_some (d : Nat) (v : Value) (m : Nat) (ns : List Nd) (k : Int) (f : Nat) (a b : Int) (w : World) (hf : Hid (f < 2 ^ 64)) (hd : DagIs w d v (some m) ns) (hlen : decide ((20000 : Int) ≤ (ns.length : Int)) = false)
    (ht : takesB ns.length k f a b = true) (hn : (⟨k, f, a, b⟩ : Nd) ∉ ns) :
    Calls Tryd.prog 71 #[.pointer (some ⟨d, 0, none⟩), .agg #[.int .i64 k, .float .f64 f, .int .i64 a, .int .i64 b]] w (PutPost d v (some m) ns ⟨k, f, a, b⟩ w) := by
  obtain ⟨es, clock, hm', hkeys'⟩ := hd.map m rfl
  have hm := Lib.hid hm'
  have hkeys := Lib.hid hkeys'
  have hnin := Lib.hid hn
  have hap := Lib.hid hd.apart_map
  clear hm' hkeys' hn
  obtain ⟨A, c, rfl⟩ := hd.shape
  have hlen' : Hid (ns.length < 20000) := by have := of_decide_eq_false hlen; show _ < _; omega
  obtain ⟨i0, hi, hz0, hz1, hz2⟩ := info_parts Tryd.nodeInfo
  have hne := fun W => run_neq_map_nil (P := Tryd.prog) W 152 _ _ (some m) Tryd.underlying152
  have h0 : w.cell? ⟨d, 0, none⟩ = some (.slice A ns.length c) := hd.blk.cell 0
  have hB := Blk.new w 31 [.int .i64 k, .float .f64 f, .int .i64 a, .int .i64 b]
  have ho0 := (Only.refl [] w).alloc (.cells #[.int .i64 k, .float .f64 f, .int .i64 a, .int .i64 b] 31)
  have h0' := ho0.cell h0 (by simp)
  go_enter Tryd.func71, Tryd.ntmps71
  go_wp2_with fail
  refine (takes_any d A ns.length c k f a b _ hf h0').mono ?_
  rintro e w1 ⟨rfl, ho⟩
  obtain ⟨k0, k1, k2, k3⟩ := box_cells hB ho (by simp)
  have ho1 : Hid (Only [] w w1) := ho0.nil_trans ho
  have hbox1 : Hid (Blk w1 w.heap.size 31 [.int .i64 k, .float .f64 f, .int .i64 a, .int .i64 b]) := hB.only ho (by simp)
  have c1 : w1.cell? ⟨d, 1, none⟩ = some (.map (some m)) := ho1.out.cell (hd.blk.cell 1) (by simp)
  clear ho h0' hB ho0 h0
  go_wp2_with fail
  go_region_held3 (fun w' => w'.cell? ⟨d, 1, none⟩ = some (.map (some m)) ∧ w'.cell? ⟨w.heap.size, 0, none⟩ = some (.int .i64 k) ∧ w'.cell? ⟨w.heap.size, 1, none⟩ = some (.float .f64 f) ∧ w'.cell? ⟨w.heap.size, 2, none⟩ = some (.int .i64 a) ∧ w'.cell? ⟨w.heap.size, 3, none⟩ = some (.int .i64 b)) (go_keep)
    (first | (go_at_call 102; refine (keyOf_any _ _ _ _ _).mono ?_; rintro e w2 ⟨rfl, ho2⟩; have c2 := ho2.cell (p := ⟨d, 1, none⟩) c1 (by simp); have q0 := ho2.cell k0 (by simp); have q1 := ho2.cell k1 (by simp); have q2 := ho2.cell k2 (by simp); have q3 := ho2.cell k3 (by simp); have hlk := look_miss ⟨k, f, a, b⟩ w2 m es clock ns (ho2.heap (ho1.out.heap hm.out (by simp)) (by simp)) hkeys.out hnin.out))
  have hT : Hid (Only [] w w2) := ho1.out.nil_trans ((Only.refl [] w1).drew.nil_trans ho2)
  have hd2 := hd.only hT.out (by simp)
  have hbox2 : Hid (Blk w2 w.heap.size 31 [.int .i64 k, .float .f64 f, .int .i64 a, .int .i64 b]) := hbox1.out.only ((Only.refl [] w1).drew.nil_trans ho2) (by simp)
  have c0 : w2.cell? ⟨d, 0, none⟩ = some (.slice A ns.length c) := hd2.blk.cell 0
  clear ho2 ho1 k0 k1 k2 k3 c1 hlk
  go_wp2_with fail
  have hl' := hlen'.out
  have cA := ((Only.refl [] w2).alloc (.cells #[.int .i64 k, .float .f64 f, .int .i64 a, .int .i64 b] 31)).cell c0 (by simp)
  go_region_law (first | (refine step_append_lies _ rfl (.tmp 51) (.tmp 53) 25 rfl 0 31 i0 _ 4 32 Tryd.underlying25 hi hz0 hz1 hz2 rfl (by decide) (.slice A ns.length c) ns.length (flat ns) rfl (by exact hd2.row.alloc _) ⟨w2.heap.size, 0, none⟩ 1 1 [.int .i64 k, .float .f64 f, .int .i64 a, .int .i64 b] rfl rfl (by exact news4 (heap_alloc_new w2 _)) (by simp [Value.oneCell']) (by decide) (by simp only [maxLen]; omega) (by omega) (Nat.zero_le _) (w2.heap.size + 1) (by simp) ?_; intro g cap w3 hown3 hgrow3 hat3 hlt3; have hb3 : Blk w3 d 154 [.slice A ns.length c, .map (some m)] := ((hd2.blk.alloc _).drew).grown hgrow3 hd2.apart; have a0 := hb3.cell 0; have a1 := hb3.frozen 0; have a2 := hb3.cell 1; simp only [List.getElem?_cons_zero, List.getElem?_cons_succ] at a0 a2))
  all_goals go_wp2_with fail
  all_goals have hm2 : Hid (w2.heap[m]? = some (.map es clock)) := hT.out.heap hm.out (by simp)
  all_goals have hmw : Hid (m < w2.heap.size) := lt_of_heap hm2.out
  all_goals have hm3 : Hid (w3.heap[m]? = some (.map es clock)) := (hgrow3.block m (by have := hmw.out; simp; omega) (fun e => hap.out.1 e.symm)).trans ((Below.heap_alloc w2 _ m hmw.out).trans hm2.out)
  all_goals have hbox3 : Hid (Blk w3 w.heap.size 31 [.int .i64 k, .float .f64 f, .int .i64 a, .int .i64 b]) := ((hbox2.out.alloc _).drew).grown hgrow3 (fun e => by have := (hd.row.lt _ e).2; omega)
  all_goals have hdl : Hid (d < w.heap.size) := hd.blk.lt
  all_goals have ho3 : Hid (Only [d] w3 (w3.setCell ⟨d, 0, none⟩ (.slice (some ⟨g, 0, none⟩) (ns.length + 1) cap))) := (Only.refl [d] w3).setCell (.inl (by simp)) _
  all_goals have hb4 : Hid (Blk (w3.setCell ⟨d, 0, none⟩ (.slice (some ⟨g, 0, none⟩) (ns.length + 1) cap)) d 154 [.slice (some ⟨g, 0, none⟩) (ns.length + 1) cap, .map (some m)]) := hb3.set_ 0 _
  all_goals (generalize hw4 : w3.setCell ⟨d, 0, none⟩ (.slice (some ⟨g, 0, none⟩) (ns.length + 1) cap) = w4 at ho3 hb4 ⊢)
  all_goals have hw4' := Lib.hid hw4
  all_goals have hm4 : Hid (w4.heap[m]? = some (.map es clock)) := ho3.out.heap hm3.out (fun h => hap.out.2 (List.mem_singleton.1 h).symm)
  all_goals obtain ⟨p0, p1, p2, p3⟩ := box_cells hbox3.out ho3.out (fun h => absurd (List.mem_singleton.1 h) (Nat.ne_of_gt hdl.out))
  all_goals have p4 : w4.cell? ⟨d, 1, none⟩ = some (.map (some m)) := hb4.out.cell 1
  all_goals clear hw4 a0 a1 a2 hb3 cA hl'
  all_goals go_wp2_with fail
  all_goals go_region_held3 (fun w' => w'.cell? ⟨d, 1, none⟩ = some (.map (some m)) ∧ w'.cell? ⟨w.heap.size, 0, none⟩ = some (.int .i64 k) ∧ w'.cell? ⟨w.heap.size, 1, none⟩ = some (.float .f64 f) ∧ w'.cell? ⟨w.heap.size, 2, none⟩ = some (.int .i64 a) ∧ w'.cell? ⟨w.heap.size, 3, none⟩ = some (.int .i64 b)) (go_keep)
    (first | (go_at_call 102; refine (keyOf_any _ _ _ _ _).mono ?_; rintro e w5 ⟨rfl, ho5⟩; have r4 := ho5.cell (p := ⟨d, 1, none⟩) p4 (by simp); have r0 := ho5.cell p0 (by simp); have r1 := ho5.cell p1 (by simp); have r2 := ho5.cell p2 (by simp); have r3 := ho5.cell p3 (by simp); obtain ⟨w6, hup, ho6, hk6⟩ := upd_all ⟨k, f, a, b⟩ w5 m es clock ns (ho5.heap (S := []) hm4.out (by simp)) hkeys.out hnin.out; have hk6' := Lib.hid hk6; clear hk6; have s4 := ho6.cell r4 (by simpa using hap.out.2); have hwm : w.heap.size ∉ [m] := (fun h => absurd (List.mem_singleton.1 h) (Nat.ne_of_gt (lt_of_heap hm.out))); have s0 := ho6.cell r0 hwm; have s1 := ho6.cell r1 hwm; have s2 := ho6.cell r2 hwm; have s3 := ho6.cell r3 hwm))
  all_goals go_wp2_with fail
  all_goals go_ret2
  all_goals (subst hw4')
  all_goals exact put_close (r := some m) (n := ⟨k, f, a, b⟩) hT.out hd2 hown3 hgrow3 hat3 ht (fun h => hnin.out h.2) ((((Only.refl [] _).drew.nil_trans ho5).mono (S' := [m]) (by simp)).trans ho6 (by simp)) (fun x hx => by obtain rfl : m = x := (by simpa using hx); exact hk6'.out) (fun x hx => by obtain rfl : m = x := (by simpa using hx); exact ⟨hap.out.2, hap.out.1, hmw.out⟩)

end Go.Proofs.YtigpnopeacicpaaDoor

/-
  Put in one contract; put, Leaf, Sub, Div, Root, Int, Len, All.
-/
namespace Go.Proofs.YtigpnopeacicpaaDoor
open Go.RowKit

theorem put_any (d : Nat) (v : Value) (r : Option Nat) (ns : List Nd) (k : Int) (f : Nat) (a b : Int) (w : World) (hf : Hid (f < 2 ^ 64)) (hd : DagIs w d v r ns) (hlen : ns.length < 20000) :
    Calls Tryd.prog 71 #[.pointer (some ⟨d, 0, none⟩), .agg #[.int .i64 k, .float .f64 f, .int .i64 a, .int .i64 b]] w (PutPost d v r ns ⟨k, f, a, b⟩ w) := by
  have hl : decide ((20000 : Int) ≤ (ns.length : Int)) = false := decide_eq_false (by omega)
  cases ht : takesB ns.length k f a b
  · exact put_bad d v r ns k f a b w hf hd ht
  · cases r with
    | none => exact put_new_none d v ns k f a b w hf hd hl ht
    | some m =>
      by_cases hn : (⟨k, f, a, b⟩ : Nd) ∈ ns
      · exact put_found d v m ns k f a b w hf hd ht hn
      · exact put_new_some d v m ns k f a b w hf hd hl ht hn

/-- From (v, w) to (v', w') a dag at block d has been added to. -/
def Step (d : Nat) (v : Value) (r : Option Nat) (w : World) (v' : Value) (w' : World) : Prop :=
  (v'.ownBlock = v.ownBlock ∨ ∃ g, w.heap.size ≤ g ∧ v'.ownBlock = some g) ∧ Only (foot d v r) w w'

theorem Step.trans {d : Nat} {v v1 v2 : Value} {r : Option Nat} {w w1 w2 : World} (h : Step d v r w v1 w1) (h' : Step d v1 r w1 v2 w2) : Step d v r w v2 w2 := by
  constructor
  · rcases h'.1 with e | ⟨g, hg, e⟩
    · rcases h.1 with e1 | ⟨g1, hg1, e1⟩
      · exact .inl (e.trans e1)
      · exact .inr ⟨g1, hg1, e.trans e1⟩
    · exact .inr ⟨g, Nat.le_trans h.2.size hg, e⟩
  · refine h.2.trans h'.2 (fun k hk => ?_)
    simp only [foot, List.mem_cons, List.mem_append, Option.mem_toList] at hk ⊢
    rcases hk with hk | hk | hk
    · exact .inl (.inl hk)
    · rcases h.1 with e1 | ⟨g1, hg1, e1⟩
      · exact .inl (.inr (.inl (by rw [← e1]; exact hk)))
      · right
        have : g1 = k := by simpa using e1.symm.trans hk
        omega
    · exact .inl (.inr (.inr hk))

theorem Step.only {d : Nat} {v v1 : Value} {r : Option Nat} {w w1 w2 : World} (h : Step d v r w v1 w1) (h' : Only [] w1 w2) : Step d v r w v1 w2 := ⟨h.1, h.2.nil_trans h'⟩

theorem Step.pre {d : Nat} {v v1 : Value} {r : Option Nat} {w w1 w2 : World} (h : Only [] w w1) (h' : Step d v r w1 v1 w2) : Step d v r w v1 w2 :=
  Step.trans ⟨.inl rfl, h.mono (by simp)⟩ h'

def PPost (d : Nat) (v : Value) (r : Option Nat) (ns : List Nd) (n : Nd) (w : World) (e : Ending) (w' : World) : Prop :=
  ∃ v', e = .returned (.int .i64 (putId r ns n)) ∧ DagIs w' d v' r (putNs r ns n) ∧ Step d v r w v' w'

/-- A list of nodes in memory of its own (or nil). -/
def NodesAt (w : World) (v : Value) (ns : List Nd) : Prop := w.ownsRow 0 31 4 v ns.length (flat ns)

end Go.Proofs.YtigpnopeacicpaaDoor

/-
  fold, Add, Mul: several operands from left to right.
-/
namespace Go.Proofs.YtigpnopeacicpaaDoor
open Go.RowKit

theorem putNs_le (r : Option Nat) (ns : List Nd) (n : Nd) : (putNs r ns n).length ≤ ns.length + 1 := by
  unfold putNs
  split
  · split <;> simp
  · omega

def FPost (d : Nat) (v : Value) (r : Option Nat) (p : List Nd × Int) (w : World) (e : Ending) (w' : World) : Prop :=
  ∃ v', e = .returned (.int .i64 p.2) ∧ DagIs w' d v' r p.1 ∧ Step d v r w v' w'

end Go.Proofs.YtigpnopeacicpaaDoor
