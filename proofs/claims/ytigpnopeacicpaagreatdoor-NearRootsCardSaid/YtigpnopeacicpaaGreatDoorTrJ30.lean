/-
  Joined texts.
-/
import Derived.Test.YtigpnopeacicpaaGreatDoorTrJ29
import Derived.Shelf.Small.Bits
import Derived.Shelf.Strconv.Itoa0
import Derived.Shelf.Sort.Plain
import Derived.Shelf.Bits.Mul64
import Derived.Shelf.Slices.In.SortNone
import Derived.Test.YtigpnopeacicpaaGreatDoorProg
import Derived.Test.YtigpnopeacicpaaGreatDoorTrShelf
import Derived.Test.YtigpnopeacicpaaGreatDoorTrJ28
/-
  walk.Below: the search, step by step.
-/
namespace Go.Proofs.YtigpnopeacicpaaGreatDoor
open Go.RowKit

theorem ints_prefix {w : World} {g n c : Nat} {S : List Int} {x : Int} (h : IntsAt w (.slice (some ⟨g, 0, none⟩) n c) (S ++ [x])) : IntsAt w (.slice (some ⟨g, 0, none⟩) S.length c) S := by
  rcases h.2 with ⟨h0, _⟩ | ⟨g', cap, cur, he, hb, hg, h1, h2, h3, h4⟩
  · cases h0
  · injection he with e1 e2 e3
    injection e1 with e1
    injection e1 with e1 _ _
    subst e1 e3
    refine ⟨by simp [ints], .inr ⟨g, c, cur, rfl, hb, hg, by simp at h1; omega, h2, h3, ?_⟩⟩
    have h5 : (cur.toList.take ((S ++ [x]).length * 1)).take (S.length * 1) = (ints (S ++ [x])).take (S.length * 1) := by rw [h4]
    rw [List.take_take, show min (S.length * 1) ((S ++ [x]).length * 1) = S.length * 1 by simp] at h5
    rw [h5]
    have e : ints (S ++ [x]) = ints S ++ [.int .i64 x] := by simp [ints]
    rw [e, List.take_append_of_le_length (by simp [ints]), List.take_of_length_le (by simp [ints])]

section
variable {w0 w w' : World} {vb m nn : Nat} {f : Int → Option Int} {sb : Nat} {sv : Value} {S : List Int} {fv : Value} {F : List Int}
theorem BelowSt.grow_f (h : BelowSt w0 w vb m nn f sb sv S fv F) {g cap : Nat} {x : Int} (hown : w'.ownsRow 0 3 1 (.slice (some ⟨g, 0, none⟩) (F.length + 1) cap) (F.length + 1) (ints F ++ [.int .i64 x]))
    (hgr : (w.alloc (.cells #[.int .i64 x] 3)).grownBy w' fv.ownBlock) (hat : fv.ownBlock = some g ∨ g = w.heap.size + 1) : BelowSt w0 w' vb m nn f sb sv S (.slice (some ⟨g, 0, none⟩) (F.length + 1) cap) (F ++ [x]) := by
  have ho : Only fv.ownBlock.toList w w' := ((Only.refl _ w).alloc _).trans (Only.of_grown (S := fv.ownBlock.toList) hgr (by simp)) (fun k hk => .inl hk)
  obtain ⟨e1, e2, e3, e4⟩ := h.ne_mv
  obtain ⟨d1, d2, d3⟩ := h.ne_s
  have hmid : ∀ k, (∀ q, fv.ownBlock = some q → q ≠ k) → k ∉ fv.ownBlock.toList := fun k hk hm => hk k (by simpa using hm) rfl
  have hf' : IntsAt w' (.slice (some ⟨g, 0, none⟩) (F.length + 1) cap) (F ++ [x]) := by
    unfold IntsAt
    simpa [ints] using hown
  refine ⟨h.vis.only ho (hmid vb (fun q hq => (d3 q hq).1)), h.map.only ho (hmid m (fun q hq => e4 q hq)), h.stk.only ho (hmid sb (fun q hq => (d3 q hq).2)), h.s.only ho (fun q hq hm => h.ap q hq (by simpa using hm)), hf', ?_, h.fv_, h.fm, h.fs, h.fsv, ?_, h.only.trans ho (fun k hk => .inr (h.ffv k (by simpa using hk)))⟩
  · intro q hq hq2
    have e : g = q := by simpa [Value.ownBlock] using hq2
    subst e
    rcases hat with e | e
    · exact h.ap g hq e
    · have := h.s.lt g hq
      omega
  · intro q hq
    have e : g = q := by simpa [Value.ownBlock] using hq
    subst e
    rcases hat with e | e
    · exact h.ffv g e
    · have := h.only.size
      omega
end

def Srch (ns : List Nd) (R : Int → Prop) (w0 w : World) (vb m sb : Nat) (fv : Value) (F : List Int) (need : Int → Prop) : Prop :=
  ∃ nn f sv S, BelowSt w0 w vb m nn f sb sv S fv F ∧ Plain01 f ∧ Dfs ns R F S (Met f) ∧ nn = F.length + S.length ∧ ∀ y, need y → Met f y
theorem Srch.nil {ns : List Nd} {R : Int → Prop} {w0 w w' : World} {vb m sb : Nat} {fv : Value} {F : List Int} {need : Int → Prop} (h : Srch ns R w0 w vb m sb fv F need) (ho : Only [] w w') : Srch ns R w0 w' vb m sb fv F need := by
  obtain ⟨nn, f, sv, S, h1, h2⟩ := h
  exact ⟨nn, f, sv, S, h1.nil ho, h2⟩
theorem Srch.weak {ns : List Nd} {R : Int → Prop} {w0 w : World} {vb m sb : Nat} {fv : Value} {F : List Int} {need need' : Int → Prop} (h : Srch ns R w0 w vb m sb fv F need) (hn : ∀ y, need' y → need y) : Srch ns R w0 w vb m sb fv F need' := by
  obtain ⟨nn, f, sv, S, h1, h2, h3, h4, h5⟩ := h
  exact ⟨nn, f, sv, S, h1, h2, h3, h4, fun y hy => h5 y (hn y hy)⟩
theorem Srch.only {ns : List Nd} {R : Int → Prop} {w0 w : World} {vb m sb : Nat} {fv : Value} {F : List Int} {need : Int → Prop} (h : Srch ns R w0 w vb m sb fv F need) : Only [] w0 w := by
  obtain ⟨nn, f, sv, S, h1, _⟩ := h
  exact h1.only

theorem visit_srch {ns : List Nd} (ok : OkDag ns) (hns : ns.length ≤ 20000) {R : Int → Prop} {w0 w : World} {vb m sb : Nat} {fv : Value} {F : List Int} {need : Int → Prop} {id : Int} (h : Srch ns R w0 w vb m sb fv F need) (hid : Reach ns R id) :
    Calls Tryz.prog 142 #[.int .i64 id, .pointer (some ⟨vb, 0, none⟩), .pointer (some ⟨sb, 0, none⟩)] w fun e w' => e = .returned (.tuple #[]) ∧ Keep2 w w' ∧ Srch ns R w0 w' vb m sb fv F (fun y => need y ∨ y = id) := by
  obtain ⟨nn, f, sv, S, h1, h2, h3, h4, h5⟩ := h
  have hr := hid.range ok
  have hl := h3.len ok
  refine (visit_any w0 w vb m nn f sb sv S fv F id h1 h2 (by unfold Small; omega) (by omega) (by show _ ≤ _; omega)).mono ?_
  rintro e w' ⟨he, hK, ⟨hm, hb⟩ | ⟨hm, sv', hb⟩⟩
  · refine ⟨he, hK, nn, f, sv, S, hb, h2, h3, h4, fun y hy => ?_⟩
    rcases hy with hy | hy
    · exact h5 y hy
    · exact hy ▸ hm
  · refine ⟨he, hK, nn + 1, metF f id, sv', S ++ [id], hb, metF_plain h2 id, h3.visit hid hm (fun y => met_metF id y), by simp; omega, fun y hy => ?_⟩
    rw [met_metF]
    rcases hy with hy | hy
    · exact .inl (h5 y hy)
    · exact .inr hy
end Go.Proofs.YtigpnopeacicpaaGreatDoor

/-
  dag.Node, walk.parts.
-/
namespace Go.Proofs.YtigpnopeacicpaaGreatDoor
open Go.RowKit
attribute [local go_sem] run_store_float

set_option maxHeartbeats 800000 in
theorem dnode_in (d : Nat) (v : Value) (r : Option Nat) (ns : List Nd) (k : Nat) (w : World) (hd : DagIs w d v r ns) (hk : k < ns.length) :
    Calls Tryz.prog 114 #[.pointer (some ⟨d, 0, none⟩), .int .i64 (k : Int)] w fun e w' => e = .returned (.tuple #[(ns[k]?.getD nd0).val, .bool true]) ∧ Only [] w w' := by
  obtain ⟨A, c, hv, _, _, hc⟩ := NodesAt.shape (w := w) (u := v) (ns := ns) hd.row
  obtain ⟨g, rfl, x0, x1, x2, x3⟩ := hc k hk
  have h0 : w.cell? ⟨d, 0, none⟩ = some (.slice (some ⟨g, 0, none⟩) ns.length c) := by rw [← hv]; exact hd.blk.cell 0
  have hh : hasB ns.length (k : Int) = true := by simp [hasB]; omega
  generalize ns[k]?.getD nd0 = n at x0 x1 x2 x3 ⊢
  obtain ⟨nk, nf, na, nb⟩ := n
  simp only at x0 x1 x2 x3
  have hk' : (k : Int) < (ns.length : Int) := by omega
  have ho := (Only.refl [] w).alloc (.cells #[.int .i64 0, .float .f64 0, .int .i64 0, .int .i64 0] 95)
  have h0' := ho.cell h0 (by simp)
  have y0 := ho.cell x0 (by simp)
  have y1 := ho.cell x1 (by simp)
  have y2 := ho.cell x2 (by simp)
  have y3 := ho.cell x3 (by simp)
  clear hd hc hv ho x0 x1 x2 x3
  go_enter Tryz.func114, Tryz.ntmps114
  go_wp2_with (go_at_call 120; (with_reducible refine (has_any d _ ns.length c _ _ h0').mono ?_); rintro e w' ⟨rfl, rfl⟩)
  all_goals go_returns
  all_goals exact ⟨rfl, (Only.refl _ _).alloc _⟩

set_option maxHeartbeats 800000 in
theorem dnode_out (d : Nat) (v : Value) (r : Option Nat) (ns : List Nd) (k : Int) (w : World) (hd : DagIs w d v r ns) (hk : hasB ns.length k = false) :
    Calls Tryz.prog 114 #[.pointer (some ⟨d, 0, none⟩), .int .i64 k] w fun e w' => e = .returned (.tuple #[nd0.val, .bool false]) ∧ Only [] w w' := by
  obtain ⟨A, c, rfl⟩ := hd.shape
  have h0 : w.cell? ⟨d, 0, none⟩ = some (.slice A ns.length c) := hd.blk.cell 0
  have h0' := ((Only.refl [] w).alloc (.cells #[.int .i64 0, .float .f64 0, .int .i64 0, .int .i64 0] 95)).cell h0 (by simp)
  clear hd
  go_enter Tryz.func114, Tryz.ntmps114
  go_wp2_with (go_at_call 120; (with_reducible refine (has_any d _ ns.length c _ _ h0').mono ?_); rintro e w' ⟨rfl, rfl⟩)
  go_returns
  exact ⟨rfl, (Only.refl _ _).alloc _⟩

theorem arr_cells (w : World) (x0 x1 x2 x3 y0 y1 : Value) : (((w.alloc (.cells #[x0, x1, x2, x3] 95)).alloc (.cells #[y0, y1] 170)).cell? ⟨w.heap.size + 1, 0, none⟩ = some y0) ∧ (((w.alloc (.cells #[x0, x1, x2, x3] 95)).alloc (.cells #[y0, y1] 170)).cell? ⟨w.heap.size + 1, 1, none⟩ = some y1) := by
  have h := Blk.new (w.alloc (.cells #[x0, x1, x2, x3] 95)) 170 [y0, y1]
  rw [World.size_alloc] at h
  exact ⟨h.cell 0, h.cell 1⟩

set_option maxHeartbeats 800000 in
theorem parts_leaf (f : Nat) (a b : Int) (w : World) :
    Calls Tryz.prog 141 #[.agg #[.int .i64 0, .float .f64 f, .int .i64 a, .int .i64 b]] w fun e w' => e = .returned (.tuple #[.agg #[.int .i64 0, .int .i64 0], .int .i64 0]) ∧ Only [] w w' := by
  go_enter Tryz.func141, Tryz.ntmps141
  go_wp2_with fail
  obtain ⟨c0, c1⟩ := arr_cells w (.int .i64 0) (.float .f64 f) (.int .i64 a) (.int .i64 b) (.int .i64 0) (.int .i64 0)
  refine bodyPost_ret (v := .tuple #[.agg #[.int .i64 0, .int .i64 0], .int .i64 0]) (by simp [results, Tryz.results141, go_sem, c0, c1]) rfl ⟨rfl, ?_⟩
  exact ((Only.refl _ _).alloc _).alloc _

set_option maxHeartbeats 800000 in
theorem parts_root (f : Nat) (a b : Int) (w : World) :
    Calls Tryz.prog 141 #[.agg #[.int .i64 5, .float .f64 f, .int .i64 a, .int .i64 b]] w fun e w' => e = .returned (.tuple #[.agg #[.int .i64 a, .int .i64 0], .int .i64 1]) ∧ Only [] w w' := by
  go_enter Tryz.func141, Tryz.ntmps141
  go_wp2_with fail
  obtain ⟨c0, c1⟩ := arr_cells w (.int .i64 5) (.float .f64 f) (.int .i64 a) (.int .i64 b) (.int .i64 a) (.int .i64 0)
  refine bodyPost_ret (v := .tuple #[.agg #[.int .i64 a, .int .i64 0], .int .i64 1]) (by simp [results, Tryz.results141, go_sem, c0, c1]) rfl ⟨rfl, ?_⟩
  exact ((Only.refl _ _).alloc _).alloc _

set_option maxHeartbeats 800000 in
theorem parts_two (k : Int) (f : Nat) (a b : Int) (w : World) (h0 : (k == 0) = false) (h5 : (k == 5) = false) :
    Calls Tryz.prog 141 #[.agg #[.int .i64 k, .float .f64 f, .int .i64 a, .int .i64 b]] w fun e w' => e = .returned (.tuple #[.agg #[.int .i64 a, .int .i64 b], .int .i64 2]) ∧ Only [] w w' := by
  go_enter Tryz.func141, Tryz.ntmps141
  go_wp2_with fail
  obtain ⟨c0, c1⟩ := arr_cells w (.int .i64 k) (.float .f64 f) (.int .i64 a) (.int .i64 b) (.int .i64 a) (.int .i64 b)
  refine bodyPost_ret (v := .tuple #[.agg #[.int .i64 a, .int .i64 b], .int .i64 2]) (by simp [results, Tryz.results141, go_sem, c0, c1]) rfl ⟨rfl, ?_⟩
  exact ((Only.refl _ _).alloc _).alloc _
end Go.Proofs.YtigpnopeacicpaaGreatDoor

/-
  DERIVED: THE SHELF's CONTRACTS AT THIS DUMP, IN PLAIN WORDS (tools/lay-plain.mjs out of 'TryzShelf.lean', which tools/lay-shelf.mjs wrote): THE SAME DECLARATIONS UNDER THE SAME NAMES: 'import', 'namespace', 'open', 'def', 'theorem' AND NOTHING ELSE: no command of the shelf's: FOR A HAND-IN. Each laying: the table of numbers ('.._ren') and one theorem, a field a fact of the dump's own or the kernel's comparison; each contract: ONE APPLICATION.
-/
namespace Go.Proofs
open Go.Shelf
def Tryz.lays189_ren : Go.Shelf.Ren := ⟨fun | 189 => 143 | 125 => 163 | 257 => 162 | 128 => 176 | 129 => 124 | 294 => 167 | 295 => 168 | 296 => 169 | 297 => 170 | 298 => 171 | 299 => 172 | 216 => 173 | 300 => 174 | 301 => 175 | 328 => 177 | 329 => 178 | 330 => 179 | 331 => 180 | 332 => 181 | 215 => 182 | 343 => 183 | n => n, fun | 28 => 108 | 3 => 3 | 46 => 176 | 0 => 0 | 51 => 205 | 53 => 133 | 4 => 4 | 183 => 199 | 182 => 198 | 131 => 49 | 5 => 5 | 9 => 9 | 218 => 206 | 222 => 210 | 228 => 212 | 229 => 213 | n => n, fun | n => n⟩
theorem Tryz.lays189 : Go.Proofs.Lays.n189 Tryz.prog Tryz.lays189_ren := {
  mixed := by kernel_rfl
  f125 := Tryz.func163.trans (congrArg some (by kernel_rfl))
  f128 := Tryz.func176.trans (congrArg some (by kernel_rfl))
  f129 := Tryz.func124.trans (congrArg some (by kernel_rfl))
  f189 := Tryz.func143.trans (congrArg some (by kernel_rfl))
  f215 := Tryz.func182.trans (congrArg some (by kernel_rfl))
  f216 := Tryz.func173.trans (congrArg some (by kernel_rfl))
  f257 := Tryz.func162.trans (congrArg some (by kernel_rfl))
  f294 := Tryz.func167.trans (congrArg some (by kernel_rfl))
  f295 := Tryz.func168.trans (congrArg some (by kernel_rfl))
  f296 := Tryz.func169.trans (congrArg some (by kernel_rfl))
  f297 := Tryz.func170.trans (congrArg some (by kernel_rfl))
  f298 := Tryz.func171.trans (congrArg some (by kernel_rfl))
  f299 := Tryz.func172.trans (congrArg some (by kernel_rfl))
  f300 := Tryz.func174.trans (congrArg some (by kernel_rfl))
  f301 := Tryz.func175.trans (congrArg some (by kernel_rfl))
  f328 := Tryz.func177.trans (congrArg some (by kernel_rfl))
  f329 := Tryz.func178.trans (congrArg some (by kernel_rfl))
  f330 := Tryz.func179.trans (congrArg some (by kernel_rfl))
  f331 := Tryz.func180.trans (congrArg some (by kernel_rfl))
  f332 := Tryz.func181.trans (congrArg some (by kernel_rfl))
  f343 := Tryz.func183.trans (congrArg some (by kernel_rfl))
  t0 := Tryz.underlying0
  a0 := Tryz.isAgg0
  z0 := Tryz.sizeOf0
  v0 := Tryz.zeroValue0
  t3 := Tryz.underlying3
  a3 := Tryz.isAgg3
  z3 := Tryz.sizeOf3
  v3 := Tryz.zeroValue3
  t4 := Tryz.underlying4
  a4 := Tryz.isAgg4
  z4 := Tryz.sizeOf4
  v4 := Tryz.zeroValue4
  t5 := Tryz.underlying5
  a5 := Tryz.isAgg5
  z5 := Tryz.sizeOf5
  v5 := Tryz.zeroValue5
  t9 := Tryz.underlying9
  a9 := Tryz.isAgg9
  z9 := Tryz.sizeOf9
  v9 := Tryz.zeroValue9
  t28 := Tryz.underlying108
  a28 := Tryz.isAgg108
  z28 := Tryz.sizeOf108
  v28 := Tryz.zeroValue108
  t46 := Tryz.underlying176
  a46 := Tryz.isAgg176
  z46 := Tryz.sizeOf176
  v46 := Tryz.zeroValue176
  t51 := Tryz.underlying205
  a51 := Tryz.isAgg205
  z51 := Tryz.sizeOf205
  v51 := Tryz.zeroValue205
  t53 := Tryz.underlying133
  a53 := Tryz.isAgg133
  z53 := Tryz.sizeOf133
  v53 := Tryz.zeroValue133
  t131 := Tryz.underlying49
  a131 := Tryz.isAgg49
  z131 := Tryz.sizeOf49
  v131 := Tryz.zeroValue49
  t182 := Tryz.underlying198
  a182 := Tryz.isAgg198
  z182 := Tryz.sizeOf198
  v182 := Tryz.zeroValue198
  t183 := Tryz.underlying199
  a183 := Tryz.isAgg199
  z183 := Tryz.sizeOf199
  v183 := Tryz.zeroValue199
  t218 := Tryz.underlying206
  a218 := Tryz.isAgg206
  z218 := Tryz.sizeOf206
  v218 := Tryz.zeroValue206
  t222 := Tryz.underlying210
  a222 := Tryz.isAgg210
  z222 := Tryz.sizeOf210
  v222 := Tryz.zeroValue210
  t228 := Tryz.underlying212
  a228 := Tryz.isAgg212
  z228 := Tryz.sizeOf212
  v228 := Tryz.zeroValue212
  t229 := Tryz.underlying213
  a229 := Tryz.isAgg213
  z229 := Tryz.sizeOf213
  v229 := Tryz.zeroValue213 }
open Go.Sort Go.RowKit in
theorem Tryz.slices_Sort_int (blk off cap : Nat) (zs : List Int) (w : World) (hH : Holds (Value.int .i64) w blk off zs.toArray) (hblk : blk < w.heap.size) (hsz : zs.length < 4611686018427387904) :
    Calls Tryz.prog 143 #[.slice (some ⟨blk, off, none⟩) zs.length cap] w fun e w' =>
      e = .returned (.tuple #[]) ∧ ∃ n os, w' = grow (putRow (Value.int .i64) (Sort.ahead w n) blk off (zs.mergeSort fun x y => decide (x ≤ y)).toArray) os := Any.slices_Sort_int Tryz.lays189 blk off cap zs w hH hblk hsz
theorem Tryz.slices_Sort_int_none (p : Option Addr) (cap : Nat) (w : World) :
    Calls Tryz.prog 143 #[.slice p 0 cap] w fun e w' => e = .returned (.tuple #[]) ∧ w' = w := Any.slices_Sort_int_none Tryz.lays189 p cap w
end Go.Proofs

/-
  A row of ints of the call's own, sorted.
-/
namespace Go.Proofs.YtigpnopeacicpaaGreatDoor
open Go.RowKit Go.Sort

theorem putCells_take (Z : List Int) (cur : Array Value) (h : Z.length ≤ cur.size) : (putCells (Value.int .i64) 0 Z.toArray cur).toList.take Z.length = ints Z := by
  apply List.ext_getElem?
  intro k
  by_cases hk : k < Z.length
  · rw [List.getElem?_take_of_lt hk, Array.getElem?_toList, putCells, Array.getElem?_mapIdx, Array.getElem?_eq_getElem (by omega)]
    simp only [Option.map_some, ints, List.getElem?_map, List.getElem?_eq_getElem hk, Nat.zero_le, true_and, List.size_toArray, Nat.zero_add, if_pos hk, Nat.sub_zero]
    rw [getElem!_pos _ k (by simpa using hk)]
    simp
  · rw [List.getElem?_take_eq_none (by omega), List.getElem?_eq_none (by simp [ints]; omega)]

theorem sort_row {w : World} {g c : Nat} {F Z : List Int} (h : IntsAt w (.slice (some ⟨g, 0, none⟩) F.length c) F) (hl : Z.length = F.length) (n : Nat) (os : Array Obj) :
    IntsAt (grow (putRow (Value.int .i64) (Sort.ahead w n) g 0 Z.toArray) os) (.slice (some ⟨g, 0, none⟩) Z.length c) Z ∧ Only [g] w (grow (putRow (Value.int .i64) (Sort.ahead w n) g 0 Z.toArray) os) := by
  rcases h.2 with ⟨h0, _⟩ | ⟨g', cap, cur, he, hb, hg, h1, h2, h3, h4⟩
  · cases h0
  · injection he with e1 e2 e3
    injection e1 with e1
    injection e1 with e1 _ _
    subst e1 e3
    have hlt := lt_of_heap hg
    refine ⟨⟨by simp [ints], .inr ⟨g, c, putCells (Value.int .i64) 0 Z.toArray cur, rfl, hb, ?_, by omega, h2, by simp [putCells, h3], ?_⟩⟩, rfl, rfl, rfl, ?_, ?_⟩
    · rw [heap_grow_old _ _ (by simpa [putRow, mapBlock, Sort.ahead] using hlt)]
      simp only [putRow, mapBlock, Sort.ahead, Array.getElem?_modify, if_true, hg, Option.map_some]
      rfl
    · rw [Nat.mul_one]
      exact putCells_take Z cur (by omega)
    · simp [putRow, mapBlock, Sort.ahead]
    · intro k hk hn
      rw [heap_grow_old _ _ (by simpa [putRow, mapBlock, Sort.ahead] using hk)]
      simp only [putRow, mapBlock, Sort.ahead, Array.getElem?_modify]
      rw [if_neg (by intro e; exact hn (by simp [e]))]

theorem sort_any (w : World) (v : Value) (F : List Int) (h : IntsAt w v F) (hl : F.length ≤ 1000000) :
    Calls Tryz.prog 143 #[v] w fun e w' => e = .returned (.tuple #[]) ∧ IntsAt w' v (F.mergeSort fun x y => decide (x ≤ y)) ∧ Only v.ownBlock.toList w w' := by
  have hlen : (F.mergeSort fun x y => decide (x ≤ y)).length = F.length := List.length_mergeSort F
  rcases h.2 with ⟨rfl, h0⟩ | ⟨g, cap, cur, rfl, hb, hg, h1, h2, h3, h4⟩
  · have e : F = [] := List.length_eq_zero_iff.1 h0
    subst e
    refine (Tryz.slices_Sort_int_none none 0 w).mono ?_
    rintro e w' ⟨he, hw⟩
    refine ⟨he, hw ▸ ?_, hw ▸ Only.refl _ _⟩
    rw [List.length_eq_zero_iff.1 (hlen.trans rfl)]
    exact h
  · have hc := World.ownsRow.cells h (g := g) rfl
    refine (Tryz.slices_Sort_int g 0 cap F w (fun j hj => ⟨?_, ?_⟩) (lt_of_heap hg) (by omega)).mono ?_
    · have hj' : j < F.length := by simpa using hj
      have h5 := hc j (.int .i64 (F[j]?.getD 0)) (by simp [ints, hj'])
      rw [addr_add] at h5
      rw [h5, getElem!_pos _ j hj]
      simp [hj']
    · simp [World.frozen?, hg]
    · rintro e w' ⟨he, n, os, hw⟩
      obtain ⟨r1, r2⟩ := sort_row (Z := F.mergeSort fun x y => decide (x ≤ y)) h hlen n os
      rw [← hw, hlen] at r1
      rw [← hw] at r2
      exact ⟨he, r1, r2⟩
end Go.Proofs.YtigpnopeacicpaaGreatDoor

/-
  walk.Below: the walk.
-/
namespace Go.Proofs.YtigpnopeacicpaaGreatDoor
open Go.RowKit
attribute [local go_sem] run_store_float

abbrev nilI : Value := .slice none 0 0
theorem srch_start (ns : List Nd) (R : Int → Prop) (w : World) :
    Srch ns R w (((w.alloc (.cells #[nilI] 108)).alloc (.map #[] 0)).alloc (.cells #[.map (some (w.heap.size + 1))] 147)) (w.heap.size + 1 + 1) (w.heap.size + 1) w.heap.size nilI [] (fun _ => False) := by
  have e1 : (w.alloc (.cells #[nilI] 108)).heap.size = w.heap.size + 1 := World.size_alloc w _
  have e2 : ((w.alloc (.cells #[nilI] 108)).alloc (.map #[] 0)).heap.size = w.heap.size + 1 + 1 := by rw [World.size_alloc, e1]
  have hv := Blk.new ((w.alloc (.cells #[nilI] 108)).alloc (.map #[] 0)) 147 [.map (some (w.heap.size + 1))]
  rw [e2] at hv
  have hm := MapI.made (w.alloc (.cells #[nilI] 108))
  rw [e1] at hm
  refine ⟨0, fun _ => none, nilI, [], ⟨hv, hm.only ((Only.refl [] _).alloc _) (by simp), ((Blk.new w 108 [nilI]).alloc _).alloc _, World.ownsRow_nil _ _ _ _, World.ownsRow_nil _ _ _ _, ?_, by omega, by omega, by omega, ?_, ?_, (((Only.refl _ _).alloc _).alloc _).alloc _⟩, fun _ => .inl rfl, ⟨by simp, fun x => by simp [Met], fun x hx => by simp at hx⟩, rfl, fun y hy => hy.elim⟩
  · intro g hg; simp [Value.ownBlock] at hg
  · intro g hg; simp [Value.ownBlock] at hg
  · intro g hg; simp [Value.ownBlock] at hg

theorem ints_form {w : World} {u : Value} {S : List Int} (h : IntsAt w u S) (hn : 0 < S.length) : ∃ g c, u = .slice (some ⟨g, 0, none⟩) S.length c ∧ S.length ≤ c ∧ c ≤ maxLen ∧ ∀ k, k < S.length → w.cell? ⟨g, k, none⟩ = some (.int .i64 (S[k]?.getD 0)) := by
  rcases h.2 with ⟨_, h0⟩ | ⟨g, cap, cur, rfl, _, hg, hn', hm, _⟩
  · omega
  · refine ⟨g, cap, rfl, hn', hm, fun k hk => ?_⟩
    have hc := World.ownsRow.cells h (g := g) rfl
    have h1 := hc k (.int .i64 (S[k]?.getD 0)) (by simp [ints, hk])
    rw [addr_add, Nat.zero_add] at h1
    exact h1

def Need (ns : List Nd) (xs F : List Int) (y : Int) : Prop := (y ∈ xs ∧ 0 ≤ y ∧ y < ns.length) ∨ ∃ z ∈ F, y ∈ kids (nodeAt ns z)
theorem need_next {ns : List Nd} {xs F : List Int} {x y : Int} (h : Need ns xs (F ++ [x]) y) : Need ns xs F y ∨ y ∈ kids (nodeAt ns x) := by
  rcases h with h | ⟨z, hz, hy⟩
  · exact .inl (.inl h)
  · rcases List.mem_append.1 hz with hz | hz
    · exact .inl (.inr ⟨z, hz, hy⟩)
    · have e : z = x := by simpa using hz
      exact .inr (e ▸ hy)

def lenV : Value → Nat
  | .slice _ n _ => n
  | _ => 0

set_option maxHeartbeats 3200000 in
set_option maxRecDepth 100000 in
theorem below_any (d : Nat) (v : Value) (r : Option Nat) (ns : List Nd) (xs : List Int) (A : Option Addr) (c : Nat) (w : World) (hd : DagIs w d v r ns) (ok : OkDag ns) (hns : ns.length ≤ 20000) (hA : Hid (IRead w A xs)) (hxs : (xs.length : Int) ≤ 1000) :
    Calls Tryz.prog 116 #[.pointer (some ⟨d, 0, none⟩), .slice A xs.length c] w fun e w' => ∃ u, e = .returned u ∧ IntsAt w' u (belowL ns (· ∈ xs)) ∧ (∀ g, u.ownBlock = some g → w.heap.size ≤ g) ∧ Only [] w w' := by
  obtain ⟨i0, hi, hz0, hz1, hz2⟩ := int_parts
  have hmf : ∀ (fn : Fn) (first cap : Array Value) (w : World), (Instr.makeFunc fn first cap).run Tryz.prog w = .ok (.func fn first cap) w := fun _ _ _ _ => rfl
  have hmm := @run_makeMap Tryz.prog
  have HD := Lib.hid hd
  have HOk := Lib.hid ok
  have HNs := Lib.hid hns
  have S0 := Lib.hid (srch_start ns (· ∈ xs) w)
  clear hd ok hns
  go_enter Tryz.func116, Tryz.ntmps116
  go_wp2_with fail
  clear hmf hmm
  generalize w.heap.size + 1 + 1 = vb at S0 ⊢
  generalize w.heap.size + 1 = m at S0 ⊢
  generalize w.heap.size = sb at S0 ⊢
  go_loopw [24] (fun i wr => ∃ k : Nat, k ≤ xs.length ∧ i = .int .i64 (k : Int) ∧ Srch ns (· ∈ xs) w wr vb m sb nilI [] (fun y => (∃ j, j < k ∧ y = xs[j]?.getD 0) ∧ 0 ≤ y ∧ y < ns.length)) (fun i _ => xs.length - (intOf i).toNat)
  case atStart => exact ⟨0, Nat.zero_le _, rfl, S0.out.weak (fun y hy => by obtain ⟨⟨j, hj, _⟩, _⟩ := hy; omega)⟩
  case round =>
    obtain ⟨k, hk, rfl, hS⟩ := hrel
    have HS := Lib.hid hS
    clear hS S0
    by_cases hlt : k < xs.length
    · obtain ⟨b, o, rfl, hc⟩ := hA.out k hlt
      have cx := HS.out.only.cell hc (by simp)
      have HX : Hid (xs[k]?.getD 0 ∈ xs) := by
        show _ ∈ _
        rw [List.getElem?_eq_getElem hlt]
        exact List.getElem_mem hlt
      have HStep : Hid (∀ y, ((∃ j, j < k + 1 ∧ y = xs[j]?.getD 0) ∧ 0 ≤ y ∧ y < ns.length) → (((∃ j, j < k ∧ y = xs[j]?.getD 0) ∧ 0 ≤ y ∧ y < ns.length) ∨ (y = xs[k]?.getD 0 ∧ 0 ≤ y ∧ y < ns.length))) := by
        rintro y ⟨⟨j, hj, hy⟩, h0⟩
        by_cases e : j = k
        · exact .inr ⟨e ▸ hy, h0⟩
        · exact .inl ⟨⟨j, by omega, hy⟩, h0⟩
      clear hc
      generalize xs[k]?.getD 0 = x at cx HX HStep
      have hk' : (k : Int) < (xs.length : Int) := by omega
      have HDr := Lib.hid (HD.out.only HS.out.only (by simp))
      by_cases hin : 0 ≤ x ∧ x < (ns.length : Int)
      · obtain ⟨a, rfl⟩ : ∃ a : Nat, x = (a : Int) := ⟨x.toNat, by omega⟩
        have ha : a < ns.length := by omega
        go_wp2_with fail
        refine (dnode_in d v r ns a wr HDr.out ha).mono ?_
        rintro e w2 ⟨rfl, ho2⟩
        have HS2 := Lib.hid (HS.out.nil ho2)
        clear ho2 HS HDr cx
        generalize ns[a]?.getD nd0 = n
        obtain ⟨nk, nf, na, nb⟩ := n
        simp only [Nd.val]
        go_wp2_with fail
        have HS3 := Lib.hid (HS2.out.nil ((Only.refl [] w2).alloc (.cells #[.int .i64 nk, .float .f64 nf, .int .i64 na, .int .i64 nb] 95)))
        refine (visit_srch HOk.out HNs.out HS3.out (Reach.root (a : Int) HX.out hin.1 hin.2)).mono ?_
        rintro e w4 ⟨rfl, -, hS4⟩
        have HS4 := Lib.hid hS4
        clear hS4 HS2 HS3
        go_wp2_with fail
        go_roundw
        case rel => exact ⟨k + 1, by omega, by go_num, HS4.out.weak (fun y hy => by
          rcases HStep.out y hy with h | h
          · exact .inl h
          · exact .inr h.1)⟩
        case measure => simp [intOf]; omega
      · have hout : hasB ns.length x = false := by simp [hasB]; omega
        go_wp2_with fail
        refine (dnode_out d v r ns x wr HDr.out hout).mono ?_
        rintro e w2 ⟨rfl, ho2⟩
        have HS2 := Lib.hid (HS.out.nil ho2)
        clear ho2 HS HDr cx
        simp only [Nd.val, nd0]
        go_wp2_with fail
        have HS3 := Lib.hid (HS2.out.nil ((Only.refl [] w2).alloc (.cells #[.int .i64 0, .float .f64 0, .int .i64 0, .int .i64 0] 95)))
        go_roundw
        case rel => exact ⟨k + 1, by omega, by go_num, HS3.out.weak (fun y hy => by
          rcases HStep.out y hy with h | h
          · exact h
          · obtain ⟨rfl, h1, h2⟩ := h
            exact absurd ⟨h1, h2⟩ hin)⟩
        case measure => simp [intOf]; omega
    · have hnl : ¬ (k : Int) < (xs.length : Int) := by omega
      have HS1 : Hid (Srch ns (· ∈ xs) w wr vb m sb nilI [] (Need ns xs [])) := HS.out.weak (fun y hy => by
        rcases hy with ⟨hy, h0⟩ | ⟨z, hz, _⟩
        · obtain ⟨j, hj, rfl⟩ := List.getElem_of_mem hy
          exact ⟨⟨j, by omega, by rw [List.getElem?_eq_getElem hj]; rfl⟩, h0⟩
        · simp at hz)
      clear HS
      go_wp2_with fail
      go_loopw [5] (fun fv wq => ∃ F, Srch ns (· ∈ xs) w wq vb m sb fv F (Need ns xs F)) (fun fv _ => ns.length - lenV fv)
      case atStart => exact ⟨[], HS1.out⟩
      case round =>
        obtain ⟨F, nn, f, sv, S, hB, h01, hD, hnn, hneed⟩ := hrel
        clear HS1
        have HB := Lib.hid hB
        have H01 := Lib.hid h01
        have HDf := Lib.hid hD
        have HNn := Lib.hid hnn
        have HNeed := Lib.hid hneed
        have hlen := hD.len HOk.out
        obtain ⟨Af, cf, rfl, -⟩ := hB.f.shape
        rcases List.eq_nil_or_concat S with rfl | ⟨S', x, rfl⟩
        · obtain ⟨As, cs, rfl, -⟩ := hB.s.shape
          have cstk : wr.cell? ⟨sb, 0, none⟩ = some (.slice As 0 cs) := hB.stk.cell 0
          have HFin : Hid ((F.mergeSort fun x y => decide (x ≤ y)) = belowL ns (· ∈ xs)) := dfs_done HOk.out hD (fun x hx y hy => hneed y (.inr ⟨x, hx, hy⟩)) (fun x hx h0 h1 => hneed x (.inl ⟨hx, h0, h1⟩))
          have HL : Hid (F.length ≤ 1000000) := by
            have := HNs.out
            show _ ≤ _
            simp at hlen
            omega
          clear hB h01 hD hnn hneed hlen HDf HNn HNeed H01
          go_wp2_with fail
          refine (sort_any wr (.slice Af F.length cf) F HB.out.f HL.out).mono ?_
          rintro e w5 ⟨rfl, hs5, ho5⟩
          have HS5 := Lib.hid hs5
          have HO5 := Lib.hid ho5
          clear hs5 ho5
          go_wp2_with fail
          go_returns
          refine ⟨_, rfl, HFin.out ▸ HS5.out, fun g hg => HB.out.ffv g hg, HB.out.only.trans HO5.out (fun k hk => .inr (HB.out.ffv k (by simpa using hk)))⟩
        · rw [List.concat_eq_append] at *
          obtain ⟨gs, cs, rfl, hsc, hsm, hcell⟩ := ints_form hB.s (by simp)
          have hx := hcell S'.length (by simp)
          rw [show (S' ++ [x])[S'.length]?.getD 0 = x by simp] at hx
          have hpre := ints_prefix hB.s
          have cstk : wr.cell? ⟨sb, 0, none⟩ = some (.slice (some ⟨gs, 0, none⟩) (S' ++ [x]).length cs) := hB.stk.cell 0
          have fstk := hB.stk.frozen 0
          have hrx := hD.r x (by simp)
          have hrg := hrx.range HOk.out
          have HRx := Lib.hid hrx
          rw [List.length_append, List.length_singleton] at cstk hsc hlen
          have HPop := Lib.hid (hB.stack (sv' := .slice (some ⟨gs, 0, none⟩) S'.length cs) hpre (fun g hg => hB.ap g hg) (fun g hg => hB.fsv g hg))
          clear hB h01 hD hnn hneed hcell hpre hrx
          have HLen : Hid (F.length + (S'.length + 1) ≤ ns.length) := hlen
          clear hlen
          obtain ⟨a, rfl⟩ : ∃ a : Nat, x = (a : Int) := ⟨x.toNat, by omega⟩
          have ha : a < ns.length := by omega
          have hq : (S'.length : Int) ≤ 20000 := by have := HLen.out; have := HNs.out; omega
          have hsc' : S'.length ≤ cs := by omega
          have hsz : (wr.setCell ⟨sb, 0, none⟩ (.slice (some ⟨gs, 0, none⟩) S'.length cs)).heap.size = wr.heap.size := by simp [World.setCell]
          have HSz := Lib.hid hsz
          clear hrg hsz
          go_wp2_with (at_builtin; refine wpList_append_lies _ rfl _ _ _ rfl 0 3 i0 _ 1 8 Tryz.underlying108 hi hz0 hz1 hz2 rfl (by decide) (.slice Af F.length cf) F.length (ints F) rfl (by exact HPop.out.f.alloc _) ⟨wr.heap.size, 0, none⟩ 1 1 [.int .i64 (a : Int)] rfl rfl (by intro j u hu; have h1 := cell_one_new (wr.setCell ⟨sb, 0, none⟩ (.slice (some ⟨gs, 0, none⟩) S'.length cs)) (.int .i64 (a : Int)) 3 j u hu; rw [HSz.out] at h1; exact h1) (by simp [Value.oneCell']) (by decide) (by have := HLen.out; have := HNs.out; simp only [maxLen]; omega) (by have := HLen.out; have := HNs.out; omega) (Nat.zero_le _) (wr.heap.size + 1) (by rw [World.size_alloc, HSz.out]) ?_; intro g cap w3 hown2 hgr2 hat2 hlt2; have HS3 : Hid (Srch ns (· ∈ xs) w w3 vb m sb (.slice (some ⟨g, 0, none⟩) (F.length + 1) cap) (F ++ [(a : Int)]) (Need ns xs F)) := ⟨nn, f, _, S', HPop.out.grow_f hown2 hgr2 (by rw [HSz.out]; exact hat2), H01.out, HDf.out.pop, by have := HNn.out; simp at this ⊢; omega, HNeed.out⟩; clear hown2 hgr2 hat2 hlt2)
          clear hx cstk fstk HPop HDf HNn HB H01 HNeed hsc hsm hq hsc' HSz
          have HDr := Lib.hid (HD.out.only HS3.out.only (by simp))
          refine (dnode_in d v r ns a w3 HDr.out ha).mono ?_
          rintro e w4 ⟨rfl, ho4⟩
          have HS4 := Lib.hid (HS3.out.nil ho4)
          have HK : Hid (kids (nodeAt ns (a : Int)) = kids (ns[a]?.getD nd0)) := rfl
          clear ho4 HS3 HDr
          generalize ns[a]?.getD nd0 = n at HK ⊢
          obtain ⟨nk, nf, na, nb⟩ := n
          simp only [Nd.val]
          have HS5 := Lib.hid (HS4.out.nil ((Only.refl [] w4).alloc (.cells #[.int .i64 nk, .float .f64 nf, .int .i64 na, .int .i64 nb] 95)))
          clear HS4
          by_cases h0 : nk = 0
          · subst h0
            have HKids : Hid (∀ y ∈ kids (nodeAt ns (a : Int)), False) := by
              show ∀ y ∈ _, False
              rw [HK.out]
              simp [kids]
            go_wp2_with fail
            refine (parts_leaf nf na nb _).mono ?_
            rintro e w6 ⟨rfl, ho6⟩
            have HS7 := Lib.hid ((HS5.out.nil ho6).nil ((Only.refl [] w6).alloc (.cells #[.int .i64 0, .int .i64 0] 170)))
            clear HS5 ho6
            go_wp2_with fail
            refine wp_loop_rounds 1 ?_
            rw [rounds_succ]
            go_wp2_with fail
            go_roundw
            case rel => exact ⟨F ++ [(a : Int)], HS7.out.weak (fun y hy => by
              rcases need_next hy with h | h
              · first | exact h | exact .inl h | exact .inl (.inl h)
              · exact (HKids.out y h).elim)⟩
            case measure => have := HLen.out; simp [lenV]; omega
          · by_cases h5 : nk = 5
            · subst h5
              have HKids : Hid (kids (nodeAt ns (a : Int)) = [na]) := by
                show _ = _
                rw [HK.out]
                simp [kids]
              go_wp2_with fail
              refine (parts_root nf na nb _).mono ?_
              rintro e w6 ⟨rfl, ho6⟩
              have HS7 := Lib.hid ((HS5.out.nil ho6).nil ((Only.refl [] w6).alloc (.cells #[.int .i64 na, .int .i64 0] 170)))
              have c0 := (Blk.new w6 170 [.int .i64 na, .int .i64 0]).cell 0
              simp only [List.getElem?_cons_zero] at c0
              clear HS5 ho6
              go_wp2_with fail
              refine wp_loop_rounds 2 ?_
              rw [rounds_succ]
              go_wp2_with fail
              refine (visit_srch HOk.out HNs.out HS7.out (Reach.kid (a : Int) na HRx.out (by rw [HKids.out]; simp))).mono ?_
              rintro e w8 ⟨rfl, hK8, hS8⟩
              have HS8 := Lib.hid hS8
              clear hS8 HS7 c0 hK8
              go_wp2_with fail
              rw [rounds_succ]
              go_wp2_with fail
              go_roundw
              case rel => exact ⟨F ++ [(a : Int)], HS8.out.weak (fun y hy => by
                rcases need_next hy with h | h
                · first | exact h | exact .inl h | exact .inl (.inl h)
                · (rw [HKids.out] at h; exact .inr (by simpa using h)))⟩
              case measure => have := HLen.out; simp [lenV]; omega
            · have HKids : Hid (kids (nodeAt ns (a : Int)) = [na, nb]) := by
                show _ = _
                rw [HK.out]
                simp [kids, h0, h5]
              have g0 : (nk == 0) = false := by simpa using h0
              have g5 : (nk == 5) = false := by simpa using h5
              clear h0 h5
              go_wp2_with fail
              refine (parts_two nk nf na nb _ g0 g5).mono ?_
              rintro e w6 ⟨rfl, ho6⟩
              have HS7 := Lib.hid ((HS5.out.nil ho6).nil ((Only.refl [] w6).alloc (.cells #[.int .i64 na, .int .i64 nb] 170)))
              have HB6 := Lib.hid (Blk.new w6 170 [.int .i64 na, .int .i64 nb])
              have c0 := HB6.out.cell 0
              simp only [List.getElem?_cons_zero] at c0
              clear HS5 ho6
              go_wp2_with fail
              refine wp_loop_rounds 3 ?_
              rw [rounds_succ]
              go_wp2_with fail
              refine (visit_srch HOk.out HNs.out HS7.out (Reach.kid (a : Int) na HRx.out (by rw [HKids.out]; simp))).mono ?_
              rintro e w8 ⟨rfl, hK8, hS8⟩
              have HS8 := Lib.hid hS8
              have HB8 := Lib.hid (hK8 _ _ HB6.out)
              have c1 := HB8.out.cell 1
              simp only [List.getElem?_cons_succ, List.getElem?_cons_zero] at c1
              clear hS8 HS7 c0 hK8 HB6
              go_wp2_with fail
              rw [rounds_succ]
              go_wp2_with fail
              refine (visit_srch HOk.out HNs.out HS8.out (Reach.kid (a : Int) nb HRx.out (by rw [HKids.out]; simp))).mono ?_
              rintro e w9 ⟨rfl, hK9, hS9⟩
              have HS9 := Lib.hid hS9
              clear hS9 HS8 c1 hK9 HB8
              go_wp2_with fail
              rw [rounds_succ]
              go_wp2_with fail
              go_roundw
              case rel => exact ⟨F ++ [(a : Int)], HS9.out.weak (fun y hy => by
                rcases need_next hy with h | h
                · first | exact h | exact .inl h | exact .inl (.inl h)
                · (rw [HKids.out] at h; simp at h; rcases h with h | h; exact .inl (.inr h); exact .inr h))⟩
              case measure => have := HLen.out; simp [lenV]; omega
end Go.Proofs.YtigpnopeacicpaaGreatDoor

/-
  walk.Roots: how many roots.
-/
namespace Go.Proofs.YtigpnopeacicpaaGreatDoor
open Go.RowKit
attribute [local go_sem] run_store_float

structure Ids (ns : List Nd) (L : List Int) : Prop where
  mem : ∀ k, k < L.length → ∃ a : Nat, L[k]?.getD 0 = (a : Int) ∧ a < ns.length
  len : L.length ≤ ns.length

theorem belowL_ids {ns : List Nd} (ok : OkDag ns) (R : Int → Prop) : Ids ns (belowL ns R) := by
  constructor
  · intro k hk
    have hm : (belowL ns R)[k] ∈ belowL ns R := List.getElem_mem hk
    have hr := ((mem_belowL ok).1 hm).range ok
    refine ⟨((belowL ns R)[k]).toNat, ?_, by omega⟩
    rw [List.getElem?_eq_getElem hk]
    simp only [Option.getD_some]
    omega
  · unfold belowL
    rw [List.length_map]
    exact Nat.le_trans (List.length_filter_le _ _) (by simp)

noncomputable def belowOf (ns : List Nd) (root : Int) : List Int := belowL ns (· ∈ [root])

end Go.Proofs.YtigpnopeacicpaaGreatDoor

/-
  How deep a number is: the plain law.
-/
namespace Go.Proofs.YtigpnopeacicpaaGreatDoor

theorem kids_cases (n : Nd) : kids n = [] ∨ (∃ a, kids n = [a]) ∨ ∃ a b, kids n = [a, b] := by
  unfold kids
  split
  · exact .inl rfl
  · split
    · exact .inr (.inl ⟨_, rfl⟩)
    · exact .inr (.inr ⟨_, _, rfl⟩)
theorem ids_kids {ns : List Nd} (ok : OkDag ns) {R : Int → Prop} {k : Nat} (hk : k < (belowL ns R).length) :
    (∀ c ∈ kids (nodeAt ns ((belowL ns R)[k]?.getD 0)), c ∈ (belowL ns R).take k) ∧ (belowL ns R)[k]?.getD 0 ∉ (belowL ns R).take k := by
  have hp := belowL_asc ns R
  rw [List.pairwise_iff_getElem] at hp
  rw [List.getElem?_eq_getElem hk, Option.getD_some]
  have hm : (belowL ns R)[k] ∈ belowL ns R := List.getElem_mem hk
  have hr := (mem_belowL ok).1 hm
  constructor
  · intro c hc
    have h1 := hr.kid _ c hc
    have h2 := ok _ (hr.range ok).1 (hr.range ok).2 c hc
    obtain ⟨j, hj, e⟩ := List.getElem_of_mem ((mem_belowL ok).2 h1)
    have hjk : j < k := by
      by_cases hjk : j < k
      · exact hjk
      · by_cases e2 : j = k
        · subst e2; omega
        · have := hp k j hk hj (by omega); omega
    rw [List.mem_take_iff_getElem]
    exact ⟨j, by omega, e⟩
  · intro hm
    rw [List.mem_take_iff_getElem] at hm
    obtain ⟨j, hj, e⟩ := hm
    have := hp j k (by omega) hk (by omega)
    omega

end Go.Proofs.YtigpnopeacicpaaGreatDoor
