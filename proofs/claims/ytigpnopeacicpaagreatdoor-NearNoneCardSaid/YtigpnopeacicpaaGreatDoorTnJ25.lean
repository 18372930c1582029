/-
  Joined texts.
-/
import Derived.Shelf.Small.Bits
import Derived.Shelf.Strconv.Itoa0
import Derived.Shelf.Sort.Plain
import Derived.Shelf.Bits.Mul64
import Derived.Shelf.Slices.In.SortNone
import Derived.Test.YtigpnopeacicpaaGreatDoorProg
import Derived.Test.YtigpnopeacicpaaGreatDoorTnShelf
import Derived.Test.YtigpnopeacicpaaGreatDoorTnJ24
import Derived.Test.YtigpnopeacicpaaGreatDoorTnJ22
import Derived.Test.YtigpnopeacicpaaGreatDoorTnJ21
/-
  DERIVED: THE SHELF's CONTRACTS AT THIS DUMP, IN PLAIN WORDS (tools/lay-plain.mjs out of 'TryzShelf.lean', which tools/lay-shelf.mjs wrote): THE SAME DECLARATIONS UNDER THE SAME NAMES: 'import', 'namespace', 'open', 'def', 'theorem' AND NOTHING ELSE: no command of the shelf's: FOR A HAND-IN. Each laying: the table of numbers ('.._ren') and one theorem, a field a fact of the dump's own or the kernel's comparison; each contract: ONE APPLICATION.
-/
namespace Go.Proofs
open Go.Shelf
def Tryz.lays189_ren : Go.Shelf.Ren := ⟨fun | 189 => 143 | 125 => 163 | 257 => 162 | 128 => 176 | 129 => 124 | 294 => 167 | 295 => 168 | 296 => 169 | 297 => 170 | 298 => 171 | 299 => 172 | 216 => 173 | 300 => 174 | 301 => 175 | 328 => 177 | 329 => 178 | 330 => 179 | 331 => 180 | 332 => 181 | 215 => 182 | 343 => 183 | n => n, fun | 28 => 108 | 3 => 3 | 46 => 176 | 0 => 0 | 51 => 205 | 53 => 133 | 4 => 4 | 183 => 199 | 182 => 198 | 131 => 49 | 5 => 5 | 9 => 9 | 218 => 206 | 222 => 210 | 228 => 212 | 229 => 213 | n => n, fun | n => n⟩
theorem Tryz.lays189 : Go.Proofs.Lays.n189 Tryz.prog Tryz.lays189_ren := {
  mixed := by kernel_rfl
  f125 := Tryz.func163.trans (congrArg some (by kernel_rfl))
  f128 := Tryz.func176.trans (congrArg some (by kernel_rfl))
  f129 := Tryz.func124.trans (congrArg some (by kernel_rfl))
  f189 := Tryz.func143.trans (congrArg some (by kernel_rfl))
  f215 := Tryz.func182.trans (congrArg some (by kernel_rfl))
  f216 := Tryz.func173.trans (congrArg some (by kernel_rfl))
  f257 := Tryz.func162.trans (congrArg some (by kernel_rfl))
  f294 := Tryz.func167.trans (congrArg some (by kernel_rfl))
  f295 := Tryz.func168.trans (congrArg some (by kernel_rfl))
  f296 := Tryz.func169.trans (congrArg some (by kernel_rfl))
  f297 := Tryz.func170.trans (congrArg some (by kernel_rfl))
  f298 := Tryz.func171.trans (congrArg some (by kernel_rfl))
  f299 := Tryz.func172.trans (congrArg some (by kernel_rfl))
  f300 := Tryz.func174.trans (congrArg some (by kernel_rfl))
  f301 := Tryz.func175.trans (congrArg some (by kernel_rfl))
  f328 := Tryz.func177.trans (congrArg some (by kernel_rfl))
  f329 := Tryz.func178.trans (congrArg some (by kernel_rfl))
  f330 := Tryz.func179.trans (congrArg some (by kernel_rfl))
  f331 := Tryz.func180.trans (congrArg some (by kernel_rfl))
  f332 := Tryz.func181.trans (congrArg some (by kernel_rfl))
  f343 := Tryz.func183.trans (congrArg some (by kernel_rfl))
  t0 := Tryz.underlying0
  a0 := Tryz.isAgg0
  z0 := Tryz.sizeOf0
  v0 := Tryz.zeroValue0
  t3 := Tryz.underlying3
  a3 := Tryz.isAgg3
  z3 := Tryz.sizeOf3
  v3 := Tryz.zeroValue3
  t4 := Tryz.underlying4
  a4 := Tryz.isAgg4
  z4 := Tryz.sizeOf4
  v4 := Tryz.zeroValue4
  t5 := Tryz.underlying5
  a5 := Tryz.isAgg5
  z5 := Tryz.sizeOf5
  v5 := Tryz.zeroValue5
  t9 := Tryz.underlying9
  a9 := Tryz.isAgg9
  z9 := Tryz.sizeOf9
  v9 := Tryz.zeroValue9
  t28 := Tryz.underlying108
  a28 := Tryz.isAgg108
  z28 := Tryz.sizeOf108
  v28 := Tryz.zeroValue108
  t46 := Tryz.underlying176
  a46 := Tryz.isAgg176
  z46 := Tryz.sizeOf176
  v46 := Tryz.zeroValue176
  t51 := Tryz.underlying205
  a51 := Tryz.isAgg205
  z51 := Tryz.sizeOf205
  v51 := Tryz.zeroValue205
  t53 := Tryz.underlying133
  a53 := Tryz.isAgg133
  z53 := Tryz.sizeOf133
  v53 := Tryz.zeroValue133
  t131 := Tryz.underlying49
  a131 := Tryz.isAgg49
  z131 := Tryz.sizeOf49
  v131 := Tryz.zeroValue49
  t182 := Tryz.underlying198
  a182 := Tryz.isAgg198
  z182 := Tryz.sizeOf198
  v182 := Tryz.zeroValue198
  t183 := Tryz.underlying199
  a183 := Tryz.isAgg199
  z183 := Tryz.sizeOf199
  v183 := Tryz.zeroValue199
  t218 := Tryz.underlying206
  a218 := Tryz.isAgg206
  z218 := Tryz.sizeOf206
  v218 := Tryz.zeroValue206
  t222 := Tryz.underlying210
  a222 := Tryz.isAgg210
  z222 := Tryz.sizeOf210
  v222 := Tryz.zeroValue210
  t228 := Tryz.underlying212
  a228 := Tryz.isAgg212
  z228 := Tryz.sizeOf212
  v228 := Tryz.zeroValue212
  t229 := Tryz.underlying213
  a229 := Tryz.isAgg213
  z229 := Tryz.sizeOf213
  v229 := Tryz.zeroValue213 }
open Go.Sort Go.RowKit in
theorem Tryz.slices_Sort_int (blk off cap : Nat) (zs : List Int) (w : World) (hH : Holds (Value.int .i64) w blk off zs.toArray) (hblk : blk < w.heap.size) (hsz : zs.length < 4611686018427387904) :
    Calls Tryz.prog 143 #[.slice (some ⟨blk, off, none⟩) zs.length cap] w fun e w' =>
      e = .returned (.tuple #[]) ∧ ∃ n os, w' = grow (putRow (Value.int .i64) (Sort.ahead w n) blk off (zs.mergeSort fun x y => decide (x ≤ y)).toArray) os := Any.slices_Sort_int Tryz.lays189 blk off cap zs w hH hblk hsz
/-- .. and plain. (LAID: no walk: one application.) -/
theorem Tryz.slices_Sort_int_none (p : Option Addr) (cap : Nat) (w : World) :
    Calls Tryz.prog 143 #[.slice p 0 cap] w fun e w' => e = .returned (.tuple #[]) ∧ w' = w := Any.slices_Sort_int_none Tryz.lays189 p cap w
end Go.Proofs

/-
  A row of ints of the call's own, sorted.
-/
namespace Go.Proofs.YtigpnopeacicpaaGreatDoor
open Go.RowKit Go.Sort

theorem putCells_take (Z : List Int) (cur : Array Value) (h : Z.length ≤ cur.size) : (putCells (Value.int .i64) 0 Z.toArray cur).toList.take Z.length = ints Z := by
  apply List.ext_getElem?
  intro k
  by_cases hk : k < Z.length
  · rw [List.getElem?_take_of_lt hk, Array.getElem?_toList, putCells, Array.getElem?_mapIdx, Array.getElem?_eq_getElem (by omega)]
    simp only [Option.map_some, ints, List.getElem?_map, List.getElem?_eq_getElem hk, Nat.zero_le, true_and, List.size_toArray, Nat.zero_add, if_pos hk, Nat.sub_zero]
    rw [getElem!_pos _ k (by simpa using hk)]
    simp
  · rw [List.getElem?_take_eq_none (by omega), List.getElem?_eq_none (by simp [ints]; omega)]

theorem sort_row {w : World} {g c : Nat} {F Z : List Int} (h : IntsAt w (.slice (some ⟨g, 0, none⟩) F.length c) F) (hl : Z.length = F.length) (n : Nat) (os : Array Obj) :
    IntsAt (grow (putRow (Value.int .i64) (Sort.ahead w n) g 0 Z.toArray) os) (.slice (some ⟨g, 0, none⟩) Z.length c) Z ∧ Only [g] w (grow (putRow (Value.int .i64) (Sort.ahead w n) g 0 Z.toArray) os) := by
  rcases h.2 with ⟨h0, _⟩ | ⟨g', cap, cur, he, hb, hg, h1, h2, h3, h4⟩
  · cases h0
  · injection he with e1 e2 e3
    injection e1 with e1
    injection e1 with e1 _ _
    subst e1 e3
    have hlt := lt_of_heap hg
    refine ⟨⟨by simp [ints], .inr ⟨g, c, putCells (Value.int .i64) 0 Z.toArray cur, rfl, hb, ?_, by omega, h2, by simp [putCells, h3], ?_⟩⟩, rfl, rfl, rfl, ?_, ?_⟩
    · rw [heap_grow_old _ _ (by simpa [putRow, mapBlock, Sort.ahead] using hlt)]
      simp only [putRow, mapBlock, Sort.ahead, Array.getElem?_modify, if_true, hg, Option.map_some]
      rfl
    · rw [Nat.mul_one]
      exact putCells_take Z cur (by omega)
    · simp [putRow, mapBlock, Sort.ahead]
    · intro k hk hn
      rw [heap_grow_old _ _ (by simpa [putRow, mapBlock, Sort.ahead] using hk)]
      simp only [putRow, mapBlock, Sort.ahead, Array.getElem?_modify]
      rw [if_neg (by intro e; exact hn (by simp [e]))]

/-- slices.Sort of a row of the call's own. -/
theorem sort_any (w : World) (v : Value) (F : List Int) (h : IntsAt w v F) (hl : F.length ≤ 1000000) :
    Calls Tryz.prog 143 #[v] w fun e w' => e = .returned (.tuple #[]) ∧ IntsAt w' v (F.mergeSort fun x y => decide (x ≤ y)) ∧ Only v.ownBlock.toList w w' := by
  have hlen : (F.mergeSort fun x y => decide (x ≤ y)).length = F.length := List.length_mergeSort F
  rcases h.2 with ⟨rfl, h0⟩ | ⟨g, cap, cur, rfl, hb, hg, h1, h2, h3, h4⟩
  · have e : F = [] := List.length_eq_zero_iff.1 h0
    subst e
    refine (Tryz.slices_Sort_int_none none 0 w).mono ?_
    rintro e w' ⟨he, hw⟩
    refine ⟨he, hw ▸ ?_, hw ▸ Only.refl _ _⟩
    rw [List.length_eq_zero_iff.1 (hlen.trans rfl)]
    exact h
  · have hc := World.ownsRow.cells h (g := g) rfl
    refine (Tryz.slices_Sort_int g 0 cap F w (fun j hj => ⟨?_, ?_⟩) (lt_of_heap hg) (by omega)).mono ?_
    · have hj' : j < F.length := by simpa using hj
      have h5 := hc j (.int .i64 (F[j]?.getD 0)) (by simp [ints, hj'])
      rw [addr_add] at h5
      rw [h5, getElem!_pos _ j hj]
      simp [hj']
    · simp [World.frozen?, hg]
    · rintro e w' ⟨he, n, os, hw⟩
      obtain ⟨r1, r2⟩ := sort_row (Z := F.mergeSort fun x y => decide (x ≤ y)) h hlen n os
      rw [← hw, hlen] at r1
      rw [← hw] at r2
      exact ⟨he, r1, r2⟩
end Go.Proofs.YtigpnopeacicpaaGreatDoor

/-
  walk.Below: the walk.
-/
namespace Go.Proofs.YtigpnopeacicpaaGreatDoor
open Go.RowKit
attribute [local go_sem] run_store_float

abbrev nilI : Value := .slice none 0 0
theorem srch_start (ns : List Nd) (R : Int → Prop) (w : World) :
    Srch ns R w (((w.alloc (.cells #[nilI] 108)).alloc (.map #[] 0)).alloc (.cells #[.map (some (w.heap.size + 1))] 147)) (w.heap.size + 1 + 1) (w.heap.size + 1) w.heap.size nilI [] (fun _ => False) := by
  have e1 : (w.alloc (.cells #[nilI] 108)).heap.size = w.heap.size + 1 := World.size_alloc w _
  have e2 : ((w.alloc (.cells #[nilI] 108)).alloc (.map #[] 0)).heap.size = w.heap.size + 1 + 1 := by rw [World.size_alloc, e1]
  have hv := Blk.new ((w.alloc (.cells #[nilI] 108)).alloc (.map #[] 0)) 147 [.map (some (w.heap.size + 1))]
  rw [e2] at hv
  have hm := MapI.made (w.alloc (.cells #[nilI] 108))
  rw [e1] at hm
  refine ⟨0, fun _ => none, nilI, [], ⟨hv, hm.only ((Only.refl [] _).alloc _) (by simp), ((Blk.new w 108 [nilI]).alloc _).alloc _, World.ownsRow_nil _ _ _ _, World.ownsRow_nil _ _ _ _, ?_, by omega, by omega, by omega, ?_, ?_, (((Only.refl _ _).alloc _).alloc _).alloc _⟩, fun _ => .inl rfl, ⟨by simp, fun x => by simp [Met], fun x hx => by simp at hx⟩, rfl, fun y hy => hy.elim⟩
  · intro g hg; simp [Value.ownBlock] at hg
  · intro g hg; simp [Value.ownBlock] at hg
  · intro g hg; simp [Value.ownBlock] at hg

theorem ints_form {w : World} {u : Value} {S : List Int} (h : IntsAt w u S) (hn : 0 < S.length) : ∃ g c, u = .slice (some ⟨g, 0, none⟩) S.length c ∧ S.length ≤ c ∧ c ≤ maxLen ∧ ∀ k, k < S.length → w.cell? ⟨g, k, none⟩ = some (.int .i64 (S[k]?.getD 0)) := by
  rcases h.2 with ⟨_, h0⟩ | ⟨g, cap, cur, rfl, _, hg, hn', hm, _⟩
  · omega
  · refine ⟨g, cap, rfl, hn', hm, fun k hk => ?_⟩
    have hc := World.ownsRow.cells h (g := g) rfl
    have h1 := hc k (.int .i64 (S[k]?.getD 0)) (by simp [ints, hk])
    rw [addr_add, Nat.zero_add] at h1
    exact h1

/-- What has been met, beside the roots: the operands of all that have been found. -/
def Need (ns : List Nd) (xs F : List Int) (y : Int) : Prop := (y ∈ xs ∧ 0 ≤ y ∧ y < ns.length) ∨ ∃ z ∈ F, y ∈ kids (nodeAt ns z)
theorem need_next {ns : List Nd} {xs F : List Int} {x y : Int} (h : Need ns xs (F ++ [x]) y) : Need ns xs F y ∨ y ∈ kids (nodeAt ns x) := by
  rcases h with h | ⟨z, hz, hy⟩
  · exact .inl (.inl h)
  · rcases List.mem_append.1 hz with hz | hz
    · exact .inl (.inr ⟨z, hz, hy⟩)
    · have e : z = x := by simpa using hz
      exact .inr (e ▸ hy)

def lenV : Value → Nat
  | .slice _ n _ => n
  | _ => 0

set_option maxHeartbeats 3200000 in
set_option maxRecDepth 100000 in
theorem below_any (d : Nat) (v : Value) (r : Option Nat) (ns : List Nd) (xs : List Int) (A : Option Addr) (c : Nat) (w : World) (hd : DagIs w d v r ns) (ok : OkDag ns) (hns : ns.length ≤ 20000) (hA : Hid (IRead w A xs)) (hxs : (xs.length : Int) ≤ 1000) :
    Calls Tryz.prog 116 #[.pointer (some ⟨d, 0, none⟩), .slice A xs.length c] w fun e w' => ∃ u, e = .returned u ∧ IntsAt w' u (belowL ns (· ∈ xs)) ∧ (∀ g, u.ownBlock = some g → w.heap.size ≤ g) ∧ Only [] w w' := by
  obtain ⟨i0, hi, hz0, hz1, hz2⟩ := int_parts
  have hmf : ∀ (fn : Fn) (first cap : Array Value) (w : World), (Instr.makeFunc fn first cap).run Tryz.prog w = .ok (.func fn first cap) w := fun _ _ _ _ => rfl
  have hmm := @run_makeMap Tryz.prog
  have HD := Lib.hid hd
  have HOk := Lib.hid ok
  have HNs := Lib.hid hns
  have S0 := Lib.hid (srch_start ns (· ∈ xs) w)
  clear hd ok hns
  go_enter Tryz.func116, Tryz.ntmps116
  go_wp2_with fail
  clear hmf hmm
  generalize w.heap.size + 1 + 1 = vb at S0 ⊢
  generalize w.heap.size + 1 = m at S0 ⊢
  generalize w.heap.size = sb at S0 ⊢
  go_loopw [24] (fun i wr => ∃ k : Nat, k ≤ xs.length ∧ i = .int .i64 (k : Int) ∧ Srch ns (· ∈ xs) w wr vb m sb nilI [] (fun y => (∃ j, j < k ∧ y = xs[j]?.getD 0) ∧ 0 ≤ y ∧ y < ns.length)) (fun i _ => xs.length - (intOf i).toNat)
  case atStart => exact ⟨0, Nat.zero_le _, rfl, S0.out.weak (fun y hy => by obtain ⟨⟨j, hj, _⟩, _⟩ := hy; omega)⟩
  case round =>
    obtain ⟨k, hk, rfl, hS⟩ := hrel
    have HS := Lib.hid hS
    clear hS S0
    by_cases hlt : k < xs.length
    · obtain ⟨b, o, rfl, hc⟩ := hA.out k hlt
      have cx := HS.out.only.cell hc (by simp)
      have HX : Hid (xs[k]?.getD 0 ∈ xs) := by
        show _ ∈ _
        rw [List.getElem?_eq_getElem hlt]
        exact List.getElem_mem hlt
      have HStep : Hid (∀ y, ((∃ j, j < k + 1 ∧ y = xs[j]?.getD 0) ∧ 0 ≤ y ∧ y < ns.length) → (((∃ j, j < k ∧ y = xs[j]?.getD 0) ∧ 0 ≤ y ∧ y < ns.length) ∨ (y = xs[k]?.getD 0 ∧ 0 ≤ y ∧ y < ns.length))) := by
        rintro y ⟨⟨j, hj, hy⟩, h0⟩
        by_cases e : j = k
        · exact .inr ⟨e ▸ hy, h0⟩
        · exact .inl ⟨⟨j, by omega, hy⟩, h0⟩
      clear hc
      generalize xs[k]?.getD 0 = x at cx HX HStep
      have hk' : (k : Int) < (xs.length : Int) := by omega
      have HDr := Lib.hid (HD.out.only HS.out.only (by simp))
      by_cases hin : 0 ≤ x ∧ x < (ns.length : Int)
      · obtain ⟨a, rfl⟩ : ∃ a : Nat, x = (a : Int) := ⟨x.toNat, by omega⟩
        have ha : a < ns.length := by omega
        go_wp2_with fail
        refine (dnode_in d v r ns a wr HDr.out ha).mono ?_
        rintro e w2 ⟨rfl, ho2⟩
        have HS2 := Lib.hid (HS.out.nil ho2)
        clear ho2 HS HDr cx
        generalize ns[a]?.getD nd0 = n
        obtain ⟨nk, nf, na, nb⟩ := n
        simp only [Nd.val]
        go_wp2_with fail
        have HS3 := Lib.hid (HS2.out.nil ((Only.refl [] w2).alloc (.cells #[.int .i64 nk, .float .f64 nf, .int .i64 na, .int .i64 nb] 95)))
        refine (visit_srch HOk.out HNs.out HS3.out (Reach.root (a : Int) HX.out hin.1 hin.2)).mono ?_
        rintro e w4 ⟨rfl, -, hS4⟩
        have HS4 := Lib.hid hS4
        clear hS4 HS2 HS3
        go_wp2_with fail
        go_roundw
        case rel => exact ⟨k + 1, by omega, by go_num, HS4.out.weak (fun y hy => by
          rcases HStep.out y hy with h | h
          · exact .inl h
          · exact .inr h.1)⟩
        case measure => simp [intOf]; omega
      · have hout : hasB ns.length x = false := by simp [hasB]; omega
        go_wp2_with fail
        refine (dnode_out d v r ns x wr HDr.out hout).mono ?_
        rintro e w2 ⟨rfl, ho2⟩
        have HS2 := Lib.hid (HS.out.nil ho2)
        clear ho2 HS HDr cx
        simp only [Nd.val, nd0]
        go_wp2_with fail
        have HS3 := Lib.hid (HS2.out.nil ((Only.refl [] w2).alloc (.cells #[.int .i64 0, .float .f64 0, .int .i64 0, .int .i64 0] 95)))
        go_roundw
        case rel => exact ⟨k + 1, by omega, by go_num, HS3.out.weak (fun y hy => by
          rcases HStep.out y hy with h | h
          · exact h
          · obtain ⟨rfl, h1, h2⟩ := h
            exact absurd ⟨h1, h2⟩ hin)⟩
        case measure => simp [intOf]; omega
    · have hnl : ¬ (k : Int) < (xs.length : Int) := by omega
      have HS1 : Hid (Srch ns (· ∈ xs) w wr vb m sb nilI [] (Need ns xs [])) := HS.out.weak (fun y hy => by
        rcases hy with ⟨hy, h0⟩ | ⟨z, hz, _⟩
        · obtain ⟨j, hj, rfl⟩ := List.getElem_of_mem hy
          exact ⟨⟨j, by omega, by rw [List.getElem?_eq_getElem hj]; rfl⟩, h0⟩
        · simp at hz)
      clear HS
      go_wp2_with fail
      go_loopw [5] (fun fv wq => ∃ F, Srch ns (· ∈ xs) w wq vb m sb fv F (Need ns xs F)) (fun fv _ => ns.length - lenV fv)
      case atStart => exact ⟨[], HS1.out⟩
      case round =>
        obtain ⟨F, nn, f, sv, S, hB, h01, hD, hnn, hneed⟩ := hrel
        clear HS1
        have HB := Lib.hid hB
        have H01 := Lib.hid h01
        have HDf := Lib.hid hD
        have HNn := Lib.hid hnn
        have HNeed := Lib.hid hneed
        have hlen := hD.len HOk.out
        obtain ⟨Af, cf, rfl, -⟩ := hB.f.shape
        rcases List.eq_nil_or_concat S with rfl | ⟨S', x, rfl⟩
        · obtain ⟨As, cs, rfl, -⟩ := hB.s.shape
          have cstk : wr.cell? ⟨sb, 0, none⟩ = some (.slice As 0 cs) := hB.stk.cell 0
          have HFin : Hid ((F.mergeSort fun x y => decide (x ≤ y)) = belowL ns (· ∈ xs)) := dfs_done HOk.out hD (fun x hx y hy => hneed y (.inr ⟨x, hx, hy⟩)) (fun x hx h0 h1 => hneed x (.inl ⟨hx, h0, h1⟩))
          have HL : Hid (F.length ≤ 1000000) := by
            have := HNs.out
            show _ ≤ _
            simp at hlen
            omega
          clear hB h01 hD hnn hneed hlen HDf HNn HNeed H01
          go_wp2_with fail
          refine (sort_any wr (.slice Af F.length cf) F HB.out.f HL.out).mono ?_
          rintro e w5 ⟨rfl, hs5, ho5⟩
          have HS5 := Lib.hid hs5
          have HO5 := Lib.hid ho5
          clear hs5 ho5
          go_wp2_with fail
          go_returns
          refine ⟨_, rfl, HFin.out ▸ HS5.out, fun g hg => HB.out.ffv g hg, HB.out.only.trans HO5.out (fun k hk => .inr (HB.out.ffv k (by simpa using hk)))⟩
        · rw [List.concat_eq_append] at *
          obtain ⟨gs, cs, rfl, hsc, hsm, hcell⟩ := ints_form hB.s (by simp)
          have hx := hcell S'.length (by simp)
          rw [show (S' ++ [x])[S'.length]?.getD 0 = x by simp] at hx
          have hpre := ints_prefix hB.s
          have cstk : wr.cell? ⟨sb, 0, none⟩ = some (.slice (some ⟨gs, 0, none⟩) (S' ++ [x]).length cs) := hB.stk.cell 0
          have fstk := hB.stk.frozen 0
          have hrx := hD.r x (by simp)
          have hrg := hrx.range HOk.out
          have HRx := Lib.hid hrx
          rw [List.length_append, List.length_singleton] at cstk hsc hlen
          have HPop := Lib.hid (hB.stack (sv' := .slice (some ⟨gs, 0, none⟩) S'.length cs) hpre (fun g hg => hB.ap g hg) (fun g hg => hB.fsv g hg))
          clear hB h01 hD hnn hneed hcell hpre hrx
          have HLen : Hid (F.length + (S'.length + 1) ≤ ns.length) := hlen
          clear hlen
          obtain ⟨a, rfl⟩ : ∃ a : Nat, x = (a : Int) := ⟨x.toNat, by omega⟩
          have ha : a < ns.length := by omega
          have hq : (S'.length : Int) ≤ 20000 := by have := HLen.out; have := HNs.out; omega
          have hsc' : S'.length ≤ cs := by omega
          have hsz : (wr.setCell ⟨sb, 0, none⟩ (.slice (some ⟨gs, 0, none⟩) S'.length cs)).heap.size = wr.heap.size := by simp [World.setCell]
          have HSz := Lib.hid hsz
          clear hrg hsz
          go_wp2_with (at_builtin; refine wpList_append_lies _ rfl _ _ _ rfl 0 3 i0 _ 1 8 Tryz.underlying108 hi hz0 hz1 hz2 rfl (by decide) (.slice Af F.length cf) F.length (ints F) rfl (by exact HPop.out.f.alloc _) ⟨wr.heap.size, 0, none⟩ 1 1 [.int .i64 (a : Int)] rfl rfl (by intro j u hu; have h1 := cell_one_new (wr.setCell ⟨sb, 0, none⟩ (.slice (some ⟨gs, 0, none⟩) S'.length cs)) (.int .i64 (a : Int)) 3 j u hu; rw [HSz.out] at h1; exact h1) (by simp [Value.oneCell']) (by decide) (by have := HLen.out; have := HNs.out; simp only [maxLen]; omega) (by have := HLen.out; have := HNs.out; omega) (Nat.zero_le _) (wr.heap.size + 1) (by rw [World.size_alloc, HSz.out]) ?_; intro g cap w3 hown2 hgr2 hat2 hlt2; have HS3 : Hid (Srch ns (· ∈ xs) w w3 vb m sb (.slice (some ⟨g, 0, none⟩) (F.length + 1) cap) (F ++ [(a : Int)]) (Need ns xs F)) := ⟨nn, f, _, S', HPop.out.grow_f hown2 hgr2 (by rw [HSz.out]; exact hat2), H01.out, HDf.out.pop, by have := HNn.out; simp at this ⊢; omega, HNeed.out⟩; clear hown2 hgr2 hat2 hlt2)
          clear hx cstk fstk HPop HDf HNn HB H01 HNeed hsc hsm hq hsc' HSz
          have HDr := Lib.hid (HD.out.only HS3.out.only (by simp))
          refine (dnode_in d v r ns a w3 HDr.out ha).mono ?_
          rintro e w4 ⟨rfl, ho4⟩
          have HS4 := Lib.hid (HS3.out.nil ho4)
          have HK : Hid (kids (nodeAt ns (a : Int)) = kids (ns[a]?.getD nd0)) := rfl
          clear ho4 HS3 HDr
          generalize ns[a]?.getD nd0 = n at HK ⊢
          obtain ⟨nk, nf, na, nb⟩ := n
          simp only [Nd.val]
          have HS5 := Lib.hid (HS4.out.nil ((Only.refl [] w4).alloc (.cells #[.int .i64 nk, .float .f64 nf, .int .i64 na, .int .i64 nb] 95)))
          clear HS4
          by_cases h0 : nk = 0
          · subst h0
            have HKids : Hid (∀ y ∈ kids (nodeAt ns (a : Int)), False) := by
              show ∀ y ∈ _, False
              rw [HK.out]
              simp [kids]
            go_wp2_with fail
            refine (parts_leaf nf na nb _).mono ?_
            rintro e w6 ⟨rfl, ho6⟩
            have HS7 := Lib.hid ((HS5.out.nil ho6).nil ((Only.refl [] w6).alloc (.cells #[.int .i64 0, .int .i64 0] 170)))
            clear HS5 ho6
            go_wp2_with fail
            refine wp_loop_rounds 1 ?_
            rw [rounds_succ]
            go_wp2_with fail
            go_roundw
            case rel => exact ⟨F ++ [(a : Int)], HS7.out.weak (fun y hy => by
              rcases need_next hy with h | h
              · first | exact h | exact .inl h | exact .inl (.inl h)
              · exact (HKids.out y h).elim)⟩
            case measure => have := HLen.out; simp [lenV]; omega
          · by_cases h5 : nk = 5
            · subst h5
              have HKids : Hid (kids (nodeAt ns (a : Int)) = [na]) := by
                show _ = _
                rw [HK.out]
                simp [kids]
              go_wp2_with fail
              refine (parts_root nf na nb _).mono ?_
              rintro e w6 ⟨rfl, ho6⟩
              have HS7 := Lib.hid ((HS5.out.nil ho6).nil ((Only.refl [] w6).alloc (.cells #[.int .i64 na, .int .i64 0] 170)))
              have c0 := (Blk.new w6 170 [.int .i64 na, .int .i64 0]).cell 0
              simp only [List.getElem?_cons_zero] at c0
              clear HS5 ho6
              go_wp2_with fail
              refine wp_loop_rounds 2 ?_
              rw [rounds_succ]
              go_wp2_with fail
              refine (visit_srch HOk.out HNs.out HS7.out (Reach.kid (a : Int) na HRx.out (by rw [HKids.out]; simp))).mono ?_
              rintro e w8 ⟨rfl, hK8, hS8⟩
              have HS8 := Lib.hid hS8
              clear hS8 HS7 c0 hK8
              go_wp2_with fail
              rw [rounds_succ]
              go_wp2_with fail
              go_roundw
              case rel => exact ⟨F ++ [(a : Int)], HS8.out.weak (fun y hy => by
                rcases need_next hy with h | h
                · first | exact h | exact .inl h | exact .inl (.inl h)
                · (rw [HKids.out] at h; exact .inr (by simpa using h)))⟩
              case measure => have := HLen.out; simp [lenV]; omega
            · have HKids : Hid (kids (nodeAt ns (a : Int)) = [na, nb]) := by
                show _ = _
                rw [HK.out]
                simp [kids, h0, h5]
              have g0 : (nk == 0) = false := by simpa using h0
              have g5 : (nk == 5) = false := by simpa using h5
              clear h0 h5
              go_wp2_with fail
              refine (parts_two nk nf na nb _ g0 g5).mono ?_
              rintro e w6 ⟨rfl, ho6⟩
              have HS7 := Lib.hid ((HS5.out.nil ho6).nil ((Only.refl [] w6).alloc (.cells #[.int .i64 na, .int .i64 nb] 170)))
              have HB6 := Lib.hid (Blk.new w6 170 [.int .i64 na, .int .i64 nb])
              have c0 := HB6.out.cell 0
              simp only [List.getElem?_cons_zero] at c0
              clear HS5 ho6
              go_wp2_with fail
              refine wp_loop_rounds 3 ?_
              rw [rounds_succ]
              go_wp2_with fail
              refine (visit_srch HOk.out HNs.out HS7.out (Reach.kid (a : Int) na HRx.out (by rw [HKids.out]; simp))).mono ?_
              rintro e w8 ⟨rfl, hK8, hS8⟩
              have HS8 := Lib.hid hS8
              have HB8 := Lib.hid (hK8 _ _ HB6.out)
              have c1 := HB8.out.cell 1
              simp only [List.getElem?_cons_succ, List.getElem?_cons_zero] at c1
              clear hS8 HS7 c0 hK8 HB6
              go_wp2_with fail
              rw [rounds_succ]
              go_wp2_with fail
              refine (visit_srch HOk.out HNs.out HS8.out (Reach.kid (a : Int) nb HRx.out (by rw [HKids.out]; simp))).mono ?_
              rintro e w9 ⟨rfl, hK9, hS9⟩
              have HS9 := Lib.hid hS9
              clear hS9 HS8 c1 hK9 HB8
              go_wp2_with fail
              rw [rounds_succ]
              go_wp2_with fail
              go_roundw
              case rel => exact ⟨F ++ [(a : Int)], HS9.out.weak (fun y hy => by
                rcases need_next hy with h | h
                · first | exact h | exact .inl h | exact .inl (.inl h)
                · (rw [HKids.out] at h; simp at h; rcases h with h | h; exact .inl (.inr h); exact .inr h))⟩
              case measure => have := HLen.out; simp [lenV]; omega
end Go.Proofs.YtigpnopeacicpaaGreatDoor

/-
  walk.Roots: how many roots.
-/
namespace Go.Proofs.YtigpnopeacicpaaGreatDoor
open Go.RowKit
attribute [local go_sem] run_store_float

/-- What is known of a list that Below tells. -/
structure Ids (ns : List Nd) (L : List Int) : Prop where
  mem : ∀ k, k < L.length → ∃ a : Nat, L[k]?.getD 0 = (a : Int) ∧ a < ns.length
  len : L.length ≤ ns.length

theorem belowL_ids {ns : List Nd} (ok : OkDag ns) (R : Int → Prop) : Ids ns (belowL ns R) := by
  constructor
  · intro k hk
    have hm : (belowL ns R)[k] ∈ belowL ns R := List.getElem_mem hk
    have hr := ((mem_belowL ok).1 hm).range ok
    refine ⟨((belowL ns R)[k]).toNat, ?_, by omega⟩
    rw [List.getElem?_eq_getElem hk]
    simp only [Option.getD_some]
    omega
  · unfold belowL
    rw [List.length_map]
    exact Nat.le_trans (List.length_filter_le _ _) (by simp)

/-- All that one is made of. -/
noncomputable def belowOf (ns : List Nd) (root : Int) : List Int := belowL ns (· ∈ [root])

end Go.Proofs.YtigpnopeacicpaaGreatDoor

/-
  How deep a number is: the plain law.
-/
namespace Go.Proofs.YtigpnopeacicpaaGreatDoor

theorem kids_cases (n : Nd) : kids n = [] ∨ (∃ a, kids n = [a]) ∨ ∃ a b, kids n = [a, b] := by
  unfold kids
  split
  · exact .inl rfl
  · split
    · exact .inr (.inl ⟨_, rfl⟩)
    · exact .inr (.inr ⟨_, _, rfl⟩)
/-- What is known besides: the operands of each stand before it, and it does not. -/
theorem ids_kids {ns : List Nd} (ok : OkDag ns) {R : Int → Prop} {k : Nat} (hk : k < (belowL ns R).length) :
    (∀ c ∈ kids (nodeAt ns ((belowL ns R)[k]?.getD 0)), c ∈ (belowL ns R).take k) ∧ (belowL ns R)[k]?.getD 0 ∉ (belowL ns R).take k := by
  have hp := belowL_asc ns R
  rw [List.pairwise_iff_getElem] at hp
  rw [List.getElem?_eq_getElem hk, Option.getD_some]
  have hm : (belowL ns R)[k] ∈ belowL ns R := List.getElem_mem hk
  have hr := (mem_belowL ok).1 hm
  constructor
  · intro c hc
    have h1 := hr.kid _ c hc
    have h2 := ok _ (hr.range ok).1 (hr.range ok).2 c hc
    obtain ⟨j, hj, e⟩ := List.getElem_of_mem ((mem_belowL ok).2 h1)
    have hjk : j < k := by
      by_cases hjk : j < k
      · exact hjk
      · by_cases e2 : j = k
        · subst e2; omega
        · have := hp k j hk hj (by omega); omega
    rw [List.mem_take_iff_getElem]
    exact ⟨j, by omega, e⟩
  · intro hm
    rw [List.mem_take_iff_getElem] at hm
    obtain ⟨j, hj, e⟩ := hm
    have := hp j k (by omega) hk (by omega)
    omega

end Go.Proofs.YtigpnopeacicpaaGreatDoor

/-
  walk.Uses: how often each is used.
-/
namespace Go.Proofs.YtigpnopeacicpaaGreatDoor
open Go.RowKit
attribute [local go_sem] run_store_float

/-- How often y is an operand of those in P. -/
def cnt (ns : List Nd) (P : List Int) (y : Int) : Nat := (P.flatMap fun x => kids (nodeAt ns x)).count y
def useF (ns : List Nd) (P : List Int) : Int → Option Int := fun y => if y ∈ P then some (cnt ns P y : Int) else none
def setF (f : Int → Option Int) (k v : Int) : Int → Option Int := fun x => if x = k then some v else f x
def incF (f : Int → Option Int) (c : Int) : Int → Option Int := setF f c ((f c).getD 0 + 1)
theorem incF_fold (y : Int) : ∀ (K : List Int) (g : Int → Option Int), (∀ c ∈ K, (g c).isSome = true) → (K.foldl incF g) y = (g y).map (· + (K.count y : Int))
  | [], g, _ => by
    rw [List.foldl]
    cases g y <;> simp
  | c :: K, g, h => by
    have hc := h c (by simp)
    rw [List.foldl, incF_fold y K (incF g c) (fun d hd => by
      unfold incF setF
      split
      · rfl
      · exact h d (by simp [hd]))]
    unfold incF setF
    by_cases e : y = c
    · subst e
      rw [if_pos rfl]
      obtain ⟨v, hv⟩ := Option.isSome_iff_exists.1 hc
      rw [hv]
      simp
      omega
    · rw [if_neg e, List.count_cons_of_ne (fun h => e h.symm)]
theorem use_step {ns : List Nd} {P : List Int} {x : Int} (hx : x ∉ P) (hk : ∀ c ∈ kids (nodeAt ns x), c ∈ P) (hn : ∀ z ∈ P, x ∉ kids (nodeAt ns z)) :
    (kids (nodeAt ns x)).foldl incF (setF (useF ns P) x 0) = useF ns (P ++ [x]) := by
  funext y
  rw [incF_fold y _ _ (fun c hc => by
    unfold setF useF
    split
    · rfl
    · rw [if_pos (hk c hc)]; rfl)]
  unfold setF useF cnt
  by_cases e : y = x
  · subst e
    have h0 : (P.flatMap fun z => kids (nodeAt ns z)).count y = 0 := List.count_eq_zero.2 (fun h => by
      obtain ⟨z, hz, h1⟩ := List.mem_flatMap.1 h
      exact hn z hz h1)
    simp [h0]
  · by_cases hy : y ∈ P
    · simp [e, hy]
    · have h0 : (kids (nodeAt ns x)).count y = 0 := List.count_eq_zero.2 (fun h => hy (hk y h))
      simp [e, hy]
theorem cnt_le (ns : List Nd) : ∀ (P : List Int) (y : Int), cnt ns P y ≤ 2 * P.length
  | [], y => by simp [cnt]
  | x :: P, y => by
    have ih := cnt_le ns P y
    unfold cnt at ih ⊢
    rw [List.flatMap_cons, List.count_append]
    have : (kids (nodeAt ns x)).count y ≤ 2 := Nat.le_trans List.count_le_length (by
      rcases kids_cases (nodeAt ns x) with h | ⟨a, h⟩ | ⟨a, b, h⟩ <;> simp [h])
    simp only [List.length_cons]
    omega
theorem ids_later {ns : List Nd} (ok : OkDag ns) {R : Int → Prop} {k : Nat} (hk : k < (belowL ns R).length) : ∀ z ∈ (belowL ns R).take k, (belowL ns R)[k]?.getD 0 ∉ kids (nodeAt ns z) := by
  intro z hz hm
  have hp := belowL_asc ns R
  rw [List.pairwise_iff_getElem] at hp
  rw [List.getElem?_eq_getElem hk, Option.getD_some] at hm
  rw [List.mem_take_iff_getElem] at hz
  obtain ⟨j, hj, rfl⟩ := hz
  have h1 := hp j k (by omega) hk (by omega)
  have hr := ((mem_belowL ok).1 (List.getElem_mem (l := belowL ns R) (n := j) (by omega))).range ok
  have := ok _ hr.1 hr.2 _ hm
  omega

set_option maxHeartbeats 3200000 in
set_option maxRecDepth 100000 in
theorem uses_any (d : Nat) (v : Value) (r : Option Nat) (ns : List Nd) (root : Int) (w : World) (hd : DagIs w d v r ns) (ok : OkDag ns) (hns : ns.length ≤ 20000) :
    Calls Tryz.prog 115 #[.pointer (some ⟨d, 0, none⟩), .int .i64 root] w fun e w' => ∃ m, e = .returned (.map (some m)) ∧ w.heap.size ≤ m ∧ MapX w' m (belowOf ns root).length (useF ns (belowOf ns root)) ∧ Only [] w w' := by
  have hmm := @run_makeMap Tryz.prog
  have HD := Lib.hid hd
  have HNs := Lib.hid hns
  have HOk := Lib.hid ok
  clear hd hns ok
  go_enter Tryz.func115, Tryz.ntmps115
  go_wp2_with fail
  have HA : Hid (IRead ((w.alloc (.map #[] 0)).alloc (.cells #[.int .i64 root] 3)) (some ⟨w.heap.size + 1, 0, none⟩) [root]) := fun k hk => ⟨w.heap.size + 1, 0, rfl, by
    have e : k = 0 := by simpa using hk
    subst e
    have := (Blk.new (w.alloc (.map #[] 0)) 3 [.int .i64 root]).cell 0
    rw [World.size_alloc] at this
    exact this⟩
  have HM : Hid (MapX (w.alloc (.map #[] 0)) w.heap.size 0 (fun _ => none)) := MapX.made w
  refine (below_any d v r ns [root] (some ⟨w.heap.size + 1, 0, none⟩) 1 _ (HD.out.only (((Only.refl [] w).alloc _).alloc _) (by simp)) HOk.out HNs.out HA (by simp)).mono ?_
  rintro e w1 ⟨u, rfl, hL, hfr, ho1⟩
  obtain ⟨L, hLe⟩ : ∃ L, L = belowOf ns root := ⟨_, rfl⟩
  have HLe := Lib.hid hLe
  have HIds : Hid (Ids ns L) := hLe ▸ belowL_ids HOk.out (· ∈ [root])
  have HKid : Hid (∀ k, k < L.length → ((∀ c ∈ kids (nodeAt ns (L[k]?.getD 0)), c ∈ L.take k) ∧ L[k]?.getD 0 ∉ L.take k) ∧ ∀ z ∈ L.take k, L[k]?.getD 0 ∉ kids (nodeAt ns z)) := by
    rw [hLe]
    exact fun k hk => ⟨ids_kids HOk.out hk, ids_later HOk.out hk⟩
  replace hL : IntsAt w1 u L := hLe ▸ hL
  clear hLe
  obtain ⟨Au, cu, rfl, hread⟩ := hL.shape
  have HM1 : Hid (MapX w1 w.heap.size 0 (fun _ => none)) := (HM.out.only ((Only.refl [] _).alloc _) (by simp)).only ho1 (by simp)
  have HO1 : Hid (Only [] w w1) := (((Only.refl [] w).alloc _).alloc _).nil_trans ho1
  have HR := Lib.hid hread
  have HFr : Hid (∀ b o, Au = some ⟨b, o, none⟩ → b ≠ w.heap.size) := by
    rintro b o rfl
    have := hfr b rfl
    rw [World.size_alloc, World.size_alloc] at this
    omega
  have hlen : (L.length : Int) ≤ 20000 := by have := HIds.out.len; have := HNs.out; omega
  clear hL ho1 hread HA HM hfr hmm
  generalize hm : w.heap.size = m at HM1 HFr ⊢
  have HSz : Hid (w.heap.size ≤ m) := by show _ ≤ _; omega
  clear hm
  go_wp2_with fail
  go_loopw [22] (fun i wr => ∃ k : Nat, k ≤ L.length ∧ i = .int .i64 k ∧ Only [m] w1 wr ∧ MapX wr m k (useF ns (L.take k))) (fun i _ => L.length - (intOf i).toNat)
  case atStart => exact ⟨0, Nat.zero_le _, rfl, Only.refl _ _, by
    have e : useF ns (L.take 0) = fun _ => none := by funext y; simp [useF]
    rw [e]; exact HM1.out⟩
  case round =>
    obtain ⟨k, hk, rfl, ho, hD⟩ := hrel
    have HO := Lib.hid ho
    have HUse := Lib.hid hD
    clear ho hD HM1
    by_cases hlt : k < L.length
    · obtain ⟨a, ha, han⟩ := HIds.out.mem k hlt
      obtain ⟨b, o, rfl, hcell0⟩ := HR.out k hlt
      have hbm : b ≠ m := HFr.out b o rfl
      have hcell := HO.out.cell hcell0 (by simpa using hbm)
      rw [ha] at hcell
      have HHa := Lib.hid ha
      have hlt' : (k : Int) < (L.length : Int) := by omega
      have HKk := Lib.hid (HKid.out k hlt)
      rw [ha] at HKk
      have HW : Hid (Only [m] w wr) := (HO1.out.mono (by simp)).trans HO.out (by simp)
      have HDm : Hid (∀ q ∈ foot d v r, q ∉ [m]) := fun q hq => by
        have h1 := HD.out.lt q hq
        have h2 := HSz.out
        simp
        omega
      have hsa : Small (a : Int) := by have := HNs.out; unfold Small; omega
      have hkn : k ≤ 20000 := by omega
      have HTake : Hid (L.take (k + 1) = L.take k ++ [(a : Int)]) := by
        show _ = _
        rw [List.take_succ_eq_append_getElem hlt, ← ha, List.getElem?_eq_getElem hlt]
        rfl
      have HStep : Hid ((kids (nodeAt ns (a : Int))).foldl incF (setF (useF ns (L.take k)) a 0) = useF ns (L.take (k + 1))) := by
        show _ = _
        rw [HTake.out]
        exact use_step HKk.out.1.2 HKk.out.1.1 HKk.out.2
      have HKs : Hid (∀ c ∈ kids (nodeAt ns (a : Int)), c ∈ L.take k ∧ Small c) := fun c hc => by
        have h1 := HKk.out.1.1 c hc
        have h2 := HOk.out (a : Int) (by omega) (by omega) c hc
        have h4 := HNs.out
        refine ⟨h1, ?_⟩
        unfold Small
        omega
      have HCnt : Hid (∀ y, cnt ns (L.take k) y ≤ 40000) := fun y => by
        have := cnt_le ns (L.take k) y
        have : (L.take k).length ≤ k := List.length_take_le _ _
        omega
      obtain ⟨w2, hup0, hM2, hO2⟩ := HUse.out.store (by omega) hsa (v := 0) (by unfold Small; omega)
      rw [show (useF ns (L.take k) (a : Int)) = none by unfold useF; rw [if_neg HKk.out.1.2]] at hM2
      replace hM2 : MapX w2 m (k + 1) (setF (useF ns (L.take k)) a 0) := hM2
      have HM2 := Lib.hid hM2
      have HO2 := Lib.hid hO2
      have HG : Hid (∀ y, y ∈ L.take k → (setF (useF ns (L.take k)) a 0 y).isSome = true ∧ 0 ≤ (setF (useF ns (L.take k)) a 0 y).getD 0 ∧ (setF (useF ns (L.take k)) a 0 y).getD 0 ≤ 40000) := fun y hy => by
        have := HCnt.out y
        unfold setF useF
        split
        · simp
        · first | (simp; omega) | (rw [if_pos hy]; simp; omega)
      clear ha hcell0 hlt hM2 hO2 hbm
      go_wp2_with fail
      refine (dnode_in d v r ns a w2 ((HD.out.only HW.out HDm.out).only HO2.out HDm.out) han).mono ?_
      rintro e w4 ⟨rfl, ho4⟩
      have HO4 := Lib.hid ho4
      have HK : Hid (kids (nodeAt ns (a : Int)) = kids (ns[a]?.getD nd0)) := rfl
      clear ho4 hup0
      generalize ns[a]?.getD nd0 = n at HK ⊢
      obtain ⟨nk, nf, na, nb⟩ := n
      simp only [Nd.val]
      have HO24 : Hid (Only [m] w1 w4) := (HO.out.trans HO2.out (by simp)).nil_trans HO4.out
      generalize setF (useF ns (L.take k)) a 0 = g at HM2 HStep HG
      by_cases h0 : nk = 0
      · subst h0
        go_wp2_with fail
        refine (parts_leaf nf na nb _).mono ?_
        rintro e w6 ⟨rfl, ho6⟩
        have HO6 : Hid (Only [] w4 (w6.alloc (.cells #[.int .i64 0, .int .i64 0] 170))) := ((((Only.refl [] _).alloc _).nil_trans ho6)).alloc _
        have HE : Hid (g = useF ns (L.take (k + 1))) := by
          show _ = _
          rw [← HStep.out, HK.out]
          simp [kids]
        clear ho6
        go_wp2_with fail
        refine wp_loop_rounds 1 ?_
        rw [rounds_succ]
        go_wp2_with fail
        go_roundw
        case rel => exact ⟨k + 1, by omega, by go_num, HO24.out.nil_trans HO6.out, HE.out ▸ (HM2.out.only HO4.out (by simp)).only HO6.out (by simp)⟩
        case measure => simp [intOf]; omega
      · by_cases h5 : nk = 5
        · subst h5
          have HKids : Hid (kids (nodeAt ns (a : Int)) = [na]) := by
            show _ = _
            rw [HK.out]
            simp [kids]
          obtain ⟨p1, p3⟩ := HKs.out na (by rw [HKids.out]; simp)
          obtain ⟨i1, i2, i3⟩ := HG.out na p1
          have HI1 := Lib.hid i1
          clear p1 i1
          go_wp2_with fail
          refine (parts_root nf na nb _).mono ?_
          rintro e w6 ⟨rfl, ho6⟩
          have HO6 : Hid (Only [] w4 (w6.alloc (.cells #[.int .i64 na, .int .i64 0] 170))) := ((((Only.refl [] _).alloc _).nil_trans ho6)).alloc _
          have HE : Hid (incF g na = useF ns (L.take (k + 1))) := by
            show _ = _
            rw [← HStep.out, HKids.out]
            simp
          have c0 := (Blk.new w6 170 [.int .i64 na, .int .i64 0]).cell 0
          simp only [List.getElem?_cons_zero] at c0
          have hM6 : MapX (w6.alloc (.cells #[.int .i64 na, .int .i64 0] 170)) m (k + 1) g := (HM2.out.only HO4.out (by simp)).only HO6.out (by simp)
          have q1 := hM6.look p3
          obtain ⟨w8, q3, q4, q5⟩ := hM6.store (by omega) p3 (v := (g na).getD 0 + 1) (by unfold Small; omega)
          rw [HI1.out] at q4
          replace q4 : MapX w8 m (k + 1) (incF g na) := q4
          have HM8 := Lib.hid q4
          have HO8 := Lib.hid q5
          clear ho6 q4 q5 hM6
          go_wp2_with fail
          refine wp_loop_rounds 2 ?_
          rw [rounds_succ]
          go_wp2_with fail
          rw [rounds_succ]
          go_wp2_with fail
          go_roundw
          case rel => exact ⟨k + 1, by omega, by go_num, (HO24.out.nil_trans HO6.out).trans HO8.out (by simp), HE.out ▸ HM8.out⟩
          case measure => simp [intOf]; omega
        · have HKids : Hid (kids (nodeAt ns (a : Int)) = [na, nb]) := by
            show _ = _
            rw [HK.out]
            simp [kids, h0, h5]
          obtain ⟨p1, p3⟩ := HKs.out na (by rw [HKids.out]; simp)
          obtain ⟨i1, i2, i3⟩ := HG.out na p1
          obtain ⟨p1', p3'⟩ := HKs.out nb (by rw [HKids.out]; simp)
          obtain ⟨i1', i2', i3'⟩ := HG.out nb p1'
          have HI1 := Lib.hid i1
          have HI2 := Lib.hid i1'
          have g0 : (nk == 0) = false := by simpa using h0
          have g5 : (nk == 5) = false := by simpa using h5
          clear p1 i1 p1' i1' h0 h5
          go_wp2_with fail
          refine (parts_two nk nf na nb _ g0 g5).mono ?_
          rintro e w6 ⟨rfl, ho6⟩
          have HO6 : Hid (Only [] w4 (w6.alloc (.cells #[.int .i64 na, .int .i64 nb] 170))) := ((((Only.refl [] _).alloc _).nil_trans ho6)).alloc _
          have HE : Hid (incF (incF g na) nb = useF ns (L.take (k + 1))) := by
            show _ = _
            rw [← HStep.out, HKids.out]
            simp
          have HB6 := Lib.hid (Blk.new w6 170 [.int .i64 na, .int .i64 nb])
          have c0 := HB6.out.cell 0
          simp only [List.getElem?_cons_zero] at c0
          have hM6 : MapX (w6.alloc (.cells #[.int .i64 na, .int .i64 nb] 170)) m (k + 1) g := (HM2.out.only HO4.out (by simp)).only HO6.out (by simp)
          have hmlt : m < w6.heap.size := by
            have := HM2.out.lt
            have := HO4.out.size
            have := ho6.size
            simp at this
            omega
          have q1 := hM6.look p3
          obtain ⟨w8, q3, q4, q5⟩ := hM6.store (by omega) p3 (v := (g na).getD 0 + 1) (by unfold Small; omega)
          rw [HI1.out] at q4
          replace q4 : MapX w8 m (k + 1) (incF g na) := q4
          have c1 := (HB6.out.only q5 (by simp; omega)).cell 1
          simp only [List.getElem?_cons_succ, List.getElem?_cons_zero] at c1
          have hz : (incF g na nb).isSome = true ∧ 0 ≤ (incF g na nb).getD 0 ∧ (incF g na nb).getD 0 ≤ 40001 := by
            unfold incF setF
            split
            · exact ⟨rfl, by simp; omega, by simp; omega⟩
            · exact ⟨HI2.out, i2', by omega⟩
          obtain ⟨z0, z1, z2⟩ := hz
          have q1' := q4.look p3'
          obtain ⟨w9, q3', q4', q5'⟩ := q4.store (by omega) p3' (v := (incF g na nb).getD 0 + 1) (by unfold Small; omega)
          rw [z0] at q4'
          replace q4' : MapX w9 m (k + 1) (incF (incF g na) nb) := q4'
          have HM9 := Lib.hid q4'
          have HO9 : Hid (Only [m] (w6.alloc (.cells #[.int .i64 na, .int .i64 nb] 170)) w9) := q5.trans q5' (by simp)
          clear ho6 q4 q5 hM6 q4' q5' z0 hmlt
          generalize (incF g na nb).getD 0 = z at q1' q3' z1 z2
          go_wp2_with fail
          refine wp_loop_rounds 3 ?_
          rw [rounds_succ]
          go_wp2_with fail
          rw [rounds_succ]
          go_wp2_with fail
          rw [rounds_succ]
          go_wp2_with fail
          go_roundw
          case rel => exact ⟨k + 1, by omega, by go_num, (HO24.out.nil_trans HO6.out).trans HO9.out (by simp), HE.out ▸ HM9.out⟩
          case measure => simp [intOf]; omega
    · have hnl : ¬ (k : Int) < (L.length : Int) := by omega
      have e : k = L.length := by omega
      have HE : Hid (L.take k = L) := by
        show _ = _
        rw [e, List.take_length]
      have HKL := Lib.hid e
      clear e
      go_wp2_with fail
      go_returns
      refine ⟨m, rfl, HSz.out, ?_, HO1.out.trans HO.out (fun q hq => .inr (by simp at hq; rw [hq]; exact HSz.out))⟩
      rw [← HLe.out, ← HKL.out, ← HE.out]
      have := HUse.out
      rw [HE.out] at this ⊢
      exact this
end Go.Proofs.YtigpnopeacicpaaGreatDoor
