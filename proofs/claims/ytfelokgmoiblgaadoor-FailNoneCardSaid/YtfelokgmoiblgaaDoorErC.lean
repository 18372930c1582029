/-
  fail: the texts of errors: the kinds', foreign's; the map of those seen while it is empty; WriteString beside a map.
-/
import Derived.Test.YtfelokgmoiblgaaDoorErB
import Derived.Test.YtfelokgmoiblgaaDoorGTxt
import Derived.Maps.OwnSet
namespace Go.Proofs.YtfelokgmoiblgaaDoor
open Go.RowKit Go.Extern.Stop Go.Stop Go.Extern Go.ChangeMaps
set_option linter.unusedSimpArgs false

/-! ### The map, while nothing has been put into it -/
theorem zeroIntE (w : World) : (zeroValue 3).run Tryd.prog w = .ok (.int .i64 0) w := by kernel_rfl
theorem checkAt (em : Bool) (p : Option Addr) (w : World) : (Instr.checkKey em 10000 23 (.pointer p)).run Tryd.prog w = .ok () w := by
  rw [show (10000 : Nat) = 9999 + 1 from rfl, Instr.checkKey.eq_2]
  simp [run_underlying Tryd.underlying23, Result.andThen]
theorem findAt (p : Option Addr) (w : World) : (Instr.findKey 23 (.pointer p) []).run Tryd.prog w = .ok none w := by
  simp [Instr.findKey, Instr.findNow, run_underlying Tryd.underlying23, Result.andThen]
theorem seen_look {w : World} {b c : Nat} (hb : w.heap[b]? = some (.map #[] c)) (p : Option Addr) : (Instr.lookup 82 (.map (some b)) (.pointer p) false).run Tryd.prog w = .ok (.int .i64 0) w := by
  simp [Instr.lookup, run_underlying Tryd.underlying82, MapKept.run_getObj_map hb, checkAt, findAt, zeroIntE, Result.andThen]
theorem seen_put {w : World} {b c : Nat} (hb : w.heap[b]? = some (.map #[] c)) (p : Option Addr) (v : Value) : ∃ w', (Instr.mapUpdate 82 (.map (some b)) (.pointer p) v).run Tryd.prog w = .ok () w' ∧ Only [b] w w' := by
  refine ⟨setBlock w b (.map #[⟨.pointer p, v, c⟩] (c + 1)), ?_, Only.of_grown (row := some b) ⟨rfl, rfl, rfl, by simp [setBlock], fun i _ hi => heap_setBlock_other hb _ (fun e1 => hi (by rw [e1]))⟩ (by simp)⟩
  simp [Instr.mapUpdate, run_underlying Tryd.underlying82, MapKept.run_getObj_map hb, checkAt, findAt, MapKept.run_setObj_map _ hb, Result.andThen, setBlock]

/-! ### WriteString beside a map -/
theorem row_no_map {w : World} {B m n c : Nat} {e : TypeId} {v : Value} {xs : List Value} {es : Array MapEntry} (h : w.ownsRowF B e 1 v n xs) (hm : w.heap[m]? = some (.map es c)) : v.ownBlock ≠ some m := by
  intro hv
  rcases h.2 with ⟨h1, _⟩ | ⟨g, cap, cur, fz, h1, _, h2, _⟩
  · subst h1; simp [Value.ownBlock] at hv
  · subst h1
    simp only [Value.ownBlock, Option.map_some, Option.some.injEq] at hv
    subst hv
    rw [h2] at hm
    simp at hm

theorem copyCheck_map (B b m c : Nat) (bs : List Value) (w : World) (h : Lib.IsBuilderF 81 5 B b bs w) (hm : w.heap[m]? = some (.map #[] c)) :
    Calls Tryd.prog 49 #[.pointer (some ⟨b, 0, none⟩)] w fun e w' => e = .returned (.tuple #[]) ∧ (Lib.BuilderAtF 81 5 B b (.pointer (some ⟨b, 0, none⟩)) bs w' ∧ Below B w w' ∧ w'.heap[m]? = some (.map #[] c)) := by
  rcases h with h | h
  · refine (copyCheck_fresh b w h.cell0 h.shape h.frozen0).mono ?_
    rintro e w' ⟨rfl, rfl⟩
    have hmb : m ≠ b := by
      rintro rfl
      obtain ⟨_, v, h1, _⟩ := h
      rw [h1] at hm
      simp at hm
    exact ⟨rfl, h.used _, (Below.refl B w).setCell (p := ⟨b, 0, none⟩) h.1 _, ((Only.refl [b] w).setCell (p := ⟨b, 0, none⟩) (.inl (by simp)) _).heap hm (by simpa using hmb)⟩
  · refine (copyCheck_used b w h.cell0).mono ?_
    rintro e w' ⟨rfl, rfl⟩
    exact ⟨rfl, h, Below.refl B _, hm⟩

/-- What a write leaves. -/
def WroteM (B b m c : Nat) (bs : List UInt8) (s : ByteArray) (w : World) (e : Ending) (w' : World) : Prop :=
  e = .returned (.tuple #[.int .i64 s.size, .nilIface]) ∧ Lib.IsBuilderF 81 5 B b (Lib.byteCells (bs ++ s.data.toList)) w' ∧ Below B w w' ∧ w'.heap[m]? = some (.map #[] c)

set_option maxHeartbeats 2000000 in
set_option maxRecDepth 100000 in
theorem writeString_map (B b m c : Nat) (bs : List UInt8) (s : ByteArray) (w : World) (h : Hid (Lib.IsBuilderF 81 5 B b (Lib.byteCells bs) w)) (hlen : bs.length + s.size ≤ 140737488355328) (hBw : B ≤ w.heap.size) (HM : Hid (w.heap[m]? = some (.map #[] c))) :
    Calls Tryd.prog 39 #[.pointer (some ⟨b, 0, none⟩), .string s] w (WroteM B b m c bs s w) := by
  obtain ⟨i0, hi, hz0, hz1, hz2⟩ := info_parts (show (Tryd.prog.info? 5).map (fun i => (i.zero, i.size, i.bytes)) = some (some (.int .u8 0), 1, 1) by kernel_rfl)
  go_enter Tryd.func39, Tryd.ntmps39
  go_wp2_with (go_at_call 49; refine (copyCheck_map B b m c (Lib.byteCells bs) _ h.out HM.out).mono ?_)
  rintro e w1 ⟨rfl, h1, hb1, hm1⟩
  have HM1 := Lib.hid hm1
  clear hm1 HM
  obtain ⟨hB, v, hbk, hown, hne⟩ := h1
  rw [Lib.byteCells_length] at hown
  have c0 : w1.cell? ⟨b, 0, none⟩ = some (.pointer (some ⟨b, 0, none⟩)) := by rw [Lib.cell_of_heap hbk]; rfl
  have c1 : w1.cell? ⟨b, 1, none⟩ = some v := by rw [Lib.cell_of_heap hbk]; rfl
  go_wp2_with (at_builtin; refine Lib.wpList_append_own_stringF _ rfl _ _ 79 9 rfl B 5 i0 Tryd.underlying79 Tryd.underlying9 hi hz0 hz1 hz2 _ _ _ rfl hown s rfl ?c3 ?c4 ?c5 ?_)
  case c3 => unfold maxLen; omega
  case c4 => omega
  case c5 => have := hb1.size; omega
  intro v' w2 hown' hgrow _
  have hlt : b < w1.heap.size := by
    rcases Nat.lt_or_ge b w1.heap.size with h' | h'
    · exact h'
    · simp [Array.getElem?_eq_none h'] at hbk
  have hltm : m < w1.heap.size := by
    rcases Nat.lt_or_ge m w1.heap.size with h' | h'
    · exact h'
    · have := HM1.out; simp [Array.getElem?_eq_none h'] at this
  have hmb : m ≠ b := by
    rintro rfl
    have := HM1.out
    rw [hbk] at this
    simp at this
  have HM2 : Hid (w2.heap[m]? = some (.map #[] c)) := by
    show _ = _
    rw [hgrow.block m hltm (fun e => row_no_map hown HM1.out e.symm)]
    exact HM1.out
  have hb2 : w2.heap[b]? = some (.cells #[.pointer (some ⟨b, 0, none⟩), v] 81 (0, 0)) := by
    rw [hgrow.block b hlt (fun e => hne e.symm)]
    exact hbk
  have d0 : w2.cell? ⟨b, 0, none⟩ = some (.pointer (some ⟨b, 0, none⟩)) := by rw [Lib.cell_of_heap hb2]; rfl
  have d1 : w2.cell? ⟨b, 1, none⟩ = some v := by rw [Lib.cell_of_heap hb2]; rfl
  have f1 : w2.frozen? ⟨b, 1, none⟩ = false := Lib.frozen_of_heap hb2 1
  obtain ⟨ao, n', cap, rfl⟩ : ∃ ao n' cap, v' = .slice ao n' cap := by
    rcases hown'.2 with ⟨hv, _⟩ | ⟨g, cap, cur, fz, hv, _⟩
    · exact ⟨_, _, _, hv⟩
    · exact ⟨_, _, _, hv⟩
  go_wp2
  go_ret2
  refine ⟨rfl, ?_, ?_, ?_⟩
  · refine .inr (Lib.BuilderAtF.put (T := 81) (e := 5) hB hb2 (bs' := Lib.byteCells (bs ++ s.data.toList)) ?_ (by decide))
    rw [Lib.byteCells_append, ← Lib.strCells_eq, List.length_append, Lib.strCells_length, Lib.byteCells_length]
    exact hown'
  · exact (hb1.grown hgrow (by have := hb1.size; omega) (fun k hk => (hown.lt k hk).1)).setCell (p := ⟨b, 1, none⟩) hB _
  · exact ((Only.refl [b] w2).setCell (p := ⟨b, 1, none⟩) (.inl (by simp)) _).heap HM2.out (by simpa using hmb)

/-! ### The kinds' texts, foreign -/
def kindText (k : Int) : ByteArray :=
  if k = 1 then ⟨#[109, 97, 108, 102, 111, 114, 109, 101, 100]⟩
  else if k = 2 then ⟨#[100, 105, 118, 105, 115, 105, 111, 110, 32, 98, 121, 32, 122, 101, 114, 111]⟩
  else if k = 3 then ⟨#[114, 111, 111, 116, 32, 111, 102, 32, 97, 32, 110, 101, 103, 97, 116, 105, 118, 101, 32, 110, 117, 109, 98, 101, 114]⟩
  else if k = 4 then ⟨#[105, 110, 118, 97, 108, 105, 100]⟩
  else if k = 5 then ⟨#[100, 101, 103, 101, 110, 101, 114, 97, 116, 101]⟩
  else if k = 6 then ⟨#[110, 111, 32, 115, 99, 114, 105, 112, 116]⟩
  else ⟨#[108, 105, 109, 105, 116]⟩
set_option maxHeartbeats 800000 in
theorem kind_error (k : Int) (hk : 1 ≤ k ∧ k ≤ 7) (w : World) : Calls Tryd.prog 88 #[.int .i64 k] w fun e w' => e = .returned (.string (kindText k)) ∧ w' = w := by
  obtain rfl | rfl | rfl | rfl | rfl | rfl | rfl : k = 1 ∨ k = 2 ∨ k = 3 ∨ k = 4 ∨ k = 5 ∨ k = 6 ∨ k = 7 := by omega
  all_goals
    go_enter Tryd.func88, Tryd.ntmps88
    go_wp2
    go_ret
    exact ⟨rfl, rfl⟩
theorem kindErrM (h : Value) (w : World) : (Go.method 25 60 h "Error").run Tryd.prog w = .ok (88, h) w := by kernel_rfl
theorem inErrM (h : Value) (w : World) : (Go.method 25 55 h "Error").run Tryd.prog w = .ok (86, h) w := by kernel_rfl

theorem foreign1_deferred (g : Nat) (w : World) : CallsD Tryd.prog 51 #[.pointer (some ⟨g, 0, none⟩)] .returning w fun e u' w' => u' = .returning ∧ e = .returned (.tuple #[]) ∧ w' = w := by
  refine callsD_of_wpS Tryd.func51 rfl fun c₀ cs hu => ?_
  apply wpS_seq
  apply wpS_region
  simp [wpOpsS, go_sem, recoverD, hu, Tryd.ntmps51, Exit.thenS]
  refine wpS_cond (t := false) (by simp [Act.eval, Array.replicate]) ?_
  simp only [Bool.false_eq_true, if_false]
  refine wpS_of_wp (wp_skip ?_)
  cases c₀
  simp_all [bodyPostS, results, Tryd.results51]

set_option maxHeartbeats 800000 in
theorem foreign_kind (k : Int) (hk : 1 ≤ k ∧ k ≤ 7) (w : World) : Calls Tryd.prog 42 #[.iface 60 (.int .i64 k)] w fun e w' => e = .returned (.string (kindText k)) ∧ Only [] w w' := by
  have hmf : ∀ (fn : Fn) (first cap : Array Value) (w : World), (Instr.makeFunc fn first cap).run Tryd.prog w = .ok (.func fn first cap) w := fun _ _ _ _ => rfl
  have h1 := kindErrM
  obtain ⟨tx, htx⟩ : ∃ tx, kindText k = tx := ⟨_, rfl⟩
  have HK := Lib.hid hk
  have HT := Lib.hid htx
  rw [htx]
  clear hk htx
  go_enter_defers Tryd.func42, Tryd.ntmps42
  go_wp2_with (go_at_call 30; (with_reducible refine (endless_kind k _).mono ?_); rintro e w1 ⟨rfl, ho1⟩)
  have HB := Lib.hid ((Blk.new w 9 [.string ⟨#[]⟩]).only ho1 (by simp))
  have HO := Lib.hid (((Only.refl [] w).alloc (.cells #[.string ⟨#[]⟩] 9)).nil_trans ho1)
  clear ho1
  have c0 := HB.out.cell 0
  have f0 := HB.out.frozen 0
  simp only [List.getElem?_cons_zero] at c0
  go_wp2_with fail
  refine (kind_error k HK.out _).mono ?_
  rintro e w2 ⟨rfl, rfl⟩
  rw [HT.out]
  go_wp2_with fail
  refine leaves_cons (f := 51) (args := #[.pointer (some ⟨w.heap.size, 0, none⟩)]) (by simp) (by simp [go_sem]) ?_
  refine (foreign1_deferred _ _).mono ?_
  rintro e u' w'' ⟨rfl, rfl, rfl⟩
  have hs := (HB.out.set_ 0 (.string tx)).cell 0
  simp only [List.set_cons_zero, List.getElem?_cons_zero] at hs
  have hO := HO.out.setCell (p := ⟨w.heap.size, 0, none⟩) (.inr (Nat.le_refl _)) (.string tx)
  simp [Leaves, settle, results, Tryd.results42, go_sem, hs, hO]
end Go.Proofs.YtfelokgmoiblgaaDoor
