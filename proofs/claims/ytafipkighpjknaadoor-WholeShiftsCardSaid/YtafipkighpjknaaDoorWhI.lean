/-
  Whole numbers: times a power of two.
-/
import Derived.Test.YtafipkighpjknaaDoorGDyA
namespace Go.Proofs.YtafipkighpjknaaDoor
open Go.RowKit
set_option linter.unusedSimpArgs false

theorem grow_nv {f : FuncId} {args : Array Value} {w0 w : World} {n : Nat} (h : Calls Tryd.prog f args w (NPostV n w0 w)) :
    Calls Tryd.prog f args w fun e w'' => ∃ u, e = .returned u ∧ Only [] w w'' ∧ isNV n u w'' :=
  h.mono fun _ _ ⟨A, k, c, he, _, hv, ho2⟩ => ⟨_, he, ho2, A, k, c, rfl, hv⟩
theorem makeH_w {w : World} {a : Value} {n : Nat} {z : Int} (s : Bool) (ha : Hid (NV w a n)) (hz : sg s n = z) : Calls Tryd.prog 61 #[.bool s, a] w (WPost z w w) := hz ▸ make_w s ha
/-- What a function leaves that tells a whole number: its reading alone. -/
def WPostC (z : Int) (w : World) (e : Ending) (w' : World) : Prop := ∃ s A k c, e = .returned (.agg #[.bool s, .slice A k c]) ∧ Cn s k z ∧ IV w' (.agg #[.bool s, .slice A k c]) z ∧ Only [] w w'
theorem WPost.c {z : Int} {w0 w : World} {e : Ending} {w' : World} (h : WPost z w0 w e w') : WPostC z w e w' := by
  obtain ⟨s, A, k, c, h1, h2, h3, h4, h5⟩ := h
  exact ⟨s, A, k, c, h1, ⟨h2, h3.len⟩, h4, h5⟩
theorem grow_wcc {f : FuncId} {args : Array Value} {w : World} {z : Int} (h : Calls Tryd.prog f args w (WPostC z w)) :
    Calls Tryd.prog f args w fun e w'' => ∃ u, e = .returned u ∧ Only [] w w'' ∧ isWC z u w'' :=
  h.mono fun _ _ ⟨s, A, k, c, he, hc, hv, ho2⟩ => ⟨_, he, ho2, s, A, k, c, rfl, hc, hv⟩
theorem dfinW {z : Int} {w w1 w2 : World} {b : Nat} {t : TypeId} {cs : List Value} {s : Bool} {A : Option Addr} {k c : Nat} (hv : Hid (IV w1 (.agg #[.bool s, .slice A k c]) z)) (hc : Hid (Cn s k z)) (hb : w.heap.size ≤ b) (hB : Blk w1 b t cs) (hn : NoLimb cs) (ho : Only [] w w1) (ho2 : Only [b] w1 w2) :
    WPostC z w (.returned (.agg #[.bool s, .slice A k c])) w2 :=
  ⟨s, A, k, c, rfl, hc.out, hv.out.farS ho2 (fun g hg => by rw [List.mem_singleton] at hg; subst hg; exact hv.out.far_blk hB hn), ho.trans ho2 (fun k hk => .inr (by simp at hk; omega))⟩
/-- A new row of one whole number. -/
def isRow1 (z : Int) : VP := fun u w => ∃ g s A k c, u = .slice (some ⟨g, 0, none⟩) 1 1 ∧ Blk w g 51 [.bool s, .slice A k c] ∧ IV w (.agg #[.bool s, .slice A k c]) z
theorem isRow1.lasts (z : Int) : Lasts (isRow1 z) := fun _ _ _ ⟨g, s, A, k, c, h1, h2, h3⟩ ho => ⟨g, s, A, k, c, h1, h2.only ho (by simp), h3.only ho⟩
theorem all_isRow1 {z : Int} {w : World} {K : Value → Prop} (h : ∀ g s A k c, Hid (Blk w g 51 [.bool s, .slice A k c]) → Hid (IV w (.agg #[.bool s, .slice A k c]) z) → K (.slice (some ⟨g, 0, none⟩) 1 1)) : ∀ v, isRow1 z v w → K v := fun v ⟨g, s, A, k, c, h1, h2, h3⟩ => by
  subst h1
  exact h g s A k c h2 h3
theorem isRow1.new {w : World} {s : Bool} {A : Option Addr} {k c : Nat} {z : Int} (h : Hid (IV w (.agg #[.bool s, .slice A k c]) z)) : Only [] w (w.alloc (.cells #[.bool s, .slice A k c] 51)) ∧ isRow1 z (.slice (some ⟨w.heap.size, 0, none⟩) 1 1) (w.alloc (.cells #[.bool s, .slice A k c] 51)) :=
  have ho : Only [] w (w.alloc (.cells #[.bool s, .slice A k c] 51)) := (Only.refl [] w).alloc _
  ⟨ho, _, s, A, k, c, rfl, Blk.new w 51 [.bool s, .slice A k c], h.out.only ho⟩
theorem sg_pow {z : Int} {s : Bool} (k : Nat) (hs : sg s z.natAbs = z) : sg s (z.natAbs * 2 ^ k) = z * 2 ^ k := by
  generalize z.natAbs = n at *
  subst hs
  cases s
  · rw [sg_false, sg_false]; push_cast; rfl
  · rw [sg_true, sg_true]; push_cast; rw [Int.neg_mul]

set_option maxHeartbeats 1600000 in
set_option maxRecDepth 100000 in
theorem shl_w {w : World} {a : Value} {z : Int} (k : Nat) (hk : (k : Int) ≤ 16777216) (ha : Hid (IV w a z)) (hf : Hid (Few (z * 2 ^ k).natAbs)) : Calls Tryd.prog 42 #[a, .int .i64 (k : Int)] w (WPostC (z * 2 ^ k) w) := by
  obtain ⟨s, A, n, c, rfl, hs⟩ := ha.out.form
  have hab : (z * 2 ^ k).natAbs = z.natAbs * 2 ^ k := by rw [Int.natAbs_mul, Int.natAbs_pow]; rfl
  have HF2 : Hid (Few (shlN z.natAbs (k : Int))) := by show Few _; rw [shlN_up _ _ hk, ← hab]; exact hf.out
  have HS : Hid (sg s (shlN z.natAbs (k : Int)) = z * 2 ^ k) := by
    show _ = _
    rw [shlN_up _ _ hk]
    exact sg_pow k hs
  have HK := (KB.start w).new 51 [.bool s, .slice A n c]
  have HK2 := Lib.hid (HK.new 51 [.bool false, .slice none 0 0])
  have ho0 : Only [] w ((w.alloc (.cells #[.bool s, .slice A n c] 51)).alloc (.cells #[.bool false, .slice none 0 0] 51)) := HK2.out.only
  have HM := Lib.hid (ha.out.mag.only ho0)
  have HO := Lib.hid ho0
  have HG : Hid (w.heap.size ≤ w.heap.size + 1) := Nat.le_succ _
  clear hab HK ho0 hs ha
  simp only [World.size_alloc] at HK2
  obtain ⟨i0, i1, -, -⟩ := HK2.out.c2 1 rfl
  go_enter Tryd.func42, Tryd.ntmps42
  go_upto_region 3 with fail
  clear i0 i1
  apply wp_region_typed_tail2 7 (by kernel_rfl) [isV _, isV _, isV _, isV _, isV _, isNV (shlN z.natAbs (k : Int)), isWC (z * 2 ^ k)] [[], [0], [], [2], [], [3, 4], [1, 5]] (by kernel_rfl) (by kernel_rfl) (by kernel_rfl)
  case ho =>
    simp only [List.take_succ_cons, List.take_zero]
    refine owes2_cons (fun wx hox => ?_) ?_
    · skip
      skip
      refine withs_plain rfl ?_
      simp only [withs, List.getElem?_cons_zero, List.getElem?_cons_succ, Option.bind, Option.getD]
      repeat (first | (with_reducible refine all_isV ?_) | (with_reducible refine all_isWC ?_; intro sx Ax kx cx hvx hwx) | (with_reducible refine all_isNR ?_; intro Ax kx cx hvx) | (with_reducible refine all_isNV ?_; intro Ax kx cx hvx) | (with_reducible refine all_isDV ?_; intro sx Ax kx cx hvx) | (with_reducible refine all_isWV ?_; intro sx Ax kx cx hvx) | (with_reducible refine all_isD ?_; intro sx Ax kx cx hvx hwx) | (with_reducible refine all_isRow ?_; intro gx' hbx) | (with_reducible refine all_isPtr ?_; intro gp' hbp hgp) | (with_reducible refine all_isRow1 ?_; intro gx' sr Ar kr cr hbx hvr))
      go_simp
      exact ⟨Only.refl _ _, isV.self _ _⟩
    refine owes2_cons (fun wx hox => ?_) ?_
    · skip
      obtain ⟨i0, i1, -, -⟩ := (HK2.out.step hox).c2 1 rfl
      refine withs_plain rfl ?_
      simp only [withs, List.getElem?_cons_zero, List.getElem?_cons_succ, Option.bind, Option.getD]
      repeat (first | (with_reducible refine all_isV ?_) | (with_reducible refine all_isWC ?_; intro sx Ax kx cx hvx hwx) | (with_reducible refine all_isNR ?_; intro Ax kx cx hvx) | (with_reducible refine all_isNV ?_; intro Ax kx cx hvx) | (with_reducible refine all_isDV ?_; intro sx Ax kx cx hvx) | (with_reducible refine all_isWV ?_; intro sx Ax kx cx hvx) | (with_reducible refine all_isD ?_; intro sx Ax kx cx hvx hwx) | (with_reducible refine all_isRow ?_; intro gx' hbx) | (with_reducible refine all_isPtr ?_; intro gp' hbp hgp) | (with_reducible refine all_isRow1 ?_; intro gx' sr Ar kr cr hbx hvr))
      go_simp
      exact ⟨Only.refl _ _, isV.self _ _⟩
    refine owes2_cons (fun wx hox => ?_) ?_
    · skip
      skip
      refine withs_plain rfl ?_
      simp only [withs, List.getElem?_cons_zero, List.getElem?_cons_succ, Option.bind, Option.getD]
      repeat (first | (with_reducible refine all_isV ?_) | (with_reducible refine all_isWC ?_; intro sx Ax kx cx hvx hwx) | (with_reducible refine all_isNR ?_; intro Ax kx cx hvx) | (with_reducible refine all_isNV ?_; intro Ax kx cx hvx) | (with_reducible refine all_isDV ?_; intro sx Ax kx cx hvx) | (with_reducible refine all_isWV ?_; intro sx Ax kx cx hvx) | (with_reducible refine all_isD ?_; intro sx Ax kx cx hvx hwx) | (with_reducible refine all_isRow ?_; intro gx' hbx) | (with_reducible refine all_isPtr ?_; intro gp' hbp hgp) | (with_reducible refine all_isRow1 ?_; intro gx' sr Ar kr cr hbx hvr))
      go_simp
      exact ⟨Only.refl _ _, isV.self _ _⟩
    refine owes2_cons (fun wx hox => ?_) ?_
    · skip
      obtain ⟨i0, i1, -, -⟩ := (HK2.out.step hox).c2 1 rfl
      refine withs_plain rfl ?_
      simp only [withs, List.getElem?_cons_zero, List.getElem?_cons_succ, Option.bind, Option.getD]
      repeat (first | (with_reducible refine all_isV ?_) | (with_reducible refine all_isWC ?_; intro sx Ax kx cx hvx hwx) | (with_reducible refine all_isNR ?_; intro Ax kx cx hvx) | (with_reducible refine all_isNV ?_; intro Ax kx cx hvx) | (with_reducible refine all_isDV ?_; intro sx Ax kx cx hvx) | (with_reducible refine all_isWV ?_; intro sx Ax kx cx hvx) | (with_reducible refine all_isD ?_; intro sx Ax kx cx hvx hwx) | (with_reducible refine all_isRow ?_; intro gx' hbx) | (with_reducible refine all_isPtr ?_; intro gp' hbp hgp) | (with_reducible refine all_isRow1 ?_; intro gx' sr Ar kr cr hbx hvr))
      go_simp
      exact ⟨Only.refl _ _, isV.self _ _⟩
    refine owes2_cons (fun wx hox => ?_) ?_
    · skip
      skip
      refine withs_plain rfl ?_
      simp only [withs, List.getElem?_cons_zero, List.getElem?_cons_succ, Option.bind, Option.getD]
      repeat (first | (with_reducible refine all_isV ?_) | (with_reducible refine all_isWC ?_; intro sx Ax kx cx hvx hwx) | (with_reducible refine all_isNR ?_; intro Ax kx cx hvx) | (with_reducible refine all_isNV ?_; intro Ax kx cx hvx) | (with_reducible refine all_isDV ?_; intro sx Ax kx cx hvx) | (with_reducible refine all_isWV ?_; intro sx Ax kx cx hvx) | (with_reducible refine all_isD ?_; intro sx Ax kx cx hvx hwx) | (with_reducible refine all_isRow ?_; intro gx' hbx) | (with_reducible refine all_isPtr ?_; intro gp' hbp hgp) | (with_reducible refine all_isRow1 ?_; intro gx' sr Ar kr cr hbx hvr))
      go_simp
      exact ⟨Only.refl _ _, isV.self _ _⟩
    refine owes2_cons (fun wx hox => ?_) ?_
    · skip
      obtain ⟨i0, i1, -, -⟩ := (HK2.out.step hox).c2 1 rfl
      refine withs_plain rfl ?_
      simp only [withs, List.getElem?_cons_zero, List.getElem?_cons_succ, Option.bind, Option.getD]
      repeat (first | (with_reducible refine all_isV ?_) | (with_reducible refine all_isWC ?_; intro sx Ax kx cx hvx hwx) | (with_reducible refine all_isNR ?_; intro Ax kx cx hvx) | (with_reducible refine all_isNV ?_; intro Ax kx cx hvx) | (with_reducible refine all_isDV ?_; intro sx Ax kx cx hvx) | (with_reducible refine all_isWV ?_; intro sx Ax kx cx hvx) | (with_reducible refine all_isD ?_; intro sx Ax kx cx hvx hwx) | (with_reducible refine all_isRow ?_; intro gx' hbx) | (with_reducible refine all_isPtr ?_; intro gp' hbp hgp) | (with_reducible refine all_isRow1 ?_; intro gx' sr Ar kr cr hbx hvr))
      go_simp
      (with_reducible exact grow_nv (shl_v (k : Int) (Lib.hid (HM.out.only hox)) HF2))
    refine owes2_cons (fun wx hox => ?_) ?_
    · skip
      obtain ⟨i0, i1, -, -⟩ := (HK2.out.step hox).c2 1 rfl
      refine withs_plain rfl ?_
      simp only [withs, List.getElem?_cons_zero, List.getElem?_cons_succ, Option.bind, Option.getD]
      repeat (first | (with_reducible refine all_isV ?_) | (with_reducible refine all_isWC ?_; intro sx Ax kx cx hvx hwx) | (with_reducible refine all_isNR ?_; intro Ax kx cx hvx) | (with_reducible refine all_isNV ?_; intro Ax kx cx hvx) | (with_reducible refine all_isDV ?_; intro sx Ax kx cx hvx) | (with_reducible refine all_isWV ?_; intro sx Ax kx cx hvx) | (with_reducible refine all_isD ?_; intro sx Ax kx cx hvx hwx) | (with_reducible refine all_isRow ?_; intro gx' hbx) | (with_reducible refine all_isPtr ?_; intro gp' hbp hgp) | (with_reducible refine all_isRow1 ?_; intro gx' sr Ar kr cr hbx hvr))
      go_simp
      (with_reducible exact grow_wc (makeH_w s (by assumption) HS.out))
    exact owes2_nil
  case he =>
    simp only [List.drop_succ_cons, List.drop_zero]
    intro wx hox
    refine withs_of (by simp only [List.length, List.range, List.range.loop]; exact rfl) ?_
    simp only [withs, List.getElem?_cons_zero, List.getElem?_cons_succ, Option.bind, Option.getD]
    with_reducible refine all_isV ?_
    with_reducible refine all_isV ?_
    with_reducible refine all_isV ?_
    with_reducible refine all_isV ?_
    with_reducible refine all_isV ?_
    with_reducible refine all_isNV ?_
    intro A5 k5 c5 hv5
    with_reducible refine all_isWC ?_
    intro s6 A6 k6 c6 hv6 hw6
    go_simp
    obtain ⟨q0, q1, f0, f1⟩ := (HK2.out.step hox).c2 0 rfl
    have hB := (HK2.out.step hox).blk 0 rfl
    have hfin := dfinW hv6 hw6 HG.out hB (noLimb2 _ _ _ _) (HO.out.nil_trans hox) (only_set2 wx (w.heap.size + 1) (.bool s6) (.slice A6 k6 c6))
    have HFin := Lib.hid hfin
    have hBs := Lib.hid ((hB.set_ 0 (.bool s6)).set_ 1 (.slice A6 k6 c6))
    clear hB hfin hv5 hv6 hw6 hox HK2 HM HF2 HS HO
    have c0 := hBs.out.cell 0
    have c1 := hBs.out.cell 1
    simp only [List.set_cons_zero, List.set_cons_succ, List.getElem?_cons_zero, List.getElem?_cons_succ] at c0 c1
    go_wp2_with fail
    refine bodyPost_ret (v := .agg #[.bool s6, .slice A6 k6 c6]) (by simp [results, Tryd.results42, go_sem, q0, q1]) rfl ?_
    exact HFin.out
  case hl =>
    repeat (refine List.forall_mem_cons.2 ⟨?_, ?_⟩; first | exact isV.lasts _ | exact isD.lasts _ | exact isNV.lasts _ | exact isDV.lasts _ | exact isWV.lasts _ | exact isWC.lasts _ | exact isNR.lasts _ _ | exact isWR.lasts _ _ | exact isRow.lasts _ _ _ | exact isPtr.lasts _ _ _ | exact isRow1.lasts _)
    exact fun _ h => (by cases h)
theorem shl1_w {w : World} {a : Value} {z r : Int} (ha : Hid (IV w a z)) (hr : z * 2 ^ 1 = r) (hf : Hid (Few r.natAbs)) : Calls Tryd.prog 42 #[a, .int .i64 1] w (WPostC r w) := by
  subst hr
  exact shl_w 1 (by omega) ha hf
end Go.Proofs.YtafipkighpjknaaDoor
