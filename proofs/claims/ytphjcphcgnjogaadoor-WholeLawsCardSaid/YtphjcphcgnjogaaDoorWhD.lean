/-
  Whole numbers: sums and products of several.
-/
import Derived.Test.YtphjcphcgnjogaaDoorWhC
namespace Go.Proofs.YtphjcphcgnjogaaDoor
open Go.RowKit
set_option linter.unusedSimpArgs false

/-- A whole number's value in a row. -/
structure WI where
  s : Bool
  a : Option Addr
  n : Nat
  c : Nat
  z : Int
def WI.v (x : WI) : Value := .agg #[.bool x.s, .slice x.a x.n x.c]
def WsRead (w : World) (A : Option Addr) (L : List WI) : Prop :=
  ∀ (k : Nat) (hk : k < L.length), ∃ b o, A = some ⟨b, o, none⟩ ∧ w.cell? ⟨b, o + k * 2, none⟩ = some (.bool L[k].s) ∧ w.cell? ⟨b, o + k * 2 + 1, none⟩ = some (.slice L[k].a L[k].n L[k].c) ∧ IV w L[k].v L[k].z
theorem WsRead.only {w w' : World} {A : Option Addr} {L : List WI} (h : WsRead w A L) (ho : Only [] w w') : WsRead w' A L := fun k hk => by
  obtain ⟨b, o, h1, h2, h3, h4⟩ := h k hk
  exact ⟨b, o, h1, ho.cell h2 (by simp), ho.cell h3 (by simp), h4.only ho⟩
def sumI (x : Int) (L : List WI) : Int := L.foldl (fun s i => s + i.z) x
def prodI (x : Int) (L : List WI) : Int := L.foldl (fun s i => s * i.z) x
/-- The loop over a row: the number so far. -/
structure WLoop (w w1 wr : World) (b g : Nat) (s : Bool) (A : Option Addr) (k c : Nat) (z : Int) : Prop where
  only : Only [] w wr
  lt : w.heap.size = b
  sz : w1.heap.size = b + 2
  gt : b + 1 < g
  b0 : Blk wr (b + 1) 27 [.bool false, .slice none 0 0]
  b1 : Blk wr g 27 [.bool s, .slice A k c]
  sign : s = decide (z < 0)
  res : Res w1 wr (.slice A k c) z.natAbs
  iv : IV wr (.agg #[.bool s, .slice A k c]) z
theorem WLoop.step {w w1 wr w' : World} {b g : Nat} {s : Bool} {A : Option Addr} {k c : Nat} {z : Int} (h : WLoop w w1 wr b g s A k c z) (ho : Only [] wr w') : WLoop w w1 w' b g s A k c z :=
  ⟨h.only.nil_trans ho, h.lt, h.sz, h.gt, h.b0.only ho (by simp), h.b1.only ho (by simp), h.sign, h.res.nil ho, h.iv.only ho⟩
theorem WLoop.cells {w w1 wr : World} {b g : Nat} {s : Bool} {A : Option Addr} {k c : Nat} {z : Int} (h : WLoop w w1 wr b g s A k c z) :
    wr.cell? ⟨g, 0, none⟩ = some (.bool s) ∧ wr.cell? ⟨g, 1, none⟩ = some (.slice A k c) ∧ wr.frozen? ⟨g, 0, none⟩ = false ∧ wr.frozen? ⟨g, 1, none⟩ = false ∧
    wr.cell? ⟨b + 1, 0, none⟩ = some (.bool false) ∧ wr.cell? ⟨b + 1, 1, none⟩ = some (.slice none 0 0) ∧ wr.frozen? ⟨b + 1, 0, none⟩ = false ∧ wr.frozen? ⟨b + 1, 1, none⟩ = false :=
  ⟨h.b1.cell 0, h.b1.cell 1, h.b1.frozen 0, h.b1.frozen 1, h.b0.cell 0, h.b0.cell 1, h.b0.frozen 0, h.b0.frozen 1⟩
/-- A new number, written over the old one. -/
theorem WLoop.set_ {w w1 wr wx : World} {b g : Nat} {s s' : Bool} {A A' : Option Addr} {k c k' c' : Nat} {z z' : Int} (h : WLoop w w1 wr b g s A k c z) (h2 : s' = decide (z' < 0) ∧ Res wx wr (.slice A' k' c') z'.natAbs) (hw : b + 2 ≤ wx.heap.size) (hg : g < wx.heap.size) (hf : Few z'.natAbs) :
    WLoop w w1 ((wr.setCell ⟨g, 0, none⟩ (.bool s')).setCell ⟨g, 1, none⟩ (.slice A' k' c')) b g s' A' k' c' z' := by
  have ho := only_set2 wr g (.bool s') (.slice A' k' c')
  have hr : Res w1 ((wr.setCell ⟨g, 0, none⟩ (.bool s')).setCell ⟨g, 1, none⟩ (.slice A' k' c')) (.slice A' k' c') z'.natAbs := (h2.2.only ho (fun x hx hc => by
    have := h2.2.fresh x hx
    simp at hc
    omega)).pre (by rw [h.sz]; exact hw)
  have hb1 := (h.b1.set_ 0 (.bool s')).set_ 1 (.slice A' k' c')
  have hgw := h.gt
  have hlt := h.lt
  refine ⟨h.only.trans ho (fun x hx => .inr (by simp at hx; omega)), h.lt, h.sz, h.gt, h.b0.only ho (by simp; omega), hb1, h2.1, hr, ?_⟩
  exact ⟨s', A', k', c', _, rfl, NV.of_res hr hf, by rw [h2.1, sg_self]⟩
theorem WLoop.start {w w1 w2 : World} {s : Bool} {A : Option Addr} {k c : Nat} {z : Int} (ho : Only [] w w2) (hsz : w1.heap.size = w.heap.size + 2) (hs2 : w1.heap.size ≤ w2.heap.size) (hB : Blk w2 (w.heap.size + 1) 27 [.bool false, .slice none 0 0])
    (h : s = decide (z < 0) ∧ Res w1 w2 (.slice A k c) z.natAbs ∧ IV w2 (.agg #[.bool s, .slice A k c]) z) :
    WLoop w w1 (w2.alloc (.cells #[.bool s, .slice A k c] 27)) w.heap.size w2.heap.size s A k c z := by
  have ho1 : Only [] w2 (w2.alloc (.cells #[.bool s, .slice A k c] 27)) := (Only.refl [] w2).alloc _
  exact ⟨ho.nil_trans ho1, rfl, hsz, by omega, hB.only ho1 (by simp), Blk.new w2 27 [.bool s, .slice A k c], h.1, h.2.1.nil ho1, h.2.2.only ho1⟩
theorem WLoop.fin {w w1 wr : World} {b g : Nat} {s : Bool} {A : Option Addr} {k c : Nat} {z : Int} (h : WLoop w w1 wr b g s A k c z) :
    WPost z w w (.returned (.agg #[.bool s, .slice A k c])) ((wr.setCell ⟨b + 1, 0, none⟩ (.bool s)).setCell ⟨b + 1, 1, none⟩ (.slice A k c)) :=
  WPost.fwd ⟨h.sign, h.res⟩ h.iv.few (by rw [h.lt]; omega) (by rw [h.sz]; omega) h.only (only_set2 _ _ _ _)
def FewAll (f : Int → WI → Int) (x : Int) (L : List WI) : Prop := ∀ k, k ≤ L.length → Few ((L.take k).foldl f x).natAbs
theorem foldl_take_succ {f : Int → WI → Int} {x : Int} {L : List WI} {k : Nat} (h : k < L.length) : (L.take (k + 1)).foldl f x = f ((L.take k).foldl f x) L[k] := by
  rw [List.take_succ_eq_append_getElem h, List.foldl_append]
  rfl

set_option maxHeartbeats 1600000 in
set_option maxRecDepth 100000 in
theorem add_w {w : World} {a : Value} {x : Int} (B : Option Addr) (d : Nat) (L : List WI) (ha : Hid (IV w a x)) (hL : Hid (WsRead w B L)) (hl : (L.length : Int) ≤ 1000000) (hf : Hid (FewAll (fun s i => s + i.z) x L)) :
    Calls Tryd.prog 11 #[a, .slice B L.length d] w (WPost (sumI x L) w w) := by
  obtain ⟨s, A, k, c, rfl, hs⟩ := ha.out.form
  have ho0 : Only [] w ((w.alloc (.cells #[.bool s, .slice A k c] 27)).alloc (.cells #[.bool false, .slice none 0 0] 27)) := ((Only.refl [] w).alloc _).alloc _
  have hB := Blk.new (w.alloc (.cells #[.bool s, .slice A k c] 27)) 27 [.bool false, .slice none 0 0]
  simp only [World.size_alloc] at hB
  have HX := Lib.hid (ha.out.mag.only ho0)
  have HS : Hid (sg s x.natAbs = x) := hs
  have HO0 := Lib.hid ho0
  clear ha hs ho0
  go_enter Tryd.func11, Tryd.ntmps11
  go_wp2_with fail
  (with_reducible refine (make_w _ HX).mono ?_)
  rintro e w2 ⟨s1, A1, k1, c1, rfl, hs1, hr1, hv1, ho⟩
  rw [HS.out] at hs1 hr1 hv1
  have hsz : ((w.alloc (.cells #[.bool s, .slice A k c] 27)).alloc (.cells #[.bool false, .slice none 0 0] 27)).heap.size = w.heap.size + 2 := by simp
  have hB2 := hB.only ho (by simp)
  have HO2 := Lib.hid (HO0.out.nil_trans ho)
  have HR1 := Lib.hid (⟨hs1, hr1, hv1⟩ : _ ∧ _ ∧ _)
  have HSz := Lib.hid hsz
  have HS2 := Lib.hid ho.size
  generalize (w.alloc (.cells #[.bool s, .slice A k c] 27)).alloc (.cells #[.bool false, .slice none 0 0] 27) = w1 at *
  clear ho hs1 hr1 hv1 hsz
  have HW := Lib.hid (WLoop.start HO2.out HSz.out HS2.out hB2 HR1.out)
  obtain ⟨g, hg⟩ : ∃ g, w2.heap.size = g := ⟨_, rfl⟩
  obtain ⟨b, hb⟩ : ∃ b, w.heap.size = b := ⟨_, rfl⟩
  rw [hg, hb] at HW
  have HG := Lib.hid hg
  go_wp2_with fail
  generalize w2.alloc (.cells #[.bool s1, .slice A1 k1 c1] 27) = w3 at *
  clear hB2 hB HX hg hb
  go_loopw [15] (fun kv wr => ∃ (i : Nat) (s' : Bool) (A' : Option Addr) (k' c' : Nat), i ≤ L.length ∧ kv = .int .i64 (i : Int) ∧ WLoop w w1 wr b g s' A' k' c' ((L.take i).foldl (fun s i => s + i.z) x)) (fun kv _ => L.length - (intOf kv).toNat)
  case atStart => exact ⟨0, s1, A1, k1, c1, Nat.zero_le _, rfl, HW.out⟩
  case round =>
    obtain ⟨i, s', A', k', c', hi, rfl, hw⟩ := hrel
    have HWr := Lib.hid hw
    obtain ⟨d0, d1, df0, df1, e0, e1, ef0, ef1⟩ := hw.cells
    clear hw
    by_cases hlt : i < L.length
    · obtain ⟨ib, io, rfl, q0, q1, hit⟩ := (hL.out.only HWr.out.only) i hlt
      have HStep : Hid ((L.take (i + 1)).foldl (fun s i => s + i.z) x = (L.take i).foldl (fun s i => s + i.z) x + L[i].z) := foldl_take_succ hlt
      have HFS : Hid (Few ((L.take i).foldl (fun s i => s + i.z) x + L[i].z).natAbs) := by
        have := hf.out (i + 1) (by omega)
        rw [HStep.out] at this
        exact this
      have hk' : (i : Int) < (L.length : Int) := by omega
      generalize L[i] = it at q0 q1 hit HStep HFS
      obtain ⟨is, ia, iN, ic, iz⟩ := it
      simp only [WI.v] at q0 q1 hit HStep HFS
      have HIt := Lib.hid hit
      generalize hz : (L.take i).foldl (fun s i => s + i.z) x = z at HWr HStep HFS
      replace hz := Lib.hid hz
      have ho4 : Only [] wr (wr.alloc (.cells #[.bool is, .slice ia iN ic] 27)) := (Only.refl [] wr).alloc _
      have hw4 := HWr.out.step ho4
      obtain ⟨m0, m1, mf0, mf1, n0, n1, nf0, nf1⟩ := hw4.cells
      have hn := Blk.new wr 27 [.bool is, .slice ia iN ic]
      have r0 := hn.cell 0
      have r1 := hn.cell 1
      simp only [List.getElem?_cons_zero, List.getElem?_cons_succ] at r0 r1
      have HIt4 := Lib.hid (HIt.out.only ho4)
      have HW4 := Lib.hid hw4
      clear hlt hit hw4 ho4 hn
      go_wp2_with fail
      generalize wr.alloc (.cells #[.bool is, .slice ia iN ic] 27) = wy at *
      (with_reducible refine (plus_w (Lib.hid HW4.out.iv) HIt4 HFS).mono ?_)
      rintro e w5 ⟨s5, A5, k5, c5, rfl, hs5, hr5, -, ho⟩
      have HS5 := Lib.hid (HW4.out.step ho)
      obtain ⟨d0, d1, df0, df1, e0, e1, ef0, ef1⟩ := HS5.out.cells
      have HR5 := Lib.hid (⟨hs5, hr5⟩ : _ ∧ _)
      clear ho hs5 hr5 m0 m1 mf0 mf1 n0 n1 nf0 nf1 r0 r1 q0 q1
      go_wp2_with fail
      go_roundw
      case rel =>
        refine ⟨i + 1, s5, A5, k5, c5, by omega, by go_num, ?_⟩
        rw [HStep.out]
        exact HS5.out.set_ HR5.out (by have := HW4.out.gt; have := HW4.out.b1.lt; omega) HW4.out.b1.lt HFS.out
      case measure => simp [intOf]; omega
    · have hnl : ¬ (i : Int) < (L.length : Int) := by omega
      have HE : Hid (i = L.length) := by show _ = _; omega
      clear hlt hi
      go_wp2_with fail
      refine bodyPost_ret (v := .agg #[.bool s', .slice A' k' c']) (by simp [results, Tryd.results11, go_sem, e0, e1]) rfl ?_
      have hz := HWr.out.fin
      rw [HE.out, List.take_length] at hz
      exact hz
set_option maxHeartbeats 1600000 in
set_option maxRecDepth 100000 in
theorem mul_w {w : World} {a : Value} {x : Int} (B : Option Addr) (d : Nat) (L : List WI) (ha : Hid (IV w a x)) (hL : Hid (WsRead w B L)) (hl : (L.length : Int) ≤ 1000000) (hf : Hid (FewAll (fun s i => s * i.z) x L)) :
    Calls Tryd.prog 12 #[a, .slice B L.length d] w (WPost (prodI x L) w w) := by
  obtain ⟨s, A, k, c, rfl, hs⟩ := ha.out.form
  have ho0 : Only [] w ((w.alloc (.cells #[.bool s, .slice A k c] 27)).alloc (.cells #[.bool false, .slice none 0 0] 27)) := ((Only.refl [] w).alloc _).alloc _
  have hB := Blk.new (w.alloc (.cells #[.bool s, .slice A k c] 27)) 27 [.bool false, .slice none 0 0]
  simp only [World.size_alloc] at hB
  have HX := Lib.hid (ha.out.mag.only ho0)
  have HS : Hid (sg s x.natAbs = x) := hs
  have HO0 := Lib.hid ho0
  clear ha hs ho0
  go_enter Tryd.func12, Tryd.ntmps12
  go_wp2_with fail
  (with_reducible refine (make_w _ HX).mono ?_)
  rintro e w2 ⟨s1, A1, k1, c1, rfl, hs1, hr1, hv1, ho⟩
  rw [HS.out] at hs1 hr1 hv1
  have hsz : ((w.alloc (.cells #[.bool s, .slice A k c] 27)).alloc (.cells #[.bool false, .slice none 0 0] 27)).heap.size = w.heap.size + 2 := by simp
  have hB2 := hB.only ho (by simp)
  have HO2 := Lib.hid (HO0.out.nil_trans ho)
  have HR1 := Lib.hid (⟨hs1, hr1, hv1⟩ : _ ∧ _ ∧ _)
  have HSz := Lib.hid hsz
  have HS2 := Lib.hid ho.size
  generalize (w.alloc (.cells #[.bool s, .slice A k c] 27)).alloc (.cells #[.bool false, .slice none 0 0] 27) = w1 at *
  clear ho hs1 hr1 hv1 hsz
  have HW := Lib.hid (WLoop.start HO2.out HSz.out HS2.out hB2 HR1.out)
  obtain ⟨g, hg⟩ : ∃ g, w2.heap.size = g := ⟨_, rfl⟩
  obtain ⟨b, hb⟩ : ∃ b, w.heap.size = b := ⟨_, rfl⟩
  rw [hg, hb] at HW
  have HG := Lib.hid hg
  go_wp2_with fail
  generalize w2.alloc (.cells #[.bool s1, .slice A1 k1 c1] 27) = w3 at *
  clear hB2 hB HX hg hb
  go_loopw [15] (fun kv wr => ∃ (i : Nat) (s' : Bool) (A' : Option Addr) (k' c' : Nat), i ≤ L.length ∧ kv = .int .i64 (i : Int) ∧ WLoop w w1 wr b g s' A' k' c' ((L.take i).foldl (fun s i => s * i.z) x)) (fun kv _ => L.length - (intOf kv).toNat)
  case atStart => exact ⟨0, s1, A1, k1, c1, Nat.zero_le _, rfl, HW.out⟩
  case round =>
    obtain ⟨i, s', A', k', c', hi, rfl, hw⟩ := hrel
    have HWr := Lib.hid hw
    obtain ⟨d0, d1, df0, df1, e0, e1, ef0, ef1⟩ := hw.cells
    clear hw
    by_cases hlt : i < L.length
    · obtain ⟨ib, io, rfl, q0, q1, hit⟩ := (hL.out.only HWr.out.only) i hlt
      have HStep : Hid ((L.take (i + 1)).foldl (fun s i => s * i.z) x = (L.take i).foldl (fun s i => s * i.z) x * L[i].z) := foldl_take_succ hlt
      have HFS : Hid (Few ((L.take i).foldl (fun s i => s * i.z) x * L[i].z).natAbs) := by
        have := hf.out (i + 1) (by omega)
        rw [HStep.out] at this
        exact this
      have hk' : (i : Int) < (L.length : Int) := by omega
      generalize L[i] = it at q0 q1 hit HStep HFS
      obtain ⟨is, ia, iN, ic, iz⟩ := it
      simp only [WI.v] at q0 q1 hit HStep HFS
      have HIt := Lib.hid hit
      have HFM : Hid (Few (((L.take i).foldl (fun s i => s * i.z) x).natAbs * iz.natAbs)) := by
        have := HFS.out
        rw [Int.natAbs_mul] at this
        exact this
      have HSg : Hid (sg (!s' == is) (((L.take i).foldl (fun s i => s * i.z) x).natAbs * iz.natAbs) = (L.take i).foldl (fun s i => s * i.z) x * iz) := by
        show sg (s' != is) _ = _
        rw [sg_mul, HWr.out.iv.sign, HIt.out.sign]
      generalize hz : (L.take i).foldl (fun s i => s * i.z) x = z at HWr HStep HFS HFM HSg
      replace hz := Lib.hid hz
      have ho4 : Only [] wr (wr.alloc (.cells #[.bool is, .slice ia iN ic] 27)) := (Only.refl [] wr).alloc _
      have hw4 := HWr.out.step ho4
      obtain ⟨m0, m1, mf0, mf1, n0, n1, nf0, nf1⟩ := hw4.cells
      have hn := Blk.new wr 27 [.bool is, .slice ia iN ic]
      have r0 := hn.cell 0
      have r1 := hn.cell 1
      simp only [List.getElem?_cons_zero, List.getElem?_cons_succ] at r0 r1
      have HIt4 := Lib.hid (HIt.out.only ho4)
      have HW4 := Lib.hid hw4
      clear hlt hit hw4 ho4 hn
      go_wp2_with fail
      generalize wr.alloc (.cells #[.bool is, .slice ia iN ic] 27) = wy at *
      apply wp_region_typed_tail 11 (by kernel_rfl) [isV _, isV _, isV _, isV _, isV _, isV _, isV _, isV _, isV _, isNR wy (z.natAbs * iz.natAbs), isWR wy (z * iz)] (by kernel_rfl) (by kernel_rfl)
      case ho =>
        simp only [List.take_succ_cons, List.take_zero]
        refine owes_cons (fun wx hox => ?_) ?_
        · simp only [waits, withs, Region.binds, List.filter, List.map, List.getElem?_cons_zero, List.getElem?_cons_succ, Option.bind, Option.getD, List.range, List.range.loop, List.length]
          repeat (first | refine all_isV ?_ | (intro vx hx'; replace hx' := Lib.hid hx'))
          have hw5 := HW4.out.step hox
          obtain ⟨d0, d1, df0, df1, e0, e1, ef0, ef1⟩ := hw5.cells
          clear hw5
          have r0 := hox.cell r0 (by simp)
          have r1 := hox.cell r1 (by simp)
          go_simp
          first | exact ⟨Only.refl _ _, isV.self _ _⟩ | (fail)
        refine owes_cons (fun wx hox => ?_) ?_
        · simp only [waits, withs, Region.binds, List.filter, List.map, List.getElem?_cons_zero, List.getElem?_cons_succ, Option.bind, Option.getD, List.range, List.range.loop, List.length]
          repeat (first | refine all_isV ?_ | (intro vx hx'; replace hx' := Lib.hid hx'))
          have hw5 := HW4.out.step hox
          obtain ⟨d0, d1, df0, df1, e0, e1, ef0, ef1⟩ := hw5.cells
          clear hw5
          have r0 := hox.cell r0 (by simp)
          have r1 := hox.cell r1 (by simp)
          go_simp
          first | exact ⟨Only.refl _ _, isV.self _ _⟩ | (fail)
        refine owes_cons (fun wx hox => ?_) ?_
        · simp only [waits, withs, Region.binds, List.filter, List.map, List.getElem?_cons_zero, List.getElem?_cons_succ, Option.bind, Option.getD, List.range, List.range.loop, List.length]
          repeat (first | refine all_isV ?_ | (intro vx hx'; replace hx' := Lib.hid hx'))
          have hw5 := HW4.out.step hox
          obtain ⟨d0, d1, df0, df1, e0, e1, ef0, ef1⟩ := hw5.cells
          clear hw5
          have r0 := hox.cell r0 (by simp)
          have r1 := hox.cell r1 (by simp)
          go_simp
          first | exact ⟨Only.refl _ _, isV.self _ _⟩ | (fail)
        refine owes_cons (fun wx hox => ?_) ?_
        · simp only [waits, withs, Region.binds, List.filter, List.map, List.getElem?_cons_zero, List.getElem?_cons_succ, Option.bind, Option.getD, List.range, List.range.loop, List.length]
          repeat (first | refine all_isV ?_ | (intro vx hx'; replace hx' := Lib.hid hx'))
          have hw5 := HW4.out.step hox
          obtain ⟨d0, d1, df0, df1, e0, e1, ef0, ef1⟩ := hw5.cells
          clear hw5
          have r0 := hox.cell r0 (by simp)
          have r1 := hox.cell r1 (by simp)
          go_simp
          first | exact ⟨Only.refl _ _, isV.self _ _⟩ | (fail)
        refine owes_cons (fun wx hox => ?_) ?_
        · simp only [waits, withs, Region.binds, List.filter, List.map, List.getElem?_cons_zero, List.getElem?_cons_succ, Option.bind, Option.getD, List.range, List.range.loop, List.length]
          repeat (first | refine all_isV ?_ | (intro vx hx'; replace hx' := Lib.hid hx'))
          have hw5 := HW4.out.step hox
          obtain ⟨d0, d1, df0, df1, e0, e1, ef0, ef1⟩ := hw5.cells
          clear hw5
          have r0 := hox.cell r0 (by simp)
          have r1 := hox.cell r1 (by simp)
          go_simp
          first | exact ⟨Only.refl _ _, isV.self _ _⟩ | (fail)
        refine owes_cons (fun wx hox => ?_) ?_
        · simp only [waits, withs, Region.binds, List.filter, List.map, List.getElem?_cons_zero, List.getElem?_cons_succ, Option.bind, Option.getD, List.range, List.range.loop, List.length]
          repeat (first | refine all_isV ?_ | (intro vx hx'; replace hx' := Lib.hid hx'))
          have hw5 := HW4.out.step hox
          obtain ⟨d0, d1, df0, df1, e0, e1, ef0, ef1⟩ := hw5.cells
          clear hw5
          have r0 := hox.cell r0 (by simp)
          have r1 := hox.cell r1 (by simp)
          go_simp
          first | exact ⟨Only.refl _ _, isV.self _ _⟩ | (fail)
        refine owes_cons (fun wx hox => ?_) ?_
        · simp only [waits, withs, Region.binds, List.filter, List.map, List.getElem?_cons_zero, List.getElem?_cons_succ, Option.bind, Option.getD, List.range, List.range.loop, List.length]
          repeat (first | refine all_isV ?_ | (intro vx hx'; replace hx' := Lib.hid hx'))
          have hw5 := HW4.out.step hox
          obtain ⟨d0, d1, df0, df1, e0, e1, ef0, ef1⟩ := hw5.cells
          clear hw5
          have r0 := hox.cell r0 (by simp)
          have r1 := hox.cell r1 (by simp)
          go_simp
          first | exact ⟨Only.refl _ _, isV.self _ _⟩ | (fail)
        refine owes_cons (fun wx hox => ?_) ?_
        · simp only [waits, withs, Region.binds, List.filter, List.map, List.getElem?_cons_zero, List.getElem?_cons_succ, Option.bind, Option.getD, List.range, List.range.loop, List.length]
          repeat (first | refine all_isV ?_ | (intro vx hx'; replace hx' := Lib.hid hx'))
          have hw5 := HW4.out.step hox
          obtain ⟨d0, d1, df0, df1, e0, e1, ef0, ef1⟩ := hw5.cells
          clear hw5
          have r0 := hox.cell r0 (by simp)
          have r1 := hox.cell r1 (by simp)
          go_simp
          first | exact ⟨Only.refl _ _, isV.self _ _⟩ | (fail)
        refine owes_cons (fun wx hox => ?_) ?_
        · simp only [waits, withs, Region.binds, List.filter, List.map, List.getElem?_cons_zero, List.getElem?_cons_succ, Option.bind, Option.getD, List.range, List.range.loop, List.length]
          repeat (first | refine all_isV ?_ | (intro vx hx'; replace hx' := Lib.hid hx'))
          have hw5 := HW4.out.step hox
          obtain ⟨d0, d1, df0, df1, e0, e1, ef0, ef1⟩ := hw5.cells
          clear hw5
          have r0 := hox.cell r0 (by simp)
          have r1 := hox.cell r1 (by simp)
          go_simp
          first | exact ⟨Only.refl _ _, isV.self _ _⟩ | (fail)
        refine owes_cons (fun wx hox => ?_) ?_
        · simp only [waits, withs, Region.binds, List.filter, List.map, List.getElem?_cons_zero, List.getElem?_cons_succ, Option.bind, Option.getD, List.range, List.range.loop, List.length]
          (refine all_isV ?_; refine all_isV ?_)
          go_simp
          exact grow_n (mul_v 40 (Lib.hid (HW4.out.iv.mag.only hox)) (Lib.hid (HIt4.out.mag.only hox)) HFM) hox
        refine owes_cons (fun wx hox => ?_) ?_
        · simp only [waits, withs, Region.binds, List.filter, List.map, List.getElem?_cons_zero, List.getElem?_cons_succ, Option.bind, Option.getD, List.range, List.range.loop, List.length]
          (refine all_isV ?_; rintro _ _ v ⟨A1, k1, c1, rfl, -, hv⟩; replace hv := Lib.hid hv)
          go_simp
          (rw [← HSg.out]; exact grow_w (make_w _ hv) hox)
        exact owes_nil
      case he =>
        simp only [List.drop_succ_cons, List.drop_zero]
        intro w5 ho
        simp only [waits, withs, Region.binds, List.filter, List.map, List.getElem?_cons_zero, List.getElem?_cons_succ, Option.bind, Option.getD, List.range, List.range.loop, List.length]
        repeat (first | refine all_isV ?_ | (intro vx hx'; replace hx' := Lib.hid hx'))
        obtain ⟨s5, A5, k5, c5, rfl, hs5, hr5, -⟩ := hx'.out
        have HS5 := Lib.hid (HW4.out.step ho)
        obtain ⟨d0, d1, df0, df1, e0, e1, ef0, ef1⟩ := HS5.out.cells
        have HR5 := Lib.hid (⟨hs5, hr5⟩ : _ ∧ _)
        clear ho hs5 hr5 m0 m1 mf0 mf1 n0 n1 nf0 nf1 r0 r1 q0 q1
        go_simp
        go_wp2_with fail
        go_roundw
        case rel =>
          refine ⟨i + 1, s5, A5, k5, c5, by omega, by go_num, ?_⟩
          rw [HStep.out]
          exact HS5.out.set_ HR5.out (by have := HW4.out.gt; have := HW4.out.b1.lt; omega) HW4.out.b1.lt HFS.out
        case measure => simp [intOf]; omega
      case hl =>
        repeat (refine List.forall_mem_cons.2 ⟨?_, ?_⟩; first | exact isV.lasts _ | exact isNR.lasts _ _ | exact isWR.lasts _ _ | exact isRow.lasts _ _ _ | exact isPtr.lasts _ _ _)
        exact fun _ h => (by cases h)
    · have hnl : ¬ (i : Int) < (L.length : Int) := by omega
      have HE : Hid (i = L.length) := by show _ = _; omega
      clear hlt hi
      go_wp2_with fail
      refine bodyPost_ret (v := .agg #[.bool s', .slice A' k' c']) (by simp [results, Tryd.results12, go_sem, e0, e1]) rfl ?_
      have hz := HWr.out.fin
      rw [HE.out, List.take_length] at hz
      exact hz
end Go.Proofs.YtphjcphcgnjogaaDoor
