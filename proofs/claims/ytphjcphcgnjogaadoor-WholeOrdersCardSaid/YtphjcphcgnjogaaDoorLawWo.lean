/-
  WholeOrders: the walk.
-/
import Derived.Test.YtphjcphcgnjogaaDoorDyA
namespace Go.Proofs.YtphjcphcgnjogaaDoor
set_option linter.unusedSimpArgs false
open Go.RowKit

/-- Whole numbers in one block. -/
structure WA (w0 w : World) (g : Nat) (cs : List Value) (L : List (Value × Int)) : Prop where
  only : Only [] w0 w
  blk : Blk w g 41 cs
  nol : NoLimb cs
  all : ∀ (i : Nat) (v : Value) (z : Int), L[i]? = some (v, z) → IV w v z
theorem WA.step {w0 w w' : World} {g : Nat} {cs : List Value} {L : List (Value × Int)} (h : WA w0 w g cs L) (ho : Only [] w w') : WA w0 w' g cs L := ⟨h.only.nil_trans ho, h.blk.only ho (by simp), h.nol, fun i v z hi => (h.all i v z hi).only ho⟩
theorem WA.start {w0 w : World} (ho : Only [] w0 w) (cs : List Value) (hn : NoLimb cs) : WA w0 (w.alloc (.cells cs.toArray 41)) w.heap.size cs [] := ⟨ho.alloc _, Blk.new w _ _, hn, fun i v z h => by simp at h⟩
theorem WA.iv {w0 w : World} {g : Nat} {cs : List Value} {L : List (Value × Int)} (h : Hid (WA w0 w g cs L)) (i : Nat) {v : Value} {z : Int} (hi : L[i]? = some (v, z)) : Hid (IV w v z) := h.out.all i v z hi
theorem WA.form {w0 w : World} {g : Nat} {cs : List Value} {L : List (Value × Int)} (h : WA w0 w g cs L) {i : Nat} {v : Value} {z : Int} (hi : L[i]? = some (v, z)) : ∃ s A k c, v = .agg #[.bool s, .slice A k c] := by
  obtain ⟨s, A, k, c, n, h1, _⟩ := h.all i v z hi
  exact ⟨s, A, k, c, h1⟩
theorem WA.put {w0 w : World} {g : Nat} {cs cs' : List Value} {L : List (Value × Int)} (j : Nat) {s : Bool} {A : Option Addr} {k c : Nat} {z : Int} (h : WA w0 w g cs L) (hg : w0.heap.size ≤ g) (hv : IV w (.agg #[.bool s, .slice A k c]) z) (hc : (cs.set j (.bool s)).set (j + 1) (.slice A k c) = cs') (hn : NoLimb cs') :
    WA w0 ((w.setCell ⟨g, j, none⟩ (.bool s)).setCell ⟨g, j + 1, none⟩ (.slice A k c)) g cs' ((.agg #[.bool s, .slice A k c], z) :: L) := by
  have ho : Only [g] w ((w.setCell ⟨g, j, none⟩ (.bool s)).setCell ⟨g, j + 1, none⟩ (.slice A k c)) := ((Only.refl _ w).setCell (.inl (by simp)) _).setCell (.inl (by simp)) _
  have key : ∀ v z, IV w v z → IV ((w.setCell ⟨g, j, none⟩ (.bool s)).setCell ⟨g, j + 1, none⟩ (.slice A k c)) v z := fun v z hv => by
    obtain ⟨s, A, k, c, n, rfl, h2, h3⟩ := id hv
    exact hv.farS ho (fun g' hg' => by rw [List.mem_singleton] at hg'; subst hg'; exact hv.far_blk h.blk h.nol)
  refine ⟨h.only.trans ho (fun k hk => .inr (by simp at hk; omega)), by rw [← hc]; exact (h.blk.set_ _ _).set_ _ _, hn, fun i v z hi => ?_⟩
  rcases i with _ | i
  · obtain ⟨rfl, rfl⟩ : _ = v ∧ _ = z := by simpa using hi
    exact key _ _ hv
  · exact key v z (h.all i v z (by simpa using hi))
theorem KB.farO {w0 w w' : World} {L : List EB} {g : Nat} (h : KB w0 w L) (ho : Only [g] w w') (hg : w0.heap.size ≤ g) (hn : ∀ x ∈ L, x.g ≠ g) : KB w0 w' L :=
  ⟨h.only.trans ho (fun k hk => .inr (by simp at hk; omega)), fun i x hx => (h.all i x hx).only ho (by simpa using hn x (List.mem_of_getElem? hx))⟩
theorem noLimb6 (s0 s1 s2 : Bool) (A0 A1 A2 : Option Addr) (k0 c0 k1 c1 k2 c2 : Nat) : NoLimb [.bool s0, .slice A0 k0 c0, .bool s1, .slice A1 k1 c1, .bool s2, .slice A2 k2 c2] := fun o n h => by
  rcases o with _ | _ | _ | _ | _ | _ | o <;> simp at h
theorem cmpI_add (x y z : Int) : cmpI (x + z) (y + z) = cmpI x y := by unfold cmpI; split <;> split <;> (try split) <;> (try split) <;> omega
theorem cmpI_neg (x y : Int) : cmpI (-x) (-y) = -cmpI x y := by unfold cmpI; split <;> split <;> (try split) <;> (try split) <;> omega
theorem cmp_cases {u v k : Int} (h : cmpI u v = k) : (k = -1 ∧ u < v) ∨ (k = 0 ∧ u = v) ∨ (k = 1 ∧ v < u) := by
  rcases Int.lt_trichotomy u v with h1 | h1 | h1
  · rw [cmpI_lt h1] at h; omega
  · rw [cmpI_eq h1] at h; omega
  · rw [cmpI_gt h1] at h; omega
theorem cmp_trans {x y z a b c na : Int} (h1 : cmpI x y = a) (h2 : cmpI y z = b) (h3 : cmpI x z = c) (h4 : na = -a) : (a = -1 ∧ b = -1 ∧ c = -1 ∧ na = 1) ∨ (a = -1 ∧ b = 0 ∧ c = -1 ∧ na = 1) ∨ (a = -1 ∧ b = 1 ∧ c = -1 ∧ na = 1) ∨ (a = -1 ∧ b = 1 ∧ c = 0 ∧ na = 1) ∨ (a = -1 ∧ b = 1 ∧ c = 1 ∧ na = 1) ∨ (a = 0 ∧ b = -1 ∧ c = -1 ∧ na = 0) ∨ (a = 0 ∧ b = 0 ∧ c = 0 ∧ na = 0) ∨ (a = 0 ∧ b = 1 ∧ c = 1 ∧ na = 0) ∨ (a = 1 ∧ b = -1 ∧ c = -1 ∧ na = -1) ∨ (a = 1 ∧ b = -1 ∧ c = 0 ∧ na = -1) ∨ (a = 1 ∧ b = -1 ∧ c = 1 ∧ na = -1) ∨ (a = 1 ∧ b = 0 ∧ c = 1 ∧ na = -1) ∨ (a = 1 ∧ b = 1 ∧ c = 1 ∧ na = -1) := by
  rcases cmp_cases h1 with h | h | h <;> rcases cmp_cases h2 with h' | h' | h' <;> rcases cmp_cases h3 with h'' | h'' | h'' <;> first | (exfalso; clear h1 h2 h3 h4; omega) | (obtain ⟨rfl, _⟩ := h; obtain ⟨rfl, _⟩ := h'; obtain ⟨rfl, _⟩ := h''; subst h4; simp)
theorem cmpI_self (x : Int) : cmpI x x = 0 := cmpI_eq rfl
set_option maxHeartbeats 3200000 in
set_option maxRecDepth 100000 in
theorem orders_out (A0 A1 A2 : Option Addr) (n0 c0 n1 c1 n2 c2 : Nat) (b0 b1 b2 : Bool) (w : World) (htab : Hid (Tab w)) (hl : lightB [⟨A0, n0, c0⟩, ⟨A1, n1, c1⟩, ⟨A2, n2, c2⟩] = false) :
    Calls Tryd.prog 4 #[.agg #[.slice A0 n0 c0, .slice A1 n1 c1, .slice A2 n2 c2], .agg #[.bool b0, .bool b1, .bool b2]] w fun e w' => e = .returned (.bool true) ∧ Only [] w w' := by
  have HL := Lib.hid hl
  clear hl
  have hk := ((KB.start w).new 38 [.slice A0 n0 c0, .slice A1 n1 c1, .slice A2 n2 c2]).new 39 [.bool b0, .bool b1, .bool b2]
  simp only [World.size_alloc] at hk
  have HK := Lib.hid hk
  obtain ⟨i0, i1, i2, -, -, -⟩ := hk.c3 1 rfl
  clear hk
  have hlv := light_v (w := (w.alloc (.cells #[.slice A0 n0 c0, .slice A1 n1 c1, .slice A2 n2 c2] 38)).alloc (.cells #[.bool b0, .bool b1, .bool b2] 39)) [⟨A0, n0, c0⟩, ⟨A1, n1, c1⟩, ⟨A2, n2, c2⟩] 3 (Lib.hid rfl) (by omega)
  rw [HL.out] at hlv
  simp only [List.map_cons, List.map_nil, World.size_alloc] at hlv
  have HLV := Lib.hid hlv
  clear hlv
  go_enter Tryd.func4, Tryd.ntmps4
  go_wp2_with fail
  (with_reducible refine HLV.out.mono ?_)
  rintro e w1 ⟨rfl, ho⟩
  clear HLV
  replace HK := Lib.hid (HK.out.step ho)
  clear ho i0 i1 i2
  go_wp2_with fail
  (with_reducible refine (alive2_any w1 (Lib.hid (htab.out.only HK.out.only))).mono ?_)
  rintro e w2 ⟨rfl, ho⟩
  replace HK := Lib.hid (HK.out.step ho)
  clear ho
  go_wp2_with fail
  go_ret
  exact ⟨rfl, HK.out.only⟩

theorem make_w' {w : World} {a : Value} {n : Nat} {z : Int} (s : Bool) (ha : NV w a n) (hz : sg s n = z) : Calls Tryd.prog 19 #[.bool s, a] w (WPost z w w) := hz ▸ make_w s (Lib.hid ha)
set_option maxHeartbeats 3200000 in
set_option maxRecDepth 100000 in
theorem orders_in (A0 A1 A2 : Option Addr) (n0 c0 n1 c1 n2 c2 : Nat) (b0 b1 b2 : Bool) (m0 m1 m2 : Nat) (x y z : Int) (w : World) (htab : Hid (Tab w)) (hl : lightB [⟨A0, n0, c0⟩, ⟨A1, n1, c1⟩, ⟨A2, n2, c2⟩] = true)
    (HX0 : Hid (NV w (.slice A0 n0 c0) m0)) (HX1 : Hid (NV w (.slice A1 n1 c1) m1)) (HX2 : Hid (NV w (.slice A2 n2 c2) m2)) (HS0 : Hid (sg b0 m0 = x)) (HS1 : Hid (sg b1 m1 = y)) (HS2 : Hid (sg b2 m2 = z)) (hm0 : Hid (m0 < BB ^ 40)) (hm1 : Hid (m1 < BB ^ 40)) (hm2 : Hid (m2 < BB ^ 40)) :
    Calls Tryd.prog 4 #[.agg #[.slice A0 n0 c0, .slice A1 n1 c1, .slice A2 n2 c2], .agg #[.bool b0, .bool b1, .bool b2]] w fun e w' => e = .returned (.bool true) ∧ Only [] w w' := by
  obtain ⟨a, ha⟩ : ∃ k, cmpI x y = k := ⟨_, rfl⟩
  obtain ⟨b, hb⟩ : ∃ k, cmpI y z = k := ⟨_, rfl⟩
  obtain ⟨c, hc⟩ : ∃ k, cmpI x z = k := ⟨_, rfl⟩
  have hna : ∃ k, k = -a := ⟨_, rfl⟩
  obtain ⟨na, hna⟩ := hna
  have HL := Lib.hid hl
  have HA := Lib.hid ha
  have HB := Lib.hid hb
  have HC := Lib.hid hc
  have HN := Lib.hid hna
  have HAz : Hid (cmpI (x + z) (y + z) = a) := (cmpI_add x y z).trans ha
  have HNa : Hid (cmpI (-x) (-y) = na) := by show _ = _; rw [cmpI_neg, ha, hna]
  have HYx : Hid (cmpI y x = na) := by show _ = _; rw [cmpI_swap, ha, hna]
  have HSa : Hid ((x - y).sign = a) := by show _ = _; rw [← ha, cmpI_sub]
  have HXY : Hid (x - y + y = x) := by show _ = _; omega
  have HXX : Hid (cmpI x x = 0) := cmpI_self x
  have hmx : x.natAbs = m0 := by rw [← HS0.out, sg_abs]
  have hmy : y.natAbs = m1 := by rw [← HS1.out, sg_abs]
  have hmz : z.natAbs = m2 := by rw [← HS2.out, sg_abs]
  have key : ∀ k : Nat, k < BB ^ 40 + BB ^ 40 → Few k := fun k hk => Few.of_pow (k := 41) (by rw [Nat.pow_succ]; have := Nat.mul_le_mul_left (BB ^ 40) (show 2 ≤ BB by rw [BB_val]; decide); generalize BB ^ 40 = B at *; omega) (by omega)
  have HFxz : Hid (Few (x + z).natAbs) := key _ (by have := hm0.out; have := hm2.out; generalize BB ^ 40 = B at *; omega)
  have HFyz : Hid (Few (y + z).natAbs) := key _ (by have := hm1.out; have := hm2.out; generalize BB ^ 40 = B at *; omega)
  have HFxy : Hid (Few (x - y).natAbs) := key _ (by have := hm0.out; have := hm1.out; generalize BB ^ 40 = B at *; omega)
  have HFx : Hid (Few (x - y + y).natAbs) := key _ (by rw [HXY.out]; have := hm0.out; generalize BB ^ 40 = B at *; omega)
  clear hl ha hb hc hna hmx hmy hmz key
  have hk := ((KB.start w).new 38 [.slice A0 n0 c0, .slice A1 n1 c1, .slice A2 n2 c2]).new 39 [.bool b0, .bool b1, .bool b2]
  simp only [World.size_alloc] at hk
  have HK := Lib.hid hk
  obtain ⟨i0, i1, i2, -, -, -⟩ := hk.c3 1 rfl
  clear hk
  have hlv := light_v (w := (w.alloc (.cells #[.slice A0 n0 c0, .slice A1 n1 c1, .slice A2 n2 c2] 38)).alloc (.cells #[.bool b0, .bool b1, .bool b2] 39)) [⟨A0, n0, c0⟩, ⟨A1, n1, c1⟩, ⟨A2, n2, c2⟩] 3 (Lib.hid rfl) (by omega)
  rw [HL.out] at hlv
  simp only [List.map_cons, List.map_nil, World.size_alloc] at hlv
  have HLV := Lib.hid hlv
  clear hlv
  go_enter Tryd.func4, Tryd.ntmps4
  go_wp2_with fail
  (with_reducible refine HLV.out.mono ?_)
  rintro e w1 ⟨rfl, ho⟩
  clear HLV
  replace HK := Lib.hid (HK.out.step ho)
  clear ho i0 i1 i2
  go_wp2_with fail
  (with_reducible refine (alive2_any w1 (Lib.hid (htab.out.only HK.out.only))).mono ?_)
  rintro e w2 ⟨rfl, ho⟩
  replace HK := Lib.hid (HK.out.step ho)
  clear ho
  have HW : Hid (WA w (w2.alloc (.cells #[.bool false, .slice none 0 0, .bool false, .slice none 0 0, .bool false, .slice none 0 0] 41)) w2.heap.size [.bool false, .slice none 0 0, .bool false, .slice none 0 0, .bool false, .slice none 0 0] []) := WA.start HK.out.only _ (noLimb6 _ _ _ _ _ _ _ _ _ _ _ _)
  have HG := Lib.hid HK.out.only.size
  have HNe : Hid (∀ x ∈ [(⟨w.heap.size + 1, 39, [.bool b0, .bool b1, .bool b2]⟩ : EB), ⟨w.heap.size, 38, [.slice A0 n0 c0, .slice A1 n1 c1, .slice A2 n2 c2]⟩], x.g ≠ w2.heap.size) := fun x hx => by
    have h1 := (HK.out.blk 0 rfl).lt
    simp only [List.mem_cons, List.not_mem_nil, or_false] at hx
    rcases hx with rfl | rfl <;> (simp only; omega)
  have hk := HK.out.step ((Only.refl [] w2).alloc (.cells #[.bool false, .slice none 0 0, .bool false, .slice none 0 0, .bool false, .slice none 0 0] 41))
  replace HK := Lib.hid hk
  clear hk
  obtain ⟨g, hg⟩ : ∃ g, w2.heap.size = g := ⟨_, rfl⟩
  rw [hg] at HW HG HNe
  go_wp2_with fail
  generalize w2.alloc _ = wo at *
  clear hg
  refine wp_loop_rounds 4 ?_
  rw [rounds_succ]
  go_upto_region 7 with fail
  apply wp_region_typed_tail2 9 (by kernel_rfl) [isV _, isV _, isV _, isV _, isV _, isV _, isV _, isWC x, isV _] [[], [], [1], [2], [], [4], [5], [3, 6], [0]] (by kernel_rfl) (by kernel_rfl) (by kernel_rfl)
  case ho =>
    simp only [List.take_succ_cons, List.take_zero]
    refine owes2_cons (fun wx hox => ?_) ?_
    · skip
      skip
      refine withs_plain rfl ?_
      simp only [withs, List.getElem?_cons_zero, List.getElem?_cons_succ, Option.bind, Option.getD]
      repeat (first | (with_reducible refine all_isV ?_) | (with_reducible refine all_isWC ?_; intro sx Ax kx cx hvx hwx) | (with_reducible refine all_isNR ?_; intro Ax kx cx hvx) | (with_reducible refine all_isNV ?_; intro Ax kx cx hvx) | (with_reducible refine all_isDV ?_; intro sx Ax kx cx hvx) | (with_reducible refine all_isWV ?_; intro sx Ax kx cx hvx) | (with_reducible refine all_isD ?_; intro sx Ax kx cx hvx hwx) | (with_reducible refine all_isRow ?_; intro gx' hbx) | (with_reducible refine all_isPtr ?_; intro gp' hbp hgp))
      go_simp
      exact ⟨Only.refl _ _, isV.self _ _⟩
    refine owes2_cons (fun wx hox => ?_) ?_
    · skip
      skip
      refine withs_plain rfl ?_
      simp only [withs, List.getElem?_cons_zero, List.getElem?_cons_succ, Option.bind, Option.getD]
      repeat (first | (with_reducible refine all_isV ?_) | (with_reducible refine all_isWC ?_; intro sx Ax kx cx hvx hwx) | (with_reducible refine all_isNR ?_; intro Ax kx cx hvx) | (with_reducible refine all_isNV ?_; intro Ax kx cx hvx) | (with_reducible refine all_isDV ?_; intro sx Ax kx cx hvx) | (with_reducible refine all_isWV ?_; intro sx Ax kx cx hvx) | (with_reducible refine all_isD ?_; intro sx Ax kx cx hvx hwx) | (with_reducible refine all_isRow ?_; intro gx' hbx) | (with_reducible refine all_isPtr ?_; intro gp' hbp hgp))
      go_simp
      exact ⟨Only.refl _ _, isV.self _ _⟩
    refine owes2_cons (fun wx hox => ?_) ?_
    · skip
      skip
      refine withs_plain rfl ?_
      simp only [withs, List.getElem?_cons_zero, List.getElem?_cons_succ, Option.bind, Option.getD]
      repeat (first | (with_reducible refine all_isV ?_) | (with_reducible refine all_isWC ?_; intro sx Ax kx cx hvx hwx) | (with_reducible refine all_isNR ?_; intro Ax kx cx hvx) | (with_reducible refine all_isNV ?_; intro Ax kx cx hvx) | (with_reducible refine all_isDV ?_; intro sx Ax kx cx hvx) | (with_reducible refine all_isWV ?_; intro sx Ax kx cx hvx) | (with_reducible refine all_isD ?_; intro sx Ax kx cx hvx hwx) | (with_reducible refine all_isRow ?_; intro gx' hbx) | (with_reducible refine all_isPtr ?_; intro gp' hbp hgp))
      go_simp
      exact ⟨Only.refl _ _, isV.self _ _⟩
    refine owes2_cons (fun wx hox => ?_) ?_
    · skip
      have hk := HK.out.step hox
      obtain ⟨i0, i1, i2, -, -, -⟩ := hk.c3 1 rfl
      obtain ⟨j0, j1, j2, -, -, -⟩ := hk.c3 0 rfl
      clear hk
      refine withs_plain rfl ?_
      simp only [withs, List.getElem?_cons_zero, List.getElem?_cons_succ, Option.bind, Option.getD]
      repeat (first | (with_reducible refine all_isV ?_) | (with_reducible refine all_isWC ?_; intro sx Ax kx cx hvx hwx) | (with_reducible refine all_isNR ?_; intro Ax kx cx hvx) | (with_reducible refine all_isNV ?_; intro Ax kx cx hvx) | (with_reducible refine all_isDV ?_; intro sx Ax kx cx hvx) | (with_reducible refine all_isWV ?_; intro sx Ax kx cx hvx) | (with_reducible refine all_isD ?_; intro sx Ax kx cx hvx hwx) | (with_reducible refine all_isRow ?_; intro gx' hbx) | (with_reducible refine all_isPtr ?_; intro gp' hbp hgp))
      go_simp
      exact ⟨Only.refl _ _, isV.self _ _⟩
    refine owes2_cons (fun wx hox => ?_) ?_
    · skip
      skip
      refine withs_plain rfl ?_
      simp only [withs, List.getElem?_cons_zero, List.getElem?_cons_succ, Option.bind, Option.getD]
      repeat (first | (with_reducible refine all_isV ?_) | (with_reducible refine all_isWC ?_; intro sx Ax kx cx hvx hwx) | (with_reducible refine all_isNR ?_; intro Ax kx cx hvx) | (with_reducible refine all_isNV ?_; intro Ax kx cx hvx) | (with_reducible refine all_isDV ?_; intro sx Ax kx cx hvx) | (with_reducible refine all_isWV ?_; intro sx Ax kx cx hvx) | (with_reducible refine all_isD ?_; intro sx Ax kx cx hvx hwx) | (with_reducible refine all_isRow ?_; intro gx' hbx) | (with_reducible refine all_isPtr ?_; intro gp' hbp hgp))
      go_simp
      exact ⟨Only.refl _ _, isV.self _ _⟩
    refine owes2_cons (fun wx hox => ?_) ?_
    · skip
      skip
      refine withs_plain rfl ?_
      simp only [withs, List.getElem?_cons_zero, List.getElem?_cons_succ, Option.bind, Option.getD]
      repeat (first | (with_reducible refine all_isV ?_) | (with_reducible refine all_isWC ?_; intro sx Ax kx cx hvx hwx) | (with_reducible refine all_isNR ?_; intro Ax kx cx hvx) | (with_reducible refine all_isNV ?_; intro Ax kx cx hvx) | (with_reducible refine all_isDV ?_; intro sx Ax kx cx hvx) | (with_reducible refine all_isWV ?_; intro sx Ax kx cx hvx) | (with_reducible refine all_isD ?_; intro sx Ax kx cx hvx hwx) | (with_reducible refine all_isRow ?_; intro gx' hbx) | (with_reducible refine all_isPtr ?_; intro gp' hbp hgp))
      go_simp
      exact ⟨Only.refl _ _, isV.self _ _⟩
    refine owes2_cons (fun wx hox => ?_) ?_
    · skip
      have hk := HK.out.step hox
      obtain ⟨i0, i1, i2, -, -, -⟩ := hk.c3 1 rfl
      obtain ⟨j0, j1, j2, -, -, -⟩ := hk.c3 0 rfl
      clear hk
      refine withs_plain rfl ?_
      simp only [withs, List.getElem?_cons_zero, List.getElem?_cons_succ, Option.bind, Option.getD]
      repeat (first | (with_reducible refine all_isV ?_) | (with_reducible refine all_isWC ?_; intro sx Ax kx cx hvx hwx) | (with_reducible refine all_isNR ?_; intro Ax kx cx hvx) | (with_reducible refine all_isNV ?_; intro Ax kx cx hvx) | (with_reducible refine all_isDV ?_; intro sx Ax kx cx hvx) | (with_reducible refine all_isWV ?_; intro sx Ax kx cx hvx) | (with_reducible refine all_isD ?_; intro sx Ax kx cx hvx hwx) | (with_reducible refine all_isRow ?_; intro gx' hbx) | (with_reducible refine all_isPtr ?_; intro gp' hbp hgp))
      go_simp
      exact ⟨Only.refl _ _, isV.self _ _⟩
    refine owes2_cons (fun wx hox => ?_) ?_
    · skip
      have hk := HK.out.step hox
      obtain ⟨i0, i1, i2, -, -, -⟩ := hk.c3 1 rfl
      obtain ⟨j0, j1, j2, -, -, -⟩ := hk.c3 0 rfl
      clear hk
      refine withs_plain rfl ?_
      simp only [withs, List.getElem?_cons_zero, List.getElem?_cons_succ, Option.bind, Option.getD]
      repeat (first | (with_reducible refine all_isV ?_) | (with_reducible refine all_isWC ?_; intro sx Ax kx cx hvx hwx) | (with_reducible refine all_isNR ?_; intro Ax kx cx hvx) | (with_reducible refine all_isNV ?_; intro Ax kx cx hvx) | (with_reducible refine all_isDV ?_; intro sx Ax kx cx hvx) | (with_reducible refine all_isWV ?_; intro sx Ax kx cx hvx) | (with_reducible refine all_isD ?_; intro sx Ax kx cx hvx hwx) | (with_reducible refine all_isRow ?_; intro gx' hbx) | (with_reducible refine all_isPtr ?_; intro gp' hbp hgp))
      go_simp
      (with_reducible exact grow_wc (make_w' b0 (HX0.out.only (HW.out.only.nil_trans hox)) HS0.out))
    refine owes2_cons (fun wx hox => ?_) ?_
    · skip
      skip
      refine withs_plain rfl ?_
      simp only [withs, List.getElem?_cons_zero, List.getElem?_cons_succ, Option.bind, Option.getD]
      repeat (first | (with_reducible refine all_isV ?_) | (with_reducible refine all_isWC ?_; intro sx Ax kx cx hvx hwx) | (with_reducible refine all_isNR ?_; intro Ax kx cx hvx) | (with_reducible refine all_isNV ?_; intro Ax kx cx hvx) | (with_reducible refine all_isDV ?_; intro sx Ax kx cx hvx) | (with_reducible refine all_isWV ?_; intro sx Ax kx cx hvx) | (with_reducible refine all_isD ?_; intro sx Ax kx cx hvx hwx) | (with_reducible refine all_isRow ?_; intro gx' hbx) | (with_reducible refine all_isPtr ?_; intro gp' hbp hgp))
      go_simp
      exact ⟨Only.refl _ _, isV.self _ _⟩
    exact owes2_nil
  case he =>
    simp only [List.drop_succ_cons, List.drop_zero]
    intro wx hox
    refine withs_of (by simp only [List.length, List.range, List.range.loop]; exact rfl) ?_
    simp only [withs, List.getElem?_cons_zero, List.getElem?_cons_succ, Option.bind, Option.getD]
    with_reducible refine all_isV ?_
    with_reducible refine all_isV ?_
    with_reducible refine all_isV ?_
    with_reducible refine all_isV ?_
    with_reducible refine all_isV ?_
    with_reducible refine all_isV ?_
    with_reducible refine all_isV ?_
    with_reducible refine all_isWC ?_
    intro s0 E0 k0 d0 hv7 hw7
    with_reducible refine all_isV ?_
    go_simp
    have hst := HW.out.step hox
    have hput := hst.put 0 (cs' := [.bool s0, .slice E0 k0 d0, .bool false, .slice none 0 0, .bool false, .slice none 0 0]) HG.out hv7.out (by rfl) (noLimb6 _ _ _ _ _ _ _ _ _ _ _ _)
    have bl := hst.blk
    have q0 := bl.cell 0
    have q1 := bl.cell 1
    have f0 := bl.frozen 0
    have f1 := bl.frozen 1
    simp only [List.getElem?_cons_zero, List.getElem?_cons_succ] at q0 q1
    have ivh := Lib.hid hput
    have hkb := (HK.out.step hox).farO (w' := (wx.setCell ⟨g, 0, none⟩ (.bool s0)).setCell ⟨g, 1, none⟩ (.slice E0 k0 d0)) (((Only.refl [g] wx).setCell (.inl (by simp)) _).setCell (.inl (by simp)) _) HG.out HNe.out
    replace HK := Lib.hid hkb
    clear hst hput bl hv7 hw7 hox hkb
    go_wp2_with fail
    clear q0 q1 f0 f1
    generalize (wx.setCell _ _).setCell _ _ = wp at *
    replace HW := ivh
    clear ivh
    rw [rounds_succ]
    go_upto_region 7 with fail
    apply wp_region_typed_tail2 9 (by kernel_rfl) [isV _, isV _, isV _, isV _, isV _, isV _, isV _, isWC y, isV _] [[], [], [1], [2], [], [4], [5], [3, 6], [0]] (by kernel_rfl) (by kernel_rfl) (by kernel_rfl)
    case ho =>
      simp only [List.take_succ_cons, List.take_zero]
      refine owes2_cons (fun wx hox => ?_) ?_
      · skip
        skip
        refine withs_plain rfl ?_
        simp only [withs, List.getElem?_cons_zero, List.getElem?_cons_succ, Option.bind, Option.getD]
        repeat (first | (with_reducible refine all_isV ?_) | (with_reducible refine all_isWC ?_; intro sx Ax kx cx hvx hwx) | (with_reducible refine all_isNR ?_; intro Ax kx cx hvx) | (with_reducible refine all_isNV ?_; intro Ax kx cx hvx) | (with_reducible refine all_isDV ?_; intro sx Ax kx cx hvx) | (with_reducible refine all_isWV ?_; intro sx Ax kx cx hvx) | (with_reducible refine all_isD ?_; intro sx Ax kx cx hvx hwx) | (with_reducible refine all_isRow ?_; intro gx' hbx) | (with_reducible refine all_isPtr ?_; intro gp' hbp hgp))
        go_simp
        exact ⟨Only.refl _ _, isV.self _ _⟩
      refine owes2_cons (fun wx hox => ?_) ?_
      · skip
        skip
        refine withs_plain rfl ?_
        simp only [withs, List.getElem?_cons_zero, List.getElem?_cons_succ, Option.bind, Option.getD]
        repeat (first | (with_reducible refine all_isV ?_) | (with_reducible refine all_isWC ?_; intro sx Ax kx cx hvx hwx) | (with_reducible refine all_isNR ?_; intro Ax kx cx hvx) | (with_reducible refine all_isNV ?_; intro Ax kx cx hvx) | (with_reducible refine all_isDV ?_; intro sx Ax kx cx hvx) | (with_reducible refine all_isWV ?_; intro sx Ax kx cx hvx) | (with_reducible refine all_isD ?_; intro sx Ax kx cx hvx hwx) | (with_reducible refine all_isRow ?_; intro gx' hbx) | (with_reducible refine all_isPtr ?_; intro gp' hbp hgp))
        go_simp
        exact ⟨Only.refl _ _, isV.self _ _⟩
      refine owes2_cons (fun wx hox => ?_) ?_
      · skip
        skip
        refine withs_plain rfl ?_
        simp only [withs, List.getElem?_cons_zero, List.getElem?_cons_succ, Option.bind, Option.getD]
        repeat (first | (with_reducible refine all_isV ?_) | (with_reducible refine all_isWC ?_; intro sx Ax kx cx hvx hwx) | (with_reducible refine all_isNR ?_; intro Ax kx cx hvx) | (with_reducible refine all_isNV ?_; intro Ax kx cx hvx) | (with_reducible refine all_isDV ?_; intro sx Ax kx cx hvx) | (with_reducible refine all_isWV ?_; intro sx Ax kx cx hvx) | (with_reducible refine all_isD ?_; intro sx Ax kx cx hvx hwx) | (with_reducible refine all_isRow ?_; intro gx' hbx) | (with_reducible refine all_isPtr ?_; intro gp' hbp hgp))
        go_simp
        exact ⟨Only.refl _ _, isV.self _ _⟩
      refine owes2_cons (fun wx hox => ?_) ?_
      · skip
        have hk := HK.out.step hox
        obtain ⟨i0, i1, i2, -, -, -⟩ := hk.c3 1 rfl
        obtain ⟨j0, j1, j2, -, -, -⟩ := hk.c3 0 rfl
        clear hk
        refine withs_plain rfl ?_
        simp only [withs, List.getElem?_cons_zero, List.getElem?_cons_succ, Option.bind, Option.getD]
        repeat (first | (with_reducible refine all_isV ?_) | (with_reducible refine all_isWC ?_; intro sx Ax kx cx hvx hwx) | (with_reducible refine all_isNR ?_; intro Ax kx cx hvx) | (with_reducible refine all_isNV ?_; intro Ax kx cx hvx) | (with_reducible refine all_isDV ?_; intro sx Ax kx cx hvx) | (with_reducible refine all_isWV ?_; intro sx Ax kx cx hvx) | (with_reducible refine all_isD ?_; intro sx Ax kx cx hvx hwx) | (with_reducible refine all_isRow ?_; intro gx' hbx) | (with_reducible refine all_isPtr ?_; intro gp' hbp hgp))
        go_simp
        exact ⟨Only.refl _ _, isV.self _ _⟩
      refine owes2_cons (fun wx hox => ?_) ?_
      · skip
        skip
        refine withs_plain rfl ?_
        simp only [withs, List.getElem?_cons_zero, List.getElem?_cons_succ, Option.bind, Option.getD]
        repeat (first | (with_reducible refine all_isV ?_) | (with_reducible refine all_isWC ?_; intro sx Ax kx cx hvx hwx) | (with_reducible refine all_isNR ?_; intro Ax kx cx hvx) | (with_reducible refine all_isNV ?_; intro Ax kx cx hvx) | (with_reducible refine all_isDV ?_; intro sx Ax kx cx hvx) | (with_reducible refine all_isWV ?_; intro sx Ax kx cx hvx) | (with_reducible refine all_isD ?_; intro sx Ax kx cx hvx hwx) | (with_reducible refine all_isRow ?_; intro gx' hbx) | (with_reducible refine all_isPtr ?_; intro gp' hbp hgp))
        go_simp
        exact ⟨Only.refl _ _, isV.self _ _⟩
      refine owes2_cons (fun wx hox => ?_) ?_
      · skip
        skip
        refine withs_plain rfl ?_
        simp only [withs, List.getElem?_cons_zero, List.getElem?_cons_succ, Option.bind, Option.getD]
        repeat (first | (with_reducible refine all_isV ?_) | (with_reducible refine all_isWC ?_; intro sx Ax kx cx hvx hwx) | (with_reducible refine all_isNR ?_; intro Ax kx cx hvx) | (with_reducible refine all_isNV ?_; intro Ax kx cx hvx) | (with_reducible refine all_isDV ?_; intro sx Ax kx cx hvx) | (with_reducible refine all_isWV ?_; intro sx Ax kx cx hvx) | (with_reducible refine all_isD ?_; intro sx Ax kx cx hvx hwx) | (with_reducible refine all_isRow ?_; intro gx' hbx) | (with_reducible refine all_isPtr ?_; intro gp' hbp hgp))
        go_simp
        exact ⟨Only.refl _ _, isV.self _ _⟩
      refine owes2_cons (fun wx hox => ?_) ?_
      · skip
        have hk := HK.out.step hox
        obtain ⟨i0, i1, i2, -, -, -⟩ := hk.c3 1 rfl
        obtain ⟨j0, j1, j2, -, -, -⟩ := hk.c3 0 rfl
        clear hk
        refine withs_plain rfl ?_
        simp only [withs, List.getElem?_cons_zero, List.getElem?_cons_succ, Option.bind, Option.getD]
        repeat (first | (with_reducible refine all_isV ?_) | (with_reducible refine all_isWC ?_; intro sx Ax kx cx hvx hwx) | (with_reducible refine all_isNR ?_; intro Ax kx cx hvx) | (with_reducible refine all_isNV ?_; intro Ax kx cx hvx) | (with_reducible refine all_isDV ?_; intro sx Ax kx cx hvx) | (with_reducible refine all_isWV ?_; intro sx Ax kx cx hvx) | (with_reducible refine all_isD ?_; intro sx Ax kx cx hvx hwx) | (with_reducible refine all_isRow ?_; intro gx' hbx) | (with_reducible refine all_isPtr ?_; intro gp' hbp hgp))
        go_simp
        exact ⟨Only.refl _ _, isV.self _ _⟩
      refine owes2_cons (fun wx hox => ?_) ?_
      · skip
        have hk := HK.out.step hox
        obtain ⟨i0, i1, i2, -, -, -⟩ := hk.c3 1 rfl
        obtain ⟨j0, j1, j2, -, -, -⟩ := hk.c3 0 rfl
        clear hk
        refine withs_plain rfl ?_
        simp only [withs, List.getElem?_cons_zero, List.getElem?_cons_succ, Option.bind, Option.getD]
        repeat (first | (with_reducible refine all_isV ?_) | (with_reducible refine all_isWC ?_; intro sx Ax kx cx hvx hwx) | (with_reducible refine all_isNR ?_; intro Ax kx cx hvx) | (with_reducible refine all_isNV ?_; intro Ax kx cx hvx) | (with_reducible refine all_isDV ?_; intro sx Ax kx cx hvx) | (with_reducible refine all_isWV ?_; intro sx Ax kx cx hvx) | (with_reducible refine all_isD ?_; intro sx Ax kx cx hvx hwx) | (with_reducible refine all_isRow ?_; intro gx' hbx) | (with_reducible refine all_isPtr ?_; intro gp' hbp hgp))
        go_simp
        (with_reducible exact grow_wc (make_w' b1 (HX1.out.only (HW.out.only.nil_trans hox)) HS1.out))
      refine owes2_cons (fun wx hox => ?_) ?_
      · skip
        skip
        refine withs_plain rfl ?_
        simp only [withs, List.getElem?_cons_zero, List.getElem?_cons_succ, Option.bind, Option.getD]
        repeat (first | (with_reducible refine all_isV ?_) | (with_reducible refine all_isWC ?_; intro sx Ax kx cx hvx hwx) | (with_reducible refine all_isNR ?_; intro Ax kx cx hvx) | (with_reducible refine all_isNV ?_; intro Ax kx cx hvx) | (with_reducible refine all_isDV ?_; intro sx Ax kx cx hvx) | (with_reducible refine all_isWV ?_; intro sx Ax kx cx hvx) | (with_reducible refine all_isD ?_; intro sx Ax kx cx hvx hwx) | (with_reducible refine all_isRow ?_; intro gx' hbx) | (with_reducible refine all_isPtr ?_; intro gp' hbp hgp))
        go_simp
        exact ⟨Only.refl _ _, isV.self _ _⟩
      exact owes2_nil
    case he =>
      simp only [List.drop_succ_cons, List.drop_zero]
      intro wx hox
      refine withs_of (by simp only [List.length, List.range, List.range.loop]; exact rfl) ?_
      simp only [withs, List.getElem?_cons_zero, List.getElem?_cons_succ, Option.bind, Option.getD]
      with_reducible refine all_isV ?_
      with_reducible refine all_isV ?_
      with_reducible refine all_isV ?_
      with_reducible refine all_isV ?_
      with_reducible refine all_isV ?_
      with_reducible refine all_isV ?_
      with_reducible refine all_isV ?_
      with_reducible refine all_isWC ?_
      intro s1 E1 k1 d1 hv7 hw7
      with_reducible refine all_isV ?_
      go_simp
      have hst := HW.out.step hox
      have hput := hst.put 2 (cs' := [.bool s0, .slice E0 k0 d0, .bool s1, .slice E1 k1 d1, .bool false, .slice none 0 0]) HG.out hv7.out (by rfl) (noLimb6 _ _ _ _ _ _ _ _ _ _ _ _)
      have bl := hst.blk
      have q2 := bl.cell 2
      have q3 := bl.cell 3
      have f2 := bl.frozen 2
      have f3 := bl.frozen 3
      simp only [List.getElem?_cons_zero, List.getElem?_cons_succ] at q2 q3
      have ivh := Lib.hid hput
      have hkb := (HK.out.step hox).farO (w' := (wx.setCell ⟨g, 2, none⟩ (.bool s1)).setCell ⟨g, 3, none⟩ (.slice E1 k1 d1)) (((Only.refl [g] wx).setCell (.inl (by simp)) _).setCell (.inl (by simp)) _) HG.out HNe.out
      replace HK := Lib.hid hkb
      clear hst hput bl hv7 hw7 hox hkb
      go_wp2_with fail
      clear q2 q3 f2 f3
      generalize (wx.setCell _ _).setCell _ _ = wq at *
      replace HW := ivh
      clear ivh
      rw [rounds_succ]
      go_upto_region 7 with fail
      apply wp_region_typed_tail2 9 (by kernel_rfl) [isV _, isV _, isV _, isV _, isV _, isV _, isV _, isWC z, isV _] [[], [], [1], [2], [], [4], [5], [3, 6], [0]] (by kernel_rfl) (by kernel_rfl) (by kernel_rfl)
      case ho =>
        simp only [List.take_succ_cons, List.take_zero]
        refine owes2_cons (fun wx hox => ?_) ?_
        · skip
          skip
          refine withs_plain rfl ?_
          simp only [withs, List.getElem?_cons_zero, List.getElem?_cons_succ, Option.bind, Option.getD]
          repeat (first | (with_reducible refine all_isV ?_) | (with_reducible refine all_isWC ?_; intro sx Ax kx cx hvx hwx) | (with_reducible refine all_isNR ?_; intro Ax kx cx hvx) | (with_reducible refine all_isNV ?_; intro Ax kx cx hvx) | (with_reducible refine all_isDV ?_; intro sx Ax kx cx hvx) | (with_reducible refine all_isWV ?_; intro sx Ax kx cx hvx) | (with_reducible refine all_isD ?_; intro sx Ax kx cx hvx hwx) | (with_reducible refine all_isRow ?_; intro gx' hbx) | (with_reducible refine all_isPtr ?_; intro gp' hbp hgp))
          go_simp
          exact ⟨Only.refl _ _, isV.self _ _⟩
        refine owes2_cons (fun wx hox => ?_) ?_
        · skip
          skip
          refine withs_plain rfl ?_
          simp only [withs, List.getElem?_cons_zero, List.getElem?_cons_succ, Option.bind, Option.getD]
          repeat (first | (with_reducible refine all_isV ?_) | (with_reducible refine all_isWC ?_; intro sx Ax kx cx hvx hwx) | (with_reducible refine all_isNR ?_; intro Ax kx cx hvx) | (with_reducible refine all_isNV ?_; intro Ax kx cx hvx) | (with_reducible refine all_isDV ?_; intro sx Ax kx cx hvx) | (with_reducible refine all_isWV ?_; intro sx Ax kx cx hvx) | (with_reducible refine all_isD ?_; intro sx Ax kx cx hvx hwx) | (with_reducible refine all_isRow ?_; intro gx' hbx) | (with_reducible refine all_isPtr ?_; intro gp' hbp hgp))
          go_simp
          exact ⟨Only.refl _ _, isV.self _ _⟩
        refine owes2_cons (fun wx hox => ?_) ?_
        · skip
          skip
          refine withs_plain rfl ?_
          simp only [withs, List.getElem?_cons_zero, List.getElem?_cons_succ, Option.bind, Option.getD]
          repeat (first | (with_reducible refine all_isV ?_) | (with_reducible refine all_isWC ?_; intro sx Ax kx cx hvx hwx) | (with_reducible refine all_isNR ?_; intro Ax kx cx hvx) | (with_reducible refine all_isNV ?_; intro Ax kx cx hvx) | (with_reducible refine all_isDV ?_; intro sx Ax kx cx hvx) | (with_reducible refine all_isWV ?_; intro sx Ax kx cx hvx) | (with_reducible refine all_isD ?_; intro sx Ax kx cx hvx hwx) | (with_reducible refine all_isRow ?_; intro gx' hbx) | (with_reducible refine all_isPtr ?_; intro gp' hbp hgp))
          go_simp
          exact ⟨Only.refl _ _, isV.self _ _⟩
        refine owes2_cons (fun wx hox => ?_) ?_
        · skip
          have hk := HK.out.step hox
          obtain ⟨i0, i1, i2, -, -, -⟩ := hk.c3 1 rfl
          obtain ⟨j0, j1, j2, -, -, -⟩ := hk.c3 0 rfl
          clear hk
          refine withs_plain rfl ?_
          simp only [withs, List.getElem?_cons_zero, List.getElem?_cons_succ, Option.bind, Option.getD]
          repeat (first | (with_reducible refine all_isV ?_) | (with_reducible refine all_isWC ?_; intro sx Ax kx cx hvx hwx) | (with_reducible refine all_isNR ?_; intro Ax kx cx hvx) | (with_reducible refine all_isNV ?_; intro Ax kx cx hvx) | (with_reducible refine all_isDV ?_; intro sx Ax kx cx hvx) | (with_reducible refine all_isWV ?_; intro sx Ax kx cx hvx) | (with_reducible refine all_isD ?_; intro sx Ax kx cx hvx hwx) | (with_reducible refine all_isRow ?_; intro gx' hbx) | (with_reducible refine all_isPtr ?_; intro gp' hbp hgp))
          go_simp
          exact ⟨Only.refl _ _, isV.self _ _⟩
        refine owes2_cons (fun wx hox => ?_) ?_
        · skip
          skip
          refine withs_plain rfl ?_
          simp only [withs, List.getElem?_cons_zero, List.getElem?_cons_succ, Option.bind, Option.getD]
          repeat (first | (with_reducible refine all_isV ?_) | (with_reducible refine all_isWC ?_; intro sx Ax kx cx hvx hwx) | (with_reducible refine all_isNR ?_; intro Ax kx cx hvx) | (with_reducible refine all_isNV ?_; intro Ax kx cx hvx) | (with_reducible refine all_isDV ?_; intro sx Ax kx cx hvx) | (with_reducible refine all_isWV ?_; intro sx Ax kx cx hvx) | (with_reducible refine all_isD ?_; intro sx Ax kx cx hvx hwx) | (with_reducible refine all_isRow ?_; intro gx' hbx) | (with_reducible refine all_isPtr ?_; intro gp' hbp hgp))
          go_simp
          exact ⟨Only.refl _ _, isV.self _ _⟩
        refine owes2_cons (fun wx hox => ?_) ?_
        · skip
          skip
          refine withs_plain rfl ?_
          simp only [withs, List.getElem?_cons_zero, List.getElem?_cons_succ, Option.bind, Option.getD]
          repeat (first | (with_reducible refine all_isV ?_) | (with_reducible refine all_isWC ?_; intro sx Ax kx cx hvx hwx) | (with_reducible refine all_isNR ?_; intro Ax kx cx hvx) | (with_reducible refine all_isNV ?_; intro Ax kx cx hvx) | (with_reducible refine all_isDV ?_; intro sx Ax kx cx hvx) | (with_reducible refine all_isWV ?_; intro sx Ax kx cx hvx) | (with_reducible refine all_isD ?_; intro sx Ax kx cx hvx hwx) | (with_reducible refine all_isRow ?_; intro gx' hbx) | (with_reducible refine all_isPtr ?_; intro gp' hbp hgp))
          go_simp
          exact ⟨Only.refl _ _, isV.self _ _⟩
        refine owes2_cons (fun wx hox => ?_) ?_
        · skip
          have hk := HK.out.step hox
          obtain ⟨i0, i1, i2, -, -, -⟩ := hk.c3 1 rfl
          obtain ⟨j0, j1, j2, -, -, -⟩ := hk.c3 0 rfl
          clear hk
          refine withs_plain rfl ?_
          simp only [withs, List.getElem?_cons_zero, List.getElem?_cons_succ, Option.bind, Option.getD]
          repeat (first | (with_reducible refine all_isV ?_) | (with_reducible refine all_isWC ?_; intro sx Ax kx cx hvx hwx) | (with_reducible refine all_isNR ?_; intro Ax kx cx hvx) | (with_reducible refine all_isNV ?_; intro Ax kx cx hvx) | (with_reducible refine all_isDV ?_; intro sx Ax kx cx hvx) | (with_reducible refine all_isWV ?_; intro sx Ax kx cx hvx) | (with_reducible refine all_isD ?_; intro sx Ax kx cx hvx hwx) | (with_reducible refine all_isRow ?_; intro gx' hbx) | (with_reducible refine all_isPtr ?_; intro gp' hbp hgp))
          go_simp
          exact ⟨Only.refl _ _, isV.self _ _⟩
        refine owes2_cons (fun wx hox => ?_) ?_
        · skip
          have hk := HK.out.step hox
          obtain ⟨i0, i1, i2, -, -, -⟩ := hk.c3 1 rfl
          obtain ⟨j0, j1, j2, -, -, -⟩ := hk.c3 0 rfl
          clear hk
          refine withs_plain rfl ?_
          simp only [withs, List.getElem?_cons_zero, List.getElem?_cons_succ, Option.bind, Option.getD]
          repeat (first | (with_reducible refine all_isV ?_) | (with_reducible refine all_isWC ?_; intro sx Ax kx cx hvx hwx) | (with_reducible refine all_isNR ?_; intro Ax kx cx hvx) | (with_reducible refine all_isNV ?_; intro Ax kx cx hvx) | (with_reducible refine all_isDV ?_; intro sx Ax kx cx hvx) | (with_reducible refine all_isWV ?_; intro sx Ax kx cx hvx) | (with_reducible refine all_isD ?_; intro sx Ax kx cx hvx hwx) | (with_reducible refine all_isRow ?_; intro gx' hbx) | (with_reducible refine all_isPtr ?_; intro gp' hbp hgp))
          go_simp
          (with_reducible exact grow_wc (make_w' b2 (HX2.out.only (HW.out.only.nil_trans hox)) HS2.out))
        refine owes2_cons (fun wx hox => ?_) ?_
        · skip
          skip
          refine withs_plain rfl ?_
          simp only [withs, List.getElem?_cons_zero, List.getElem?_cons_succ, Option.bind, Option.getD]
          repeat (first | (with_reducible refine all_isV ?_) | (with_reducible refine all_isWC ?_; intro sx Ax kx cx hvx hwx) | (with_reducible refine all_isNR ?_; intro Ax kx cx hvx) | (with_reducible refine all_isNV ?_; intro Ax kx cx hvx) | (with_reducible refine all_isDV ?_; intro sx Ax kx cx hvx) | (with_reducible refine all_isWV ?_; intro sx Ax kx cx hvx) | (with_reducible refine all_isD ?_; intro sx Ax kx cx hvx hwx) | (with_reducible refine all_isRow ?_; intro gx' hbx) | (with_reducible refine all_isPtr ?_; intro gp' hbp hgp))
          go_simp
          exact ⟨Only.refl _ _, isV.self _ _⟩
        exact owes2_nil
      case he =>
        simp only [List.drop_succ_cons, List.drop_zero]
        intro wx hox
        refine withs_of (by simp only [List.length, List.range, List.range.loop]; exact rfl) ?_
        simp only [withs, List.getElem?_cons_zero, List.getElem?_cons_succ, Option.bind, Option.getD]
        with_reducible refine all_isV ?_
        with_reducible refine all_isV ?_
        with_reducible refine all_isV ?_
        with_reducible refine all_isV ?_
        with_reducible refine all_isV ?_
        with_reducible refine all_isV ?_
        with_reducible refine all_isV ?_
        with_reducible refine all_isWC ?_
        intro s2 E2 k2 d2 hv7 hw7
        with_reducible refine all_isV ?_
        go_simp
        have hst := HW.out.step hox
        have hput := hst.put 4 (cs' := [.bool s0, .slice E0 k0 d0, .bool s1, .slice E1 k1 d1, .bool s2, .slice E2 k2 d2]) HG.out hv7.out (by rfl) (noLimb6 _ _ _ _ _ _ _ _ _ _ _ _)
        have bl := hst.blk
        have q4 := bl.cell 4
        have q5 := bl.cell 5
        have f4 := bl.frozen 4
        have f5 := bl.frozen 5
        simp only [List.getElem?_cons_zero, List.getElem?_cons_succ] at q4 q5
        have ivh := Lib.hid hput
        have hkb := (HK.out.step hox).farO (w' := (wx.setCell ⟨g, 4, none⟩ (.bool s2)).setCell ⟨g, 5, none⟩ (.slice E2 k2 d2)) (((Only.refl [g] wx).setCell (.inl (by simp)) _).setCell (.inl (by simp)) _) HG.out HNe.out
        replace HK := Lib.hid hkb
        clear hst hput bl hv7 hw7 hox hkb
        go_wp2_with fail
        clear q4 q5 f4 f5
        generalize (wx.setCell _ _).setCell _ _ = wr at *
        replace HW := ivh
        clear ivh
        rw [rounds_succ]
        go_upto_region 8 with fail
        apply wp_region_typed2 (by kernel_rfl) [isV _, isV _, isV _, isV _, isV _, isV _, isV _, isV _, isV _, isV _, isV _, isV _, isV _, isV _, isV _, isV _, isV _, isV _] [[], [0], [], [2], [1, 3], [], [5], [], [7], [6, 8], [], [10], [], [12], [11, 13], [4], [9], [14]] (by kernel_rfl) (by kernel_rfl)
        case ho =>
          refine owes2_cons (fun wx hox => ?_) ?_
          · skip
            skip
            refine withs_plain rfl ?_
            simp only [withs, List.getElem?_cons_zero, List.getElem?_cons_succ, Option.bind, Option.getD]
            repeat (first | (with_reducible refine all_isV ?_) | (with_reducible refine all_isWC ?_; intro sx Ax kx cx hvx hwx) | (with_reducible refine all_isNR ?_; intro Ax kx cx hvx) | (with_reducible refine all_isNV ?_; intro Ax kx cx hvx) | (with_reducible refine all_isDV ?_; intro sx Ax kx cx hvx) | (with_reducible refine all_isWV ?_; intro sx Ax kx cx hvx) | (with_reducible refine all_isD ?_; intro sx Ax kx cx hvx hwx) | (with_reducible refine all_isRow ?_; intro gx' hbx) | (with_reducible refine all_isPtr ?_; intro gp' hbp hgp))
            go_simp
            exact ⟨Only.refl _ _, isV.self _ _⟩
          refine owes2_cons (fun wx hox => ?_) ?_
          · skip
            have h3 := Lib.hid (HW.out.step hox)
            have bl := h3.out.blk
            have q0 := bl.cell 0
            have q1 := bl.cell 1
            have q2 := bl.cell 2
            have q3 := bl.cell 3
            have q4 := bl.cell 4
            have q5 := bl.cell 5
            simp only [List.getElem?_cons_zero, List.getElem?_cons_succ] at q0 q1 q2 q3 q4 q5
            have iv0 := WA.iv h3 2 rfl
            have iv1 := WA.iv h3 1 rfl
            have iv2 := WA.iv h3 0 rfl
            clear bl h3
            refine withs_plain rfl ?_
            simp only [withs, List.getElem?_cons_zero, List.getElem?_cons_succ, Option.bind, Option.getD]
            repeat (first | (with_reducible refine all_isV ?_) | (with_reducible refine all_isWC ?_; intro sx Ax kx cx hvx hwx) | (with_reducible refine all_isNR ?_; intro Ax kx cx hvx) | (with_reducible refine all_isNV ?_; intro Ax kx cx hvx) | (with_reducible refine all_isDV ?_; intro sx Ax kx cx hvx) | (with_reducible refine all_isWV ?_; intro sx Ax kx cx hvx) | (with_reducible refine all_isD ?_; intro sx Ax kx cx hvx hwx) | (with_reducible refine all_isRow ?_; intro gx' hbx) | (with_reducible refine all_isPtr ?_; intro gp' hbp hgp))
            go_simp
            exact ⟨Only.refl _ _, isV.self _ _⟩
          refine owes2_cons (fun wx hox => ?_) ?_
          · skip
            skip
            refine withs_plain rfl ?_
            simp only [withs, List.getElem?_cons_zero, List.getElem?_cons_succ, Option.bind, Option.getD]
            repeat (first | (with_reducible refine all_isV ?_) | (with_reducible refine all_isWC ?_; intro sx Ax kx cx hvx hwx) | (with_reducible refine all_isNR ?_; intro Ax kx cx hvx) | (with_reducible refine all_isNV ?_; intro Ax kx cx hvx) | (with_reducible refine all_isDV ?_; intro sx Ax kx cx hvx) | (with_reducible refine all_isWV ?_; intro sx Ax kx cx hvx) | (with_reducible refine all_isD ?_; intro sx Ax kx cx hvx hwx) | (with_reducible refine all_isRow ?_; intro gx' hbx) | (with_reducible refine all_isPtr ?_; intro gp' hbp hgp))
            go_simp
            exact ⟨Only.refl _ _, isV.self _ _⟩
          refine owes2_cons (fun wx hox => ?_) ?_
          · skip
            have h3 := Lib.hid (HW.out.step hox)
            have bl := h3.out.blk
            have q0 := bl.cell 0
            have q1 := bl.cell 1
            have q2 := bl.cell 2
            have q3 := bl.cell 3
            have q4 := bl.cell 4
            have q5 := bl.cell 5
            simp only [List.getElem?_cons_zero, List.getElem?_cons_succ] at q0 q1 q2 q3 q4 q5
            have iv0 := WA.iv h3 2 rfl
            have iv1 := WA.iv h3 1 rfl
            have iv2 := WA.iv h3 0 rfl
            clear bl h3
            refine withs_plain rfl ?_
            simp only [withs, List.getElem?_cons_zero, List.getElem?_cons_succ, Option.bind, Option.getD]
            repeat (first | (with_reducible refine all_isV ?_) | (with_reducible refine all_isWC ?_; intro sx Ax kx cx hvx hwx) | (with_reducible refine all_isNR ?_; intro Ax kx cx hvx) | (with_reducible refine all_isNV ?_; intro Ax kx cx hvx) | (with_reducible refine all_isDV ?_; intro sx Ax kx cx hvx) | (with_reducible refine all_isWV ?_; intro sx Ax kx cx hvx) | (with_reducible refine all_isD ?_; intro sx Ax kx cx hvx hwx) | (with_reducible refine all_isRow ?_; intro gx' hbx) | (with_reducible refine all_isPtr ?_; intro gp' hbp hgp))
            go_simp
            exact ⟨Only.refl _ _, isV.self _ _⟩
          refine owes2_cons (fun wx hox => ?_) ?_
          · skip
            have h3 := Lib.hid (HW.out.step hox)
            have bl := h3.out.blk
            have q0 := bl.cell 0
            have q1 := bl.cell 1
            have q2 := bl.cell 2
            have q3 := bl.cell 3
            have q4 := bl.cell 4
            have q5 := bl.cell 5
            simp only [List.getElem?_cons_zero, List.getElem?_cons_succ] at q0 q1 q2 q3 q4 q5
            have iv0 := WA.iv h3 2 rfl
            have iv1 := WA.iv h3 1 rfl
            have iv2 := WA.iv h3 0 rfl
            clear bl h3
            refine withs_plain rfl ?_
            simp only [withs, List.getElem?_cons_zero, List.getElem?_cons_succ, Option.bind, Option.getD]
            repeat (first | (with_reducible refine all_isV ?_) | (with_reducible refine all_isWC ?_; intro sx Ax kx cx hvx hwx) | (with_reducible refine all_isNR ?_; intro Ax kx cx hvx) | (with_reducible refine all_isNV ?_; intro Ax kx cx hvx) | (with_reducible refine all_isDV ?_; intro sx Ax kx cx hvx) | (with_reducible refine all_isWV ?_; intro sx Ax kx cx hvx) | (with_reducible refine all_isD ?_; intro sx Ax kx cx hvx hwx) | (with_reducible refine all_isRow ?_; intro gx' hbx) | (with_reducible refine all_isPtr ?_; intro gp' hbp hgp))
            go_simp
            (with_reducible exact grow_of (cmpV_w (x := x) (y := y) a (by assumption) (by assumption) HA.out))
          refine owes2_cons (fun wx hox => ?_) ?_
          · skip
            skip
            refine withs_plain rfl ?_
            simp only [withs, List.getElem?_cons_zero, List.getElem?_cons_succ, Option.bind, Option.getD]
            repeat (first | (with_reducible refine all_isV ?_) | (with_reducible refine all_isWC ?_; intro sx Ax kx cx hvx hwx) | (with_reducible refine all_isNR ?_; intro Ax kx cx hvx) | (with_reducible refine all_isNV ?_; intro Ax kx cx hvx) | (with_reducible refine all_isDV ?_; intro sx Ax kx cx hvx) | (with_reducible refine all_isWV ?_; intro sx Ax kx cx hvx) | (with_reducible refine all_isD ?_; intro sx Ax kx cx hvx hwx) | (with_reducible refine all_isRow ?_; intro gx' hbx) | (with_reducible refine all_isPtr ?_; intro gp' hbp hgp))
            go_simp
            exact ⟨Only.refl _ _, isV.self _ _⟩
          refine owes2_cons (fun wx hox => ?_) ?_
          · skip
            have h3 := Lib.hid (HW.out.step hox)
            have bl := h3.out.blk
            have q0 := bl.cell 0
            have q1 := bl.cell 1
            have q2 := bl.cell 2
            have q3 := bl.cell 3
            have q4 := bl.cell 4
            have q5 := bl.cell 5
            simp only [List.getElem?_cons_zero, List.getElem?_cons_succ] at q0 q1 q2 q3 q4 q5
            have iv0 := WA.iv h3 2 rfl
            have iv1 := WA.iv h3 1 rfl
            have iv2 := WA.iv h3 0 rfl
            clear bl h3
            refine withs_plain rfl ?_
            simp only [withs, List.getElem?_cons_zero, List.getElem?_cons_succ, Option.bind, Option.getD]
            repeat (first | (with_reducible refine all_isV ?_) | (with_reducible refine all_isWC ?_; intro sx Ax kx cx hvx hwx) | (with_reducible refine all_isNR ?_; intro Ax kx cx hvx) | (with_reducible refine all_isNV ?_; intro Ax kx cx hvx) | (with_reducible refine all_isDV ?_; intro sx Ax kx cx hvx) | (with_reducible refine all_isWV ?_; intro sx Ax kx cx hvx) | (with_reducible refine all_isD ?_; intro sx Ax kx cx hvx hwx) | (with_reducible refine all_isRow ?_; intro gx' hbx) | (with_reducible refine all_isPtr ?_; intro gp' hbp hgp))
            go_simp
            exact ⟨Only.refl _ _, isV.self _ _⟩
          refine owes2_cons (fun wx hox => ?_) ?_
          · skip
            skip
            refine withs_plain rfl ?_
            simp only [withs, List.getElem?_cons_zero, List.getElem?_cons_succ, Option.bind, Option.getD]
            repeat (first | (with_reducible refine all_isV ?_) | (with_reducible refine all_isWC ?_; intro sx Ax kx cx hvx hwx) | (with_reducible refine all_isNR ?_; intro Ax kx cx hvx) | (with_reducible refine all_isNV ?_; intro Ax kx cx hvx) | (with_reducible refine all_isDV ?_; intro sx Ax kx cx hvx) | (with_reducible refine all_isWV ?_; intro sx Ax kx cx hvx) | (with_reducible refine all_isD ?_; intro sx Ax kx cx hvx hwx) | (with_reducible refine all_isRow ?_; intro gx' hbx) | (with_reducible refine all_isPtr ?_; intro gp' hbp hgp))
            go_simp
            exact ⟨Only.refl _ _, isV.self _ _⟩
          refine owes2_cons (fun wx hox => ?_) ?_
          · skip
            have h3 := Lib.hid (HW.out.step hox)
            have bl := h3.out.blk
            have q0 := bl.cell 0
            have q1 := bl.cell 1
            have q2 := bl.cell 2
            have q3 := bl.cell 3
            have q4 := bl.cell 4
            have q5 := bl.cell 5
            simp only [List.getElem?_cons_zero, List.getElem?_cons_succ] at q0 q1 q2 q3 q4 q5
            have iv0 := WA.iv h3 2 rfl
            have iv1 := WA.iv h3 1 rfl
            have iv2 := WA.iv h3 0 rfl
            clear bl h3
            refine withs_plain rfl ?_
            simp only [withs, List.getElem?_cons_zero, List.getElem?_cons_succ, Option.bind, Option.getD]
            repeat (first | (with_reducible refine all_isV ?_) | (with_reducible refine all_isWC ?_; intro sx Ax kx cx hvx hwx) | (with_reducible refine all_isNR ?_; intro Ax kx cx hvx) | (with_reducible refine all_isNV ?_; intro Ax kx cx hvx) | (with_reducible refine all_isDV ?_; intro sx Ax kx cx hvx) | (with_reducible refine all_isWV ?_; intro sx Ax kx cx hvx) | (with_reducible refine all_isD ?_; intro sx Ax kx cx hvx hwx) | (with_reducible refine all_isRow ?_; intro gx' hbx) | (with_reducible refine all_isPtr ?_; intro gp' hbp hgp))
            go_simp
            exact ⟨Only.refl _ _, isV.self _ _⟩
          refine owes2_cons (fun wx hox => ?_) ?_
          · skip
            have h3 := Lib.hid (HW.out.step hox)
            have bl := h3.out.blk
            have q0 := bl.cell 0
            have q1 := bl.cell 1
            have q2 := bl.cell 2
            have q3 := bl.cell 3
            have q4 := bl.cell 4
            have q5 := bl.cell 5
            simp only [List.getElem?_cons_zero, List.getElem?_cons_succ] at q0 q1 q2 q3 q4 q5
            have iv0 := WA.iv h3 2 rfl
            have iv1 := WA.iv h3 1 rfl
            have iv2 := WA.iv h3 0 rfl
            clear bl h3
            refine withs_plain rfl ?_
            simp only [withs, List.getElem?_cons_zero, List.getElem?_cons_succ, Option.bind, Option.getD]
            repeat (first | (with_reducible refine all_isV ?_) | (with_reducible refine all_isWC ?_; intro sx Ax kx cx hvx hwx) | (with_reducible refine all_isNR ?_; intro Ax kx cx hvx) | (with_reducible refine all_isNV ?_; intro Ax kx cx hvx) | (with_reducible refine all_isDV ?_; intro sx Ax kx cx hvx) | (with_reducible refine all_isWV ?_; intro sx Ax kx cx hvx) | (with_reducible refine all_isD ?_; intro sx Ax kx cx hvx hwx) | (with_reducible refine all_isRow ?_; intro gx' hbx) | (with_reducible refine all_isPtr ?_; intro gp' hbp hgp))
            go_simp
            (with_reducible exact grow_of (cmpV_w (x := y) (y := z) b (by assumption) (by assumption) HB.out))
          refine owes2_cons (fun wx hox => ?_) ?_
          · skip
            skip
            refine withs_plain rfl ?_
            simp only [withs, List.getElem?_cons_zero, List.getElem?_cons_succ, Option.bind, Option.getD]
            repeat (first | (with_reducible refine all_isV ?_) | (with_reducible refine all_isWC ?_; intro sx Ax kx cx hvx hwx) | (with_reducible refine all_isNR ?_; intro Ax kx cx hvx) | (with_reducible refine all_isNV ?_; intro Ax kx cx hvx) | (with_reducible refine all_isDV ?_; intro sx Ax kx cx hvx) | (with_reducible refine all_isWV ?_; intro sx Ax kx cx hvx) | (with_reducible refine all_isD ?_; intro sx Ax kx cx hvx hwx) | (with_reducible refine all_isRow ?_; intro gx' hbx) | (with_reducible refine all_isPtr ?_; intro gp' hbp hgp))
            go_simp
            exact ⟨Only.refl _ _, isV.self _ _⟩
          refine owes2_cons (fun wx hox => ?_) ?_
          · skip
            have h3 := Lib.hid (HW.out.step hox)
            have bl := h3.out.blk
            have q0 := bl.cell 0
            have q1 := bl.cell 1
            have q2 := bl.cell 2
            have q3 := bl.cell 3
            have q4 := bl.cell 4
            have q5 := bl.cell 5
            simp only [List.getElem?_cons_zero, List.getElem?_cons_succ] at q0 q1 q2 q3 q4 q5
            have iv0 := WA.iv h3 2 rfl
            have iv1 := WA.iv h3 1 rfl
            have iv2 := WA.iv h3 0 rfl
            clear bl h3
            refine withs_plain rfl ?_
            simp only [withs, List.getElem?_cons_zero, List.getElem?_cons_succ, Option.bind, Option.getD]
            repeat (first | (with_reducible refine all_isV ?_) | (with_reducible refine all_isWC ?_; intro sx Ax kx cx hvx hwx) | (with_reducible refine all_isNR ?_; intro Ax kx cx hvx) | (with_reducible refine all_isNV ?_; intro Ax kx cx hvx) | (with_reducible refine all_isDV ?_; intro sx Ax kx cx hvx) | (with_reducible refine all_isWV ?_; intro sx Ax kx cx hvx) | (with_reducible refine all_isD ?_; intro sx Ax kx cx hvx hwx) | (with_reducible refine all_isRow ?_; intro gx' hbx) | (with_reducible refine all_isPtr ?_; intro gp' hbp hgp))
            go_simp
            exact ⟨Only.refl _ _, isV.self _ _⟩
          refine owes2_cons (fun wx hox => ?_) ?_
          · skip
            skip
            refine withs_plain rfl ?_
            simp only [withs, List.getElem?_cons_zero, List.getElem?_cons_succ, Option.bind, Option.getD]
            repeat (first | (with_reducible refine all_isV ?_) | (with_reducible refine all_isWC ?_; intro sx Ax kx cx hvx hwx) | (with_reducible refine all_isNR ?_; intro Ax kx cx hvx) | (with_reducible refine all_isNV ?_; intro Ax kx cx hvx) | (with_reducible refine all_isDV ?_; intro sx Ax kx cx hvx) | (with_reducible refine all_isWV ?_; intro sx Ax kx cx hvx) | (with_reducible refine all_isD ?_; intro sx Ax kx cx hvx hwx) | (with_reducible refine all_isRow ?_; intro gx' hbx) | (with_reducible refine all_isPtr ?_; intro gp' hbp hgp))
            go_simp
            exact ⟨Only.refl _ _, isV.self _ _⟩
          refine owes2_cons (fun wx hox => ?_) ?_
          · skip
            have h3 := Lib.hid (HW.out.step hox)
            have bl := h3.out.blk
            have q0 := bl.cell 0
            have q1 := bl.cell 1
            have q2 := bl.cell 2
            have q3 := bl.cell 3
            have q4 := bl.cell 4
            have q5 := bl.cell 5
            simp only [List.getElem?_cons_zero, List.getElem?_cons_succ] at q0 q1 q2 q3 q4 q5
            have iv0 := WA.iv h3 2 rfl
            have iv1 := WA.iv h3 1 rfl
            have iv2 := WA.iv h3 0 rfl
            clear bl h3
            refine withs_plain rfl ?_
            simp only [withs, List.getElem?_cons_zero, List.getElem?_cons_succ, Option.bind, Option.getD]
            repeat (first | (with_reducible refine all_isV ?_) | (with_reducible refine all_isWC ?_; intro sx Ax kx cx hvx hwx) | (with_reducible refine all_isNR ?_; intro Ax kx cx hvx) | (with_reducible refine all_isNV ?_; intro Ax kx cx hvx) | (with_reducible refine all_isDV ?_; intro sx Ax kx cx hvx) | (with_reducible refine all_isWV ?_; intro sx Ax kx cx hvx) | (with_reducible refine all_isD ?_; intro sx Ax kx cx hvx hwx) | (with_reducible refine all_isRow ?_; intro gx' hbx) | (with_reducible refine all_isPtr ?_; intro gp' hbp hgp))
            go_simp
            exact ⟨Only.refl _ _, isV.self _ _⟩
          refine owes2_cons (fun wx hox => ?_) ?_
          · skip
            have h3 := Lib.hid (HW.out.step hox)
            have bl := h3.out.blk
            have q0 := bl.cell 0
            have q1 := bl.cell 1
            have q2 := bl.cell 2
            have q3 := bl.cell 3
            have q4 := bl.cell 4
            have q5 := bl.cell 5
            simp only [List.getElem?_cons_zero, List.getElem?_cons_succ] at q0 q1 q2 q3 q4 q5
            have iv0 := WA.iv h3 2 rfl
            have iv1 := WA.iv h3 1 rfl
            have iv2 := WA.iv h3 0 rfl
            clear bl h3
            refine withs_plain rfl ?_
            simp only [withs, List.getElem?_cons_zero, List.getElem?_cons_succ, Option.bind, Option.getD]
            repeat (first | (with_reducible refine all_isV ?_) | (with_reducible refine all_isWC ?_; intro sx Ax kx cx hvx hwx) | (with_reducible refine all_isNR ?_; intro Ax kx cx hvx) | (with_reducible refine all_isNV ?_; intro Ax kx cx hvx) | (with_reducible refine all_isDV ?_; intro sx Ax kx cx hvx) | (with_reducible refine all_isWV ?_; intro sx Ax kx cx hvx) | (with_reducible refine all_isD ?_; intro sx Ax kx cx hvx hwx) | (with_reducible refine all_isRow ?_; intro gx' hbx) | (with_reducible refine all_isPtr ?_; intro gp' hbp hgp))
            go_simp
            (with_reducible exact grow_of (cmpV_w (x := x) (y := z) c (by assumption) (by assumption) HC.out))
          refine owes2_cons (fun wx hox => ?_) ?_
          · skip
            skip
            refine withs_plain rfl ?_
            simp only [withs, List.getElem?_cons_zero, List.getElem?_cons_succ, Option.bind, Option.getD]
            repeat (first | (with_reducible refine all_isV ?_) | (with_reducible refine all_isWC ?_; intro sx Ax kx cx hvx hwx) | (with_reducible refine all_isNR ?_; intro Ax kx cx hvx) | (with_reducible refine all_isNV ?_; intro Ax kx cx hvx) | (with_reducible refine all_isDV ?_; intro sx Ax kx cx hvx) | (with_reducible refine all_isWV ?_; intro sx Ax kx cx hvx) | (with_reducible refine all_isD ?_; intro sx Ax kx cx hvx hwx) | (with_reducible refine all_isRow ?_; intro gx' hbx) | (with_reducible refine all_isPtr ?_; intro gp' hbp hgp))
            go_simp
            exact ⟨Only.refl _ _, isV.self _ _⟩
          refine owes2_cons (fun wx hox => ?_) ?_
          · skip
            skip
            refine withs_plain rfl ?_
            simp only [withs, List.getElem?_cons_zero, List.getElem?_cons_succ, Option.bind, Option.getD]
            repeat (first | (with_reducible refine all_isV ?_) | (with_reducible refine all_isWC ?_; intro sx Ax kx cx hvx hwx) | (with_reducible refine all_isNR ?_; intro Ax kx cx hvx) | (with_reducible refine all_isNV ?_; intro Ax kx cx hvx) | (with_reducible refine all_isDV ?_; intro sx Ax kx cx hvx) | (with_reducible refine all_isWV ?_; intro sx Ax kx cx hvx) | (with_reducible refine all_isD ?_; intro sx Ax kx cx hvx hwx) | (with_reducible refine all_isRow ?_; intro gx' hbx) | (with_reducible refine all_isPtr ?_; intro gp' hbp hgp))
            go_simp
            exact ⟨Only.refl _ _, isV.self _ _⟩
          refine owes2_cons (fun wx hox => ?_) ?_
          · skip
            skip
            refine withs_plain rfl ?_
            simp only [withs, List.getElem?_cons_zero, List.getElem?_cons_succ, Option.bind, Option.getD]
            repeat (first | (with_reducible refine all_isV ?_) | (with_reducible refine all_isWC ?_; intro sx Ax kx cx hvx hwx) | (with_reducible refine all_isNR ?_; intro Ax kx cx hvx) | (with_reducible refine all_isNV ?_; intro Ax kx cx hvx) | (with_reducible refine all_isDV ?_; intro sx Ax kx cx hvx) | (with_reducible refine all_isWV ?_; intro sx Ax kx cx hvx) | (with_reducible refine all_isD ?_; intro sx Ax kx cx hvx hwx) | (with_reducible refine all_isRow ?_; intro gx' hbx) | (with_reducible refine all_isPtr ?_; intro gp' hbp hgp))
            go_simp
            exact ⟨Only.refl _ _, isV.self _ _⟩
          exact owes2_nil
        case he =>
          intro wx hox
          refine withs_of (by simp only [List.length, List.range, List.range.loop]; exact rfl) ?_
          simp only [withs, List.getElem?_cons_zero, List.getElem?_cons_succ, Option.bind, Option.getD]
          repeat (first | (with_reducible refine all_isV ?_) | (with_reducible refine all_isWC ?_; intro sx Ax kx cx hvx hwx) | (with_reducible refine all_isNR ?_; intro Ax kx cx hvx) | (with_reducible refine all_isNV ?_; intro Ax kx cx hvx) | (with_reducible refine all_isDV ?_; intro sx Ax kx cx hvx) | (with_reducible refine all_isWV ?_; intro sx Ax kx cx hvx) | (with_reducible refine all_isD ?_; intro sx Ax kx cx hvx hwx) | (with_reducible refine all_isRow ?_; intro gx' hbx) | (with_reducible refine all_isPtr ?_; intro gp' hbp hgp))
          go_simp
          replace HW := Lib.hid (HW.out.step hox)
          clear hox
          have HABC : Hid ((a = -1 ∧ b = -1 ∧ c = -1 ∧ na = 1) ∨ (a = -1 ∧ b = 0 ∧ c = -1 ∧ na = 1) ∨ (a = -1 ∧ b = 1 ∧ c = -1 ∧ na = 1) ∨ (a = -1 ∧ b = 1 ∧ c = 0 ∧ na = 1) ∨ (a = -1 ∧ b = 1 ∧ c = 1 ∧ na = 1) ∨ (a = 0 ∧ b = -1 ∧ c = -1 ∧ na = 0) ∨ (a = 0 ∧ b = 0 ∧ c = 0 ∧ na = 0) ∨ (a = 0 ∧ b = 1 ∧ c = 1 ∧ na = 0) ∨ (a = 1 ∧ b = -1 ∧ c = -1 ∧ na = -1) ∨ (a = 1 ∧ b = -1 ∧ c = 0 ∧ na = -1) ∨ (a = 1 ∧ b = -1 ∧ c = 1 ∧ na = -1) ∨ (a = 1 ∧ b = 0 ∧ c = 1 ∧ na = -1) ∨ (a = 1 ∧ b = 1 ∧ c = 1 ∧ na = -1)) := cmp_trans HA.out HB.out HC.out HN.out
          go_upto_region 9 with fail
          go_cut [83] (fun s wx => s = .bool false ∧ Hid (WA w wx g [.bool s0, .slice E0 k0 d0, .bool s1, .slice E1 k1 d1, .bool s2, .slice E2 k2 d2] [(.agg #[.bool s2, .slice E2 k2 d2], z), (.agg #[.bool s1, .slice E1 k1 d1], y), (.agg #[.bool s0, .slice E0 k0 d0], x)]))
          case first =>
            have h3 := HW
            have bl := h3.out.blk
            have q0 := bl.cell 0
            have q1 := bl.cell 1
            have q2 := bl.cell 2
            have q3 := bl.cell 3
            simp only [List.getElem?_cons_zero, List.getElem?_cons_succ] at q0 q1 q2 q3
            have hcmp := cmpV_w na (WA.iv HW 1 rfl) (WA.iv HW 2 rfl) HYx.out
            clear bl h3
            have HCM := Lib.hid hcmp
            clear hcmp HA HB HC HAz HNa HSa HYx HN
            rcases HABC.out with ⟨h1, h2, h4, h5⟩ | ⟨h1, h2, h4, h5⟩ | ⟨h1, h2, h4, h5⟩ | ⟨h1, h2, h4, h5⟩ | ⟨h1, h2, h4, h5⟩ | ⟨h1, h2, h4, h5⟩ | ⟨h1, h2, h4, h5⟩ | ⟨h1, h2, h4, h5⟩ | ⟨h1, h2, h4, h5⟩ | ⟨h1, h2, h4, h5⟩ | ⟨h1, h2, h4, h5⟩ | ⟨h1, h2, h4, h5⟩ | ⟨h1, h2, h4, h5⟩
            all_goals (clear HABC; subst h1 h2 h4 h5)
            all_goals (go_wp2_with ((with_reducible refine HCM.out.mono ?_); rintro e w5 ⟨rfl, ho⟩; replace HW := Lib.hid (HW.out.step ho); clear ho); go_meet; exact ⟨rfl, HW⟩)
          obtain ⟨rfl, hwn⟩ := hcut
          replace HW := hwn
          have hneg : IntKind.i64.wrap (-a) = na := by
            have h1 := cmpI_range x y
            have h2 := HA.out
            have h3 := HN.out
            rw [h2] at h1
            rw [h3]
            exact wrap_i64 (by omega)
          clear hwn HABC HB HC HYx HN
          go_upto_region 11 with fail
          apply wp_region_typed2 (by kernel_rfl) [isV _, isV _, isV _, isV _, isRow 27 1 [.bool s2, .slice E2 k2 d2], isWC (x + z), isV _, isV _, isV _, isV _, isRow 27 1 [.bool s2, .slice E2 k2 d2], isWC (y + z), isV _, isV _, isV _, isV _, isV _, isV _, isWC (-x), isV _, isV _, isWC (-y), isV _, isV _, isV _, isV _, isV _, isV _, isV _, isV _, isV _, isV _, isWC (x - y), isV _, isV _, isV _, isV _, isV _, isV _, isV _, isV _, isV _, isWC (x - y), isV _, isV _, isRow 27 1 [.bool s1, .slice E1 k1 d1], isWC x, isV _, isV _, isV _, isV _, isV _, isV _] [[], [0], [], [2], [3], [1, 4], [], [6], [], [8], [9], [7, 10], [5, 11], [], [12, 13], [14], [15], [15, 16], [15, 17], [15], [15, 19], [15, 20], [15, 18, 21], [15], [15, 23], [15, 22, 24], [15, 25], [26], [27], [27, 28], [27], [27, 30], [27, 29, 31], [27, 32], [27], [27, 33, 34], [27, 35], [36], [37], [37, 38], [37], [37, 40], [37, 39, 41], [37], [37, 43], [37, 44], [37, 42, 45], [37], [37, 47], [37, 46, 48], [37, 49], [37, 50], [51]] (by kernel_rfl) (by kernel_rfl)
          case ho =>
            refine owes2_cons (fun wx hox => ?_) ?_
            · skip
              skip
              refine withs_plain rfl ?_
              simp only [withs, List.getElem?_cons_zero, List.getElem?_cons_succ, Option.bind, Option.getD]
              repeat (first | (with_reducible refine all_isV ?_) | (with_reducible refine all_isWC ?_; intro sx Ax kx cx hvx hwx) | (with_reducible refine all_isNR ?_; intro Ax kx cx hvx) | (with_reducible refine all_isNV ?_; intro Ax kx cx hvx) | (with_reducible refine all_isDV ?_; intro sx Ax kx cx hvx) | (with_reducible refine all_isWV ?_; intro sx Ax kx cx hvx) | (with_reducible refine all_isD ?_; intro sx Ax kx cx hvx hwx) | (with_reducible refine all_isRow ?_; intro gx' hbx) | (with_reducible refine all_isPtr ?_; intro gp' hbp hgp))
              go_simp
              exact ⟨Only.refl _ _, isV.self _ _⟩
            refine owes2_cons (fun wx hox => ?_) ?_
            · skip
              have h3 := Lib.hid (HW.out.step hox)
              have bl := h3.out.blk
              have q0 := bl.cell 0
              have q1 := bl.cell 1
              have q2 := bl.cell 2
              have q3 := bl.cell 3
              have q4 := bl.cell 4
              have q5 := bl.cell 5
              simp only [List.getElem?_cons_zero, List.getElem?_cons_succ] at q0 q1 q2 q3 q4 q5
              have iv0 := WA.iv h3 2 rfl
              have iv1 := WA.iv h3 1 rfl
              have iv2 := WA.iv h3 0 rfl
              clear bl h3
              refine withs_plain rfl ?_
              simp only [withs, List.getElem?_cons_zero, List.getElem?_cons_succ, Option.bind, Option.getD]
              repeat (first | (with_reducible refine all_isV ?_) | (with_reducible refine all_isWC ?_; intro sx Ax kx cx hvx hwx) | (with_reducible refine all_isNR ?_; intro Ax kx cx hvx) | (with_reducible refine all_isNV ?_; intro Ax kx cx hvx) | (with_reducible refine all_isDV ?_; intro sx Ax kx cx hvx) | (with_reducible refine all_isWV ?_; intro sx Ax kx cx hvx) | (with_reducible refine all_isD ?_; intro sx Ax kx cx hvx hwx) | (with_reducible refine all_isRow ?_; intro gx' hbx) | (with_reducible refine all_isPtr ?_; intro gp' hbp hgp))
              go_simp
              exact ⟨Only.refl _ _, isV.self _ _⟩
            refine owes2_cons (fun wx hox => ?_) ?_
            · skip
              skip
              refine withs_plain rfl ?_
              simp only [withs, List.getElem?_cons_zero, List.getElem?_cons_succ, Option.bind, Option.getD]
              repeat (first | (with_reducible refine all_isV ?_) | (with_reducible refine all_isWC ?_; intro sx Ax kx cx hvx hwx) | (with_reducible refine all_isNR ?_; intro Ax kx cx hvx) | (with_reducible refine all_isNV ?_; intro Ax kx cx hvx) | (with_reducible refine all_isDV ?_; intro sx Ax kx cx hvx) | (with_reducible refine all_isWV ?_; intro sx Ax kx cx hvx) | (with_reducible refine all_isD ?_; intro sx Ax kx cx hvx hwx) | (with_reducible refine all_isRow ?_; intro gx' hbx) | (with_reducible refine all_isPtr ?_; intro gp' hbp hgp))
              go_simp
              exact ⟨Only.refl _ _, isV.self _ _⟩
            refine owes2_cons (fun wx hox => ?_) ?_
            · skip
              have h3 := Lib.hid (HW.out.step hox)
              have bl := h3.out.blk
              have q0 := bl.cell 0
              have q1 := bl.cell 1
              have q2 := bl.cell 2
              have q3 := bl.cell 3
              have q4 := bl.cell 4
              have q5 := bl.cell 5
              simp only [List.getElem?_cons_zero, List.getElem?_cons_succ] at q0 q1 q2 q3 q4 q5
              have iv0 := WA.iv h3 2 rfl
              have iv1 := WA.iv h3 1 rfl
              have iv2 := WA.iv h3 0 rfl
              clear bl h3
              refine withs_plain rfl ?_
              simp only [withs, List.getElem?_cons_zero, List.getElem?_cons_succ, Option.bind, Option.getD]
              repeat (first | (with_reducible refine all_isV ?_) | (with_reducible refine all_isWC ?_; intro sx Ax kx cx hvx hwx) | (with_reducible refine all_isNR ?_; intro Ax kx cx hvx) | (with_reducible refine all_isNV ?_; intro Ax kx cx hvx) | (with_reducible refine all_isDV ?_; intro sx Ax kx cx hvx) | (with_reducible refine all_isWV ?_; intro sx Ax kx cx hvx) | (with_reducible refine all_isD ?_; intro sx Ax kx cx hvx hwx) | (with_reducible refine all_isRow ?_; intro gx' hbx) | (with_reducible refine all_isPtr ?_; intro gp' hbp hgp))
              go_simp
              exact ⟨Only.refl _ _, isV.self _ _⟩
            refine owes2_cons (fun wx hox => ?_) ?_
            · skip
              skip
              refine withs_plain rfl ?_
              simp only [withs, List.getElem?_cons_zero, List.getElem?_cons_succ, Option.bind, Option.getD]
              repeat (first | (with_reducible refine all_isV ?_) | (with_reducible refine all_isWC ?_; intro sx Ax kx cx hvx hwx) | (with_reducible refine all_isNR ?_; intro Ax kx cx hvx) | (with_reducible refine all_isNV ?_; intro Ax kx cx hvx) | (with_reducible refine all_isDV ?_; intro sx Ax kx cx hvx) | (with_reducible refine all_isWV ?_; intro sx Ax kx cx hvx) | (with_reducible refine all_isD ?_; intro sx Ax kx cx hvx hwx) | (with_reducible refine all_isRow ?_; intro gx' hbx) | (with_reducible refine all_isPtr ?_; intro gp' hbp hgp))
              go_simp
              (exact isRow.new _ _ _ _)
            refine owes2_cons (fun wx hox => ?_) ?_
            · skip
              have h3 := Lib.hid (HW.out.step hox)
              have bl := h3.out.blk
              have q0 := bl.cell 0
              have q1 := bl.cell 1
              have q2 := bl.cell 2
              have q3 := bl.cell 3
              have q4 := bl.cell 4
              have q5 := bl.cell 5
              simp only [List.getElem?_cons_zero, List.getElem?_cons_succ] at q0 q1 q2 q3 q4 q5
              have iv0 := WA.iv h3 2 rfl
              have iv1 := WA.iv h3 1 rfl
              have iv2 := WA.iv h3 0 rfl
              clear bl h3
              refine withs_plain rfl ?_
              simp only [withs, List.getElem?_cons_zero, List.getElem?_cons_succ, Option.bind, Option.getD]
              repeat (first | (with_reducible refine all_isV ?_) | (with_reducible refine all_isWC ?_; intro sx Ax kx cx hvx hwx) | (with_reducible refine all_isNR ?_; intro Ax kx cx hvx) | (with_reducible refine all_isNV ?_; intro Ax kx cx hvx) | (with_reducible refine all_isDV ?_; intro sx Ax kx cx hvx) | (with_reducible refine all_isWV ?_; intro sx Ax kx cx hvx) | (with_reducible refine all_isD ?_; intro sx Ax kx cx hvx hwx) | (with_reducible refine all_isRow ?_; intro gx' hbx) | (with_reducible refine all_isPtr ?_; intro gp' hbp hgp))
              go_simp
              (with_reducible exact grow_wc (add1_w (by assumption) (by assumption) (by assumption) HFxz))
            refine owes2_cons (fun wx hox => ?_) ?_
            · skip
              skip
              refine withs_plain rfl ?_
              simp only [withs, List.getElem?_cons_zero, List.getElem?_cons_succ, Option.bind, Option.getD]
              repeat (first | (with_reducible refine all_isV ?_) | (with_reducible refine all_isWC ?_; intro sx Ax kx cx hvx hwx) | (with_reducible refine all_isNR ?_; intro Ax kx cx hvx) | (with_reducible refine all_isNV ?_; intro Ax kx cx hvx) | (with_reducible refine all_isDV ?_; intro sx Ax kx cx hvx) | (with_reducible refine all_isWV ?_; intro sx Ax kx cx hvx) | (with_reducible refine all_isD ?_; intro sx Ax kx cx hvx hwx) | (with_reducible refine all_isRow ?_; intro gx' hbx) | (with_reducible refine all_isPtr ?_; intro gp' hbp hgp))
              go_simp
              exact ⟨Only.refl _ _, isV.self _ _⟩
            refine owes2_cons (fun wx hox => ?_) ?_
            · skip
              have h3 := Lib.hid (HW.out.step hox)
              have bl := h3.out.blk
              have q0 := bl.cell 0
              have q1 := bl.cell 1
              have q2 := bl.cell 2
              have q3 := bl.cell 3
              have q4 := bl.cell 4
              have q5 := bl.cell 5
              simp only [List.getElem?_cons_zero, List.getElem?_cons_succ] at q0 q1 q2 q3 q4 q5
              have iv0 := WA.iv h3 2 rfl
              have iv1 := WA.iv h3 1 rfl
              have iv2 := WA.iv h3 0 rfl
              clear bl h3
              refine withs_plain rfl ?_
              simp only [withs, List.getElem?_cons_zero, List.getElem?_cons_succ, Option.bind, Option.getD]
              repeat (first | (with_reducible refine all_isV ?_) | (with_reducible refine all_isWC ?_; intro sx Ax kx cx hvx hwx) | (with_reducible refine all_isNR ?_; intro Ax kx cx hvx) | (with_reducible refine all_isNV ?_; intro Ax kx cx hvx) | (with_reducible refine all_isDV ?_; intro sx Ax kx cx hvx) | (with_reducible refine all_isWV ?_; intro sx Ax kx cx hvx) | (with_reducible refine all_isD ?_; intro sx Ax kx cx hvx hwx) | (with_reducible refine all_isRow ?_; intro gx' hbx) | (with_reducible refine all_isPtr ?_; intro gp' hbp hgp))
              go_simp
              exact ⟨Only.refl _ _, isV.self _ _⟩
            refine owes2_cons (fun wx hox => ?_) ?_
            · skip
              skip
              refine withs_plain rfl ?_
              simp only [withs, List.getElem?_cons_zero, List.getElem?_cons_succ, Option.bind, Option.getD]
              repeat (first | (with_reducible refine all_isV ?_) | (with_reducible refine all_isWC ?_; intro sx Ax kx cx hvx hwx) | (with_reducible refine all_isNR ?_; intro Ax kx cx hvx) | (with_reducible refine all_isNV ?_; intro Ax kx cx hvx) | (with_reducible refine all_isDV ?_; intro sx Ax kx cx hvx) | (with_reducible refine all_isWV ?_; intro sx Ax kx cx hvx) | (with_reducible refine all_isD ?_; intro sx Ax kx cx hvx hwx) | (with_reducible refine all_isRow ?_; intro gx' hbx) | (with_reducible refine all_isPtr ?_; intro gp' hbp hgp))
              go_simp
              exact ⟨Only.refl _ _, isV.self _ _⟩
            refine owes2_cons (fun wx hox => ?_) ?_
            · skip
              have h3 := Lib.hid (HW.out.step hox)
              have bl := h3.out.blk
              have q0 := bl.cell 0
              have q1 := bl.cell 1
              have q2 := bl.cell 2
              have q3 := bl.cell 3
              have q4 := bl.cell 4
              have q5 := bl.cell 5
              simp only [List.getElem?_cons_zero, List.getElem?_cons_succ] at q0 q1 q2 q3 q4 q5
              have iv0 := WA.iv h3 2 rfl
              have iv1 := WA.iv h3 1 rfl
              have iv2 := WA.iv h3 0 rfl
              clear bl h3
              refine withs_plain rfl ?_
              simp only [withs, List.getElem?_cons_zero, List.getElem?_cons_succ, Option.bind, Option.getD]
              repeat (first | (with_reducible refine all_isV ?_) | (with_reducible refine all_isWC ?_; intro sx Ax kx cx hvx hwx) | (with_reducible refine all_isNR ?_; intro Ax kx cx hvx) | (with_reducible refine all_isNV ?_; intro Ax kx cx hvx) | (with_reducible refine all_isDV ?_; intro sx Ax kx cx hvx) | (with_reducible refine all_isWV ?_; intro sx Ax kx cx hvx) | (with_reducible refine all_isD ?_; intro sx Ax kx cx hvx hwx) | (with_reducible refine all_isRow ?_; intro gx' hbx) | (with_reducible refine all_isPtr ?_; intro gp' hbp hgp))
              go_simp
              exact ⟨Only.refl _ _, isV.self _ _⟩
            refine owes2_cons (fun wx hox => ?_) ?_
            · skip
              skip
              refine withs_plain rfl ?_
              simp only [withs, List.getElem?_cons_zero, List.getElem?_cons_succ, Option.bind, Option.getD]
              repeat (first | (with_reducible refine all_isV ?_) | (with_reducible refine all_isWC ?_; intro sx Ax kx cx hvx hwx) | (with_reducible refine all_isNR ?_; intro Ax kx cx hvx) | (with_reducible refine all_isNV ?_; intro Ax kx cx hvx) | (with_reducible refine all_isDV ?_; intro sx Ax kx cx hvx) | (with_reducible refine all_isWV ?_; intro sx Ax kx cx hvx) | (with_reducible refine all_isD ?_; intro sx Ax kx cx hvx hwx) | (with_reducible refine all_isRow ?_; intro gx' hbx) | (with_reducible refine all_isPtr ?_; intro gp' hbp hgp))
              go_simp
              (exact isRow.new _ _ _ _)
            refine owes2_cons (fun wx hox => ?_) ?_
            · skip
              have h3 := Lib.hid (HW.out.step hox)
              have bl := h3.out.blk
              have q0 := bl.cell 0
              have q1 := bl.cell 1
              have q2 := bl.cell 2
              have q3 := bl.cell 3
              have q4 := bl.cell 4
              have q5 := bl.cell 5
              simp only [List.getElem?_cons_zero, List.getElem?_cons_succ] at q0 q1 q2 q3 q4 q5
              have iv0 := WA.iv h3 2 rfl
              have iv1 := WA.iv h3 1 rfl
              have iv2 := WA.iv h3 0 rfl
              clear bl h3
              refine withs_plain rfl ?_
              simp only [withs, List.getElem?_cons_zero, List.getElem?_cons_succ, Option.bind, Option.getD]
              repeat (first | (with_reducible refine all_isV ?_) | (with_reducible refine all_isWC ?_; intro sx Ax kx cx hvx hwx) | (with_reducible refine all_isNR ?_; intro Ax kx cx hvx) | (with_reducible refine all_isNV ?_; intro Ax kx cx hvx) | (with_reducible refine all_isDV ?_; intro sx Ax kx cx hvx) | (with_reducible refine all_isWV ?_; intro sx Ax kx cx hvx) | (with_reducible refine all_isD ?_; intro sx Ax kx cx hvx hwx) | (with_reducible refine all_isRow ?_; intro gx' hbx) | (with_reducible refine all_isPtr ?_; intro gp' hbp hgp))
              go_simp
              (with_reducible exact grow_wc (add1_w (by assumption) (by assumption) (by assumption) HFyz))
            refine owes2_cons (fun wx hox => ?_) ?_
            · skip
              have h3 := Lib.hid (HW.out.step hox)
              have bl := h3.out.blk
              have q0 := bl.cell 0
              have q1 := bl.cell 1
              have q2 := bl.cell 2
              have q3 := bl.cell 3
              have q4 := bl.cell 4
              have q5 := bl.cell 5
              simp only [List.getElem?_cons_zero, List.getElem?_cons_succ] at q0 q1 q2 q3 q4 q5
              have iv0 := WA.iv h3 2 rfl
              have iv1 := WA.iv h3 1 rfl
              have iv2 := WA.iv h3 0 rfl
              clear bl h3
              refine withs_plain rfl ?_
              simp only [withs, List.getElem?_cons_zero, List.getElem?_cons_succ, Option.bind, Option.getD]
              repeat (first | (with_reducible refine all_isV ?_) | (with_reducible refine all_isWC ?_; intro sx Ax kx cx hvx hwx) | (with_reducible refine all_isNR ?_; intro Ax kx cx hvx) | (with_reducible refine all_isNV ?_; intro Ax kx cx hvx) | (with_reducible refine all_isDV ?_; intro sx Ax kx cx hvx) | (with_reducible refine all_isWV ?_; intro sx Ax kx cx hvx) | (with_reducible refine all_isD ?_; intro sx Ax kx cx hvx hwx) | (with_reducible refine all_isRow ?_; intro gx' hbx) | (with_reducible refine all_isPtr ?_; intro gp' hbp hgp))
              go_simp
              (with_reducible exact grow_of (cmpV_w (x := x + z) (y := y + z) a (by assumption) (by assumption) HAz.out))
            refine owes2_cons (fun wx hox => ?_) ?_
            · skip
              skip
              refine withs_plain rfl ?_
              simp only [withs, List.getElem?_cons_zero, List.getElem?_cons_succ, Option.bind, Option.getD]
              repeat (first | (with_reducible refine all_isV ?_) | (with_reducible refine all_isWC ?_; intro sx Ax kx cx hvx hwx) | (with_reducible refine all_isNR ?_; intro Ax kx cx hvx) | (with_reducible refine all_isNV ?_; intro Ax kx cx hvx) | (with_reducible refine all_isDV ?_; intro sx Ax kx cx hvx) | (with_reducible refine all_isWV ?_; intro sx Ax kx cx hvx) | (with_reducible refine all_isD ?_; intro sx Ax kx cx hvx hwx) | (with_reducible refine all_isRow ?_; intro gx' hbx) | (with_reducible refine all_isPtr ?_; intro gp' hbp hgp))
              go_simp
              exact ⟨Only.refl _ _, isV.self _ _⟩
            refine owes2_cons (fun wx hox => ?_) ?_
            · skip
              skip
              refine withs_plain rfl ?_
              simp only [withs, List.getElem?_cons_zero, List.getElem?_cons_succ, Option.bind, Option.getD]
              repeat (first | (with_reducible refine all_isV ?_) | (with_reducible refine all_isWC ?_; intro sx Ax kx cx hvx hwx) | (with_reducible refine all_isNR ?_; intro Ax kx cx hvx) | (with_reducible refine all_isNV ?_; intro Ax kx cx hvx) | (with_reducible refine all_isDV ?_; intro sx Ax kx cx hvx) | (with_reducible refine all_isWV ?_; intro sx Ax kx cx hvx) | (with_reducible refine all_isD ?_; intro sx Ax kx cx hvx hwx) | (with_reducible refine all_isRow ?_; intro gx' hbx) | (with_reducible refine all_isPtr ?_; intro gp' hbp hgp))
              go_simp
              exact ⟨Only.refl _ _, isV.self _ _⟩
            refine owes2_cons (fun wx hox => ?_) ?_
            · skip
              skip
              refine withs_plain rfl ?_
              simp only [withs, List.getElem?_cons_zero, List.getElem?_cons_succ, Option.bind, Option.getD]
              repeat (first | (with_reducible refine all_isV ?_) | (with_reducible refine all_isWC ?_; intro sx Ax kx cx hvx hwx) | (with_reducible refine all_isNR ?_; intro Ax kx cx hvx) | (with_reducible refine all_isNV ?_; intro Ax kx cx hvx) | (with_reducible refine all_isDV ?_; intro sx Ax kx cx hvx) | (with_reducible refine all_isWV ?_; intro sx Ax kx cx hvx) | (with_reducible refine all_isD ?_; intro sx Ax kx cx hvx hwx) | (with_reducible refine all_isRow ?_; intro gx' hbx) | (with_reducible refine all_isPtr ?_; intro gp' hbp hgp))
              go_simp
              exact ⟨Only.refl _ _, isV.self _ _⟩
            refine owes2_cons (fun wx hox => ?_) ?_
            · skip
              skip
              refine withs_guard rfl rfl ?_
              simp only [withs, List.getElem?_cons_zero, List.getElem?_cons_succ, Option.bind, Option.getD]
              repeat (first | (with_reducible refine all_isV ?_) | (with_reducible refine all_isWC ?_; intro sx Ax kx cx hvx hwx) | (with_reducible refine all_isNR ?_; intro Ax kx cx hvx) | (with_reducible refine all_isNV ?_; intro Ax kx cx hvx) | (with_reducible refine all_isDV ?_; intro sx Ax kx cx hvx) | (with_reducible refine all_isWV ?_; intro sx Ax kx cx hvx) | (with_reducible refine all_isD ?_; intro sx Ax kx cx hvx hwx) | (with_reducible refine all_isRow ?_; intro gx' hbx) | (with_reducible refine all_isPtr ?_; intro gp' hbp hgp))
              refine ⟨by kernel_rfl, ?_⟩
              go_simp
              exact ⟨Only.refl _ _, isV.self _ _⟩
            refine owes2_cons (fun wx hox => ?_) ?_
            · skip
              have h3 := Lib.hid (HW.out.step hox)
              have bl := h3.out.blk
              have q0 := bl.cell 0
              have q1 := bl.cell 1
              have q2 := bl.cell 2
              have q3 := bl.cell 3
              have q4 := bl.cell 4
              have q5 := bl.cell 5
              simp only [List.getElem?_cons_zero, List.getElem?_cons_succ] at q0 q1 q2 q3 q4 q5
              have iv0 := WA.iv h3 2 rfl
              have iv1 := WA.iv h3 1 rfl
              have iv2 := WA.iv h3 0 rfl
              clear bl h3
              refine withs_guard rfl rfl ?_
              simp only [withs, List.getElem?_cons_zero, List.getElem?_cons_succ, Option.bind, Option.getD]
              repeat (first | (with_reducible refine all_isV ?_) | (with_reducible refine all_isWC ?_; intro sx Ax kx cx hvx hwx) | (with_reducible refine all_isNR ?_; intro Ax kx cx hvx) | (with_reducible refine all_isNV ?_; intro Ax kx cx hvx) | (with_reducible refine all_isDV ?_; intro sx Ax kx cx hvx) | (with_reducible refine all_isWV ?_; intro sx Ax kx cx hvx) | (with_reducible refine all_isD ?_; intro sx Ax kx cx hvx hwx) | (with_reducible refine all_isRow ?_; intro gx' hbx) | (with_reducible refine all_isPtr ?_; intro gp' hbp hgp))
              refine ⟨by kernel_rfl, ?_⟩
              go_simp
              exact ⟨Only.refl _ _, isV.self _ _⟩
            refine owes2_cons (fun wx hox => ?_) ?_
            · skip
              have h3 := Lib.hid (HW.out.step hox)
              have bl := h3.out.blk
              have q0 := bl.cell 0
              have q1 := bl.cell 1
              have q2 := bl.cell 2
              have q3 := bl.cell 3
              have q4 := bl.cell 4
              have q5 := bl.cell 5
              simp only [List.getElem?_cons_zero, List.getElem?_cons_succ] at q0 q1 q2 q3 q4 q5
              have iv0 := WA.iv h3 2 rfl
              have iv1 := WA.iv h3 1 rfl
              have iv2 := WA.iv h3 0 rfl
              clear bl h3
              refine withs_guard rfl rfl ?_
              simp only [withs, List.getElem?_cons_zero, List.getElem?_cons_succ, Option.bind, Option.getD]
              repeat (first | (with_reducible refine all_isV ?_) | (with_reducible refine all_isWC ?_; intro sx Ax kx cx hvx hwx) | (with_reducible refine all_isNR ?_; intro Ax kx cx hvx) | (with_reducible refine all_isNV ?_; intro Ax kx cx hvx) | (with_reducible refine all_isDV ?_; intro sx Ax kx cx hvx) | (with_reducible refine all_isWV ?_; intro sx Ax kx cx hvx) | (with_reducible refine all_isD ?_; intro sx Ax kx cx hvx hwx) | (with_reducible refine all_isRow ?_; intro gx' hbx) | (with_reducible refine all_isPtr ?_; intro gp' hbp hgp))
              refine ⟨by kernel_rfl, ?_⟩
              go_simp
              (with_reducible exact grow_wc (not_w (by assumption)))
            refine owes2_cons (fun wx hox => ?_) ?_
            · skip
              skip
              refine withs_guard rfl rfl ?_
              simp only [withs, List.getElem?_cons_zero, List.getElem?_cons_succ, Option.bind, Option.getD]
              repeat (first | (with_reducible refine all_isV ?_) | (with_reducible refine all_isWC ?_; intro sx Ax kx cx hvx hwx) | (with_reducible refine all_isNR ?_; intro Ax kx cx hvx) | (with_reducible refine all_isNV ?_; intro Ax kx cx hvx) | (with_reducible refine all_isDV ?_; intro sx Ax kx cx hvx) | (with_reducible refine all_isWV ?_; intro sx Ax kx cx hvx) | (with_reducible refine all_isD ?_; intro sx Ax kx cx hvx hwx) | (with_reducible refine all_isRow ?_; intro gx' hbx) | (with_reducible refine all_isPtr ?_; intro gp' hbp hgp))
              refine ⟨by kernel_rfl, ?_⟩
              go_simp
              exact ⟨Only.refl _ _, isV.self _ _⟩
            refine owes2_cons (fun wx hox => ?_) ?_
            · skip
              have h3 := Lib.hid (HW.out.step hox)
              have bl := h3.out.blk
              have q0 := bl.cell 0
              have q1 := bl.cell 1
              have q2 := bl.cell 2
              have q3 := bl.cell 3
              have q4 := bl.cell 4
              have q5 := bl.cell 5
              simp only [List.getElem?_cons_zero, List.getElem?_cons_succ] at q0 q1 q2 q3 q4 q5
              have iv0 := WA.iv h3 2 rfl
              have iv1 := WA.iv h3 1 rfl
              have iv2 := WA.iv h3 0 rfl
              clear bl h3
              refine withs_guard rfl rfl ?_
              simp only [withs, List.getElem?_cons_zero, List.getElem?_cons_succ, Option.bind, Option.getD]
              repeat (first | (with_reducible refine all_isV ?_) | (with_reducible refine all_isWC ?_; intro sx Ax kx cx hvx hwx) | (with_reducible refine all_isNR ?_; intro Ax kx cx hvx) | (with_reducible refine all_isNV ?_; intro Ax kx cx hvx) | (with_reducible refine all_isDV ?_; intro sx Ax kx cx hvx) | (with_reducible refine all_isWV ?_; intro sx Ax kx cx hvx) | (with_reducible refine all_isD ?_; intro sx Ax kx cx hvx hwx) | (with_reducible refine all_isRow ?_; intro gx' hbx) | (with_reducible refine all_isPtr ?_; intro gp' hbp hgp))
              refine ⟨by kernel_rfl, ?_⟩
              go_simp
              exact ⟨Only.refl _ _, isV.self _ _⟩
            refine owes2_cons (fun wx hox => ?_) ?_
            · skip
              have h3 := Lib.hid (HW.out.step hox)
              have bl := h3.out.blk
              have q0 := bl.cell 0
              have q1 := bl.cell 1
              have q2 := bl.cell 2
              have q3 := bl.cell 3
              have q4 := bl.cell 4
              have q5 := bl.cell 5
              simp only [List.getElem?_cons_zero, List.getElem?_cons_succ] at q0 q1 q2 q3 q4 q5
              have iv0 := WA.iv h3 2 rfl
              have iv1 := WA.iv h3 1 rfl
              have iv2 := WA.iv h3 0 rfl
              clear bl h3
              refine withs_guard rfl rfl ?_
              simp only [withs, List.getElem?_cons_zero, List.getElem?_cons_succ, Option.bind, Option.getD]
              repeat (first | (with_reducible refine all_isV ?_) | (with_reducible refine all_isWC ?_; intro sx Ax kx cx hvx hwx) | (with_reducible refine all_isNR ?_; intro Ax kx cx hvx) | (with_reducible refine all_isNV ?_; intro Ax kx cx hvx) | (with_reducible refine all_isDV ?_; intro sx Ax kx cx hvx) | (with_reducible refine all_isWV ?_; intro sx Ax kx cx hvx) | (with_reducible refine all_isD ?_; intro sx Ax kx cx hvx hwx) | (with_reducible refine all_isRow ?_; intro gx' hbx) | (with_reducible refine all_isPtr ?_; intro gp' hbp hgp))
              refine ⟨by kernel_rfl, ?_⟩
              go_simp
              (with_reducible exact grow_wc (not_w (by assumption)))
            refine owes2_cons (fun wx hox => ?_) ?_
            · skip
              have h3 := Lib.hid (HW.out.step hox)
              have bl := h3.out.blk
              have q0 := bl.cell 0
              have q1 := bl.cell 1
              have q2 := bl.cell 2
              have q3 := bl.cell 3
              have q4 := bl.cell 4
              have q5 := bl.cell 5
              simp only [List.getElem?_cons_zero, List.getElem?_cons_succ] at q0 q1 q2 q3 q4 q5
              have iv0 := WA.iv h3 2 rfl
              have iv1 := WA.iv h3 1 rfl
              have iv2 := WA.iv h3 0 rfl
              clear bl h3
              refine withs_guard rfl rfl ?_
              simp only [withs, List.getElem?_cons_zero, List.getElem?_cons_succ, Option.bind, Option.getD]
              repeat (first | (with_reducible refine all_isV ?_) | (with_reducible refine all_isWC ?_; intro sx Ax kx cx hvx hwx) | (with_reducible refine all_isNR ?_; intro Ax kx cx hvx) | (with_reducible refine all_isNV ?_; intro Ax kx cx hvx) | (with_reducible refine all_isDV ?_; intro sx Ax kx cx hvx) | (with_reducible refine all_isWV ?_; intro sx Ax kx cx hvx) | (with_reducible refine all_isD ?_; intro sx Ax kx cx hvx hwx) | (with_reducible refine all_isRow ?_; intro gx' hbx) | (with_reducible refine all_isPtr ?_; intro gp' hbp hgp))
              refine ⟨by kernel_rfl, ?_⟩
              go_simp
              (with_reducible exact grow_of (cmpV_w (x := -x) (y := -y) na (by assumption) (by assumption) HNa.out))
            refine owes2_cons (fun wx hox => ?_) ?_
            · skip
              skip
              refine withs_guard rfl rfl ?_
              simp only [withs, List.getElem?_cons_zero, List.getElem?_cons_succ, Option.bind, Option.getD]
              repeat (first | (with_reducible refine all_isV ?_) | (with_reducible refine all_isWC ?_; intro sx Ax kx cx hvx hwx) | (with_reducible refine all_isNR ?_; intro Ax kx cx hvx) | (with_reducible refine all_isNV ?_; intro Ax kx cx hvx) | (with_reducible refine all_isDV ?_; intro sx Ax kx cx hvx) | (with_reducible refine all_isWV ?_; intro sx Ax kx cx hvx) | (with_reducible refine all_isD ?_; intro sx Ax kx cx hvx hwx) | (with_reducible refine all_isRow ?_; intro gx' hbx) | (with_reducible refine all_isPtr ?_; intro gp' hbp hgp))
              refine ⟨by kernel_rfl, ?_⟩
              go_simp
              exact ⟨Only.refl _ _, isV.self _ _⟩
            refine owes2_cons (fun wx hox => ?_) ?_
            · skip
              skip
              refine withs_guard rfl rfl ?_
              simp only [withs, List.getElem?_cons_zero, List.getElem?_cons_succ, Option.bind, Option.getD]
              repeat (first | (with_reducible refine all_isV ?_) | (with_reducible refine all_isWC ?_; intro sx Ax kx cx hvx hwx) | (with_reducible refine all_isNR ?_; intro Ax kx cx hvx) | (with_reducible refine all_isNV ?_; intro Ax kx cx hvx) | (with_reducible refine all_isDV ?_; intro sx Ax kx cx hvx) | (with_reducible refine all_isWV ?_; intro sx Ax kx cx hvx) | (with_reducible refine all_isD ?_; intro sx Ax kx cx hvx hwx) | (with_reducible refine all_isRow ?_; intro gx' hbx) | (with_reducible refine all_isPtr ?_; intro gp' hbp hgp))
              refine ⟨by kernel_rfl, ?_⟩
              go_simp
              exact ⟨Only.refl _ _, isV.self _ _⟩
            refine owes2_cons (fun wx hox => ?_) ?_
            · skip
              skip
              refine withs_guard rfl rfl ?_
              simp only [withs, List.getElem?_cons_zero, List.getElem?_cons_succ, Option.bind, Option.getD]
              repeat (first | (with_reducible refine all_isV ?_) | (with_reducible refine all_isWC ?_; intro sx Ax kx cx hvx hwx) | (with_reducible refine all_isNR ?_; intro Ax kx cx hvx) | (with_reducible refine all_isNV ?_; intro Ax kx cx hvx) | (with_reducible refine all_isDV ?_; intro sx Ax kx cx hvx) | (with_reducible refine all_isWV ?_; intro sx Ax kx cx hvx) | (with_reducible refine all_isD ?_; intro sx Ax kx cx hvx hwx) | (with_reducible refine all_isRow ?_; intro gx' hbx) | (with_reducible refine all_isPtr ?_; intro gp' hbp hgp))
              refine ⟨by kernel_rfl, ?_⟩
              go_simp
              exact ⟨Only.refl _ _, isV.self _ _⟩
            refine owes2_cons (fun wx hox => ?_) ?_
            · skip
              skip
              refine withs_plain rfl ?_
              simp only [withs, List.getElem?_cons_zero, List.getElem?_cons_succ, Option.bind, Option.getD]
              repeat (first | (with_reducible refine all_isV ?_) | (with_reducible refine all_isWC ?_; intro sx Ax kx cx hvx hwx) | (with_reducible refine all_isNR ?_; intro Ax kx cx hvx) | (with_reducible refine all_isNV ?_; intro Ax kx cx hvx) | (with_reducible refine all_isDV ?_; intro sx Ax kx cx hvx) | (with_reducible refine all_isWV ?_; intro sx Ax kx cx hvx) | (with_reducible refine all_isD ?_; intro sx Ax kx cx hvx hwx) | (with_reducible refine all_isRow ?_; intro gx' hbx) | (with_reducible refine all_isPtr ?_; intro gp' hbp hgp))
              go_simp
              exact ⟨Only.refl _ _, isV.self _ _⟩
            refine owes2_cons (fun wx hox => ?_) ?_
            · skip
              skip
              refine withs_plain rfl ?_
              simp only [withs, List.getElem?_cons_zero, List.getElem?_cons_succ, Option.bind, Option.getD]
              repeat (first | (with_reducible refine all_isV ?_) | (with_reducible refine all_isWC ?_; intro sx Ax kx cx hvx hwx) | (with_reducible refine all_isNR ?_; intro Ax kx cx hvx) | (with_reducible refine all_isNV ?_; intro Ax kx cx hvx) | (with_reducible refine all_isDV ?_; intro sx Ax kx cx hvx) | (with_reducible refine all_isWV ?_; intro sx Ax kx cx hvx) | (with_reducible refine all_isD ?_; intro sx Ax kx cx hvx hwx) | (with_reducible refine all_isRow ?_; intro gx' hbx) | (with_reducible refine all_isPtr ?_; intro gp' hbp hgp))
              go_simp
              exact ⟨Only.refl _ _, isV.self _ _⟩
            refine owes2_cons (fun wx hox => ?_) ?_
            · skip
              skip
              refine withs_guard rfl rfl ?_
              simp only [withs, List.getElem?_cons_zero, List.getElem?_cons_succ, Option.bind, Option.getD]
              repeat (first | (with_reducible refine all_isV ?_) | (with_reducible refine all_isWC ?_; intro sx Ax kx cx hvx hwx) | (with_reducible refine all_isNR ?_; intro Ax kx cx hvx) | (with_reducible refine all_isNV ?_; intro Ax kx cx hvx) | (with_reducible refine all_isDV ?_; intro sx Ax kx cx hvx) | (with_reducible refine all_isWV ?_; intro sx Ax kx cx hvx) | (with_reducible refine all_isD ?_; intro sx Ax kx cx hvx hwx) | (with_reducible refine all_isRow ?_; intro gx' hbx) | (with_reducible refine all_isPtr ?_; intro gp' hbp hgp))
              refine ⟨by kernel_rfl, ?_⟩
              go_simp
              exact ⟨Only.refl _ _, isV.self _ _⟩
            refine owes2_cons (fun wx hox => ?_) ?_
            · skip
              have h3 := Lib.hid (HW.out.step hox)
              have bl := h3.out.blk
              have q0 := bl.cell 0
              have q1 := bl.cell 1
              have q2 := bl.cell 2
              have q3 := bl.cell 3
              have q4 := bl.cell 4
              have q5 := bl.cell 5
              simp only [List.getElem?_cons_zero, List.getElem?_cons_succ] at q0 q1 q2 q3 q4 q5
              have iv0 := WA.iv h3 2 rfl
              have iv1 := WA.iv h3 1 rfl
              have iv2 := WA.iv h3 0 rfl
              clear bl h3
              refine withs_guard rfl rfl ?_
              simp only [withs, List.getElem?_cons_zero, List.getElem?_cons_succ, Option.bind, Option.getD]
              repeat (first | (with_reducible refine all_isV ?_) | (with_reducible refine all_isWC ?_; intro sx Ax kx cx hvx hwx) | (with_reducible refine all_isNR ?_; intro Ax kx cx hvx) | (with_reducible refine all_isNV ?_; intro Ax kx cx hvx) | (with_reducible refine all_isDV ?_; intro sx Ax kx cx hvx) | (with_reducible refine all_isWV ?_; intro sx Ax kx cx hvx) | (with_reducible refine all_isD ?_; intro sx Ax kx cx hvx hwx) | (with_reducible refine all_isRow ?_; intro gx' hbx) | (with_reducible refine all_isPtr ?_; intro gp' hbp hgp))
              refine ⟨by kernel_rfl, ?_⟩
              go_simp
              exact ⟨Only.refl _ _, isV.self _ _⟩
            refine owes2_cons (fun wx hox => ?_) ?_
            · skip
              skip
              refine withs_guard rfl rfl ?_
              simp only [withs, List.getElem?_cons_zero, List.getElem?_cons_succ, Option.bind, Option.getD]
              repeat (first | (with_reducible refine all_isV ?_) | (with_reducible refine all_isWC ?_; intro sx Ax kx cx hvx hwx) | (with_reducible refine all_isNR ?_; intro Ax kx cx hvx) | (with_reducible refine all_isNV ?_; intro Ax kx cx hvx) | (with_reducible refine all_isDV ?_; intro sx Ax kx cx hvx) | (with_reducible refine all_isWV ?_; intro sx Ax kx cx hvx) | (with_reducible refine all_isD ?_; intro sx Ax kx cx hvx hwx) | (with_reducible refine all_isRow ?_; intro gx' hbx) | (with_reducible refine all_isPtr ?_; intro gp' hbp hgp))
              refine ⟨by kernel_rfl, ?_⟩
              go_simp
              exact ⟨Only.refl _ _, isV.self _ _⟩
            refine owes2_cons (fun wx hox => ?_) ?_
            · skip
              have h3 := Lib.hid (HW.out.step hox)
              have bl := h3.out.blk
              have q0 := bl.cell 0
              have q1 := bl.cell 1
              have q2 := bl.cell 2
              have q3 := bl.cell 3
              have q4 := bl.cell 4
              have q5 := bl.cell 5
              simp only [List.getElem?_cons_zero, List.getElem?_cons_succ] at q0 q1 q2 q3 q4 q5
              have iv0 := WA.iv h3 2 rfl
              have iv1 := WA.iv h3 1 rfl
              have iv2 := WA.iv h3 0 rfl
              clear bl h3
              refine withs_guard rfl rfl ?_
              simp only [withs, List.getElem?_cons_zero, List.getElem?_cons_succ, Option.bind, Option.getD]
              repeat (first | (with_reducible refine all_isV ?_) | (with_reducible refine all_isWC ?_; intro sx Ax kx cx hvx hwx) | (with_reducible refine all_isNR ?_; intro Ax kx cx hvx) | (with_reducible refine all_isNV ?_; intro Ax kx cx hvx) | (with_reducible refine all_isDV ?_; intro sx Ax kx cx hvx) | (with_reducible refine all_isWV ?_; intro sx Ax kx cx hvx) | (with_reducible refine all_isD ?_; intro sx Ax kx cx hvx hwx) | (with_reducible refine all_isRow ?_; intro gx' hbx) | (with_reducible refine all_isPtr ?_; intro gp' hbp hgp))
              refine ⟨by kernel_rfl, ?_⟩
              go_simp
              exact ⟨Only.refl _ _, isV.self _ _⟩
            refine owes2_cons (fun wx hox => ?_) ?_
            · skip
              have h3 := Lib.hid (HW.out.step hox)
              have bl := h3.out.blk
              have q0 := bl.cell 0
              have q1 := bl.cell 1
              have q2 := bl.cell 2
              have q3 := bl.cell 3
              have q4 := bl.cell 4
              have q5 := bl.cell 5
              simp only [List.getElem?_cons_zero, List.getElem?_cons_succ] at q0 q1 q2 q3 q4 q5
              have iv0 := WA.iv h3 2 rfl
              have iv1 := WA.iv h3 1 rfl
              have iv2 := WA.iv h3 0 rfl
              clear bl h3
              refine withs_guard rfl rfl ?_
              simp only [withs, List.getElem?_cons_zero, List.getElem?_cons_succ, Option.bind, Option.getD]
              repeat (first | (with_reducible refine all_isV ?_) | (with_reducible refine all_isWC ?_; intro sx Ax kx cx hvx hwx) | (with_reducible refine all_isNR ?_; intro Ax kx cx hvx) | (with_reducible refine all_isNV ?_; intro Ax kx cx hvx) | (with_reducible refine all_isDV ?_; intro sx Ax kx cx hvx) | (with_reducible refine all_isWV ?_; intro sx Ax kx cx hvx) | (with_reducible refine all_isD ?_; intro sx Ax kx cx hvx hwx) | (with_reducible refine all_isRow ?_; intro gx' hbx) | (with_reducible refine all_isPtr ?_; intro gp' hbp hgp))
              refine ⟨by kernel_rfl, ?_⟩
              go_simp
              (with_reducible exact grow_wc (sub_w (by assumption) (by assumption) HFxy))
            refine owes2_cons (fun wx hox => ?_) ?_
            · skip
              have h3 := Lib.hid (HW.out.step hox)
              have bl := h3.out.blk
              have q0 := bl.cell 0
              have q1 := bl.cell 1
              have q2 := bl.cell 2
              have q3 := bl.cell 3
              have q4 := bl.cell 4
              have q5 := bl.cell 5
              simp only [List.getElem?_cons_zero, List.getElem?_cons_succ] at q0 q1 q2 q3 q4 q5
              have iv0 := WA.iv h3 2 rfl
              have iv1 := WA.iv h3 1 rfl
              have iv2 := WA.iv h3 0 rfl
              clear bl h3
              refine withs_guard rfl rfl ?_
              simp only [withs, List.getElem?_cons_zero, List.getElem?_cons_succ, Option.bind, Option.getD]
              repeat (first | (with_reducible refine all_isV ?_) | (with_reducible refine all_isWC ?_; intro sx Ax kx cx hvx hwx) | (with_reducible refine all_isNR ?_; intro Ax kx cx hvx) | (with_reducible refine all_isNV ?_; intro Ax kx cx hvx) | (with_reducible refine all_isDV ?_; intro sx Ax kx cx hvx) | (with_reducible refine all_isWV ?_; intro sx Ax kx cx hvx) | (with_reducible refine all_isD ?_; intro sx Ax kx cx hvx hwx) | (with_reducible refine all_isRow ?_; intro gx' hbx) | (with_reducible refine all_isPtr ?_; intro gp' hbp hgp))
              refine ⟨by kernel_rfl, ?_⟩
              go_simp
              (with_reducible exact grow_of (signV_w (z := x - y) a (by assumption) HSa.out))
            refine owes2_cons (fun wx hox => ?_) ?_
            · skip
              skip
              refine withs_guard rfl rfl ?_
              simp only [withs, List.getElem?_cons_zero, List.getElem?_cons_succ, Option.bind, Option.getD]
              repeat (first | (with_reducible refine all_isV ?_) | (with_reducible refine all_isWC ?_; intro sx Ax kx cx hvx hwx) | (with_reducible refine all_isNR ?_; intro Ax kx cx hvx) | (with_reducible refine all_isNV ?_; intro Ax kx cx hvx) | (with_reducible refine all_isDV ?_; intro sx Ax kx cx hvx) | (with_reducible refine all_isWV ?_; intro sx Ax kx cx hvx) | (with_reducible refine all_isD ?_; intro sx Ax kx cx hvx hwx) | (with_reducible refine all_isRow ?_; intro gx' hbx) | (with_reducible refine all_isPtr ?_; intro gp' hbp hgp))
              refine ⟨by kernel_rfl, ?_⟩
              go_simp
              exact ⟨Only.refl _ _, isV.self _ _⟩
            refine owes2_cons (fun wx hox => ?_) ?_
            · skip
              skip
              refine withs_guard rfl rfl ?_
              simp only [withs, List.getElem?_cons_zero, List.getElem?_cons_succ, Option.bind, Option.getD]
              repeat (first | (with_reducible refine all_isV ?_) | (with_reducible refine all_isWC ?_; intro sx Ax kx cx hvx hwx) | (with_reducible refine all_isNR ?_; intro Ax kx cx hvx) | (with_reducible refine all_isNV ?_; intro Ax kx cx hvx) | (with_reducible refine all_isDV ?_; intro sx Ax kx cx hvx) | (with_reducible refine all_isWV ?_; intro sx Ax kx cx hvx) | (with_reducible refine all_isD ?_; intro sx Ax kx cx hvx hwx) | (with_reducible refine all_isRow ?_; intro gx' hbx) | (with_reducible refine all_isPtr ?_; intro gp' hbp hgp))
              refine ⟨by kernel_rfl, ?_⟩
              go_simp
              exact ⟨Only.refl _ _, isV.self _ _⟩
            refine owes2_cons (fun wx hox => ?_) ?_
            · skip
              skip
              refine withs_plain rfl ?_
              simp only [withs, List.getElem?_cons_zero, List.getElem?_cons_succ, Option.bind, Option.getD]
              repeat (first | (with_reducible refine all_isV ?_) | (with_reducible refine all_isWC ?_; intro sx Ax kx cx hvx hwx) | (with_reducible refine all_isNR ?_; intro Ax kx cx hvx) | (with_reducible refine all_isNV ?_; intro Ax kx cx hvx) | (with_reducible refine all_isDV ?_; intro sx Ax kx cx hvx) | (with_reducible refine all_isWV ?_; intro sx Ax kx cx hvx) | (with_reducible refine all_isD ?_; intro sx Ax kx cx hvx hwx) | (with_reducible refine all_isRow ?_; intro gx' hbx) | (with_reducible refine all_isPtr ?_; intro gp' hbp hgp))
              go_simp
              exact ⟨Only.refl _ _, isV.self _ _⟩
            refine owes2_cons (fun wx hox => ?_) ?_
            · skip
              skip
              refine withs_plain rfl ?_
              simp only [withs, List.getElem?_cons_zero, List.getElem?_cons_succ, Option.bind, Option.getD]
              repeat (first | (with_reducible refine all_isV ?_) | (with_reducible refine all_isWC ?_; intro sx Ax kx cx hvx hwx) | (with_reducible refine all_isNR ?_; intro Ax kx cx hvx) | (with_reducible refine all_isNV ?_; intro Ax kx cx hvx) | (with_reducible refine all_isDV ?_; intro sx Ax kx cx hvx) | (with_reducible refine all_isWV ?_; intro sx Ax kx cx hvx) | (with_reducible refine all_isD ?_; intro sx Ax kx cx hvx hwx) | (with_reducible refine all_isRow ?_; intro gx' hbx) | (with_reducible refine all_isPtr ?_; intro gp' hbp hgp))
              go_simp
              exact ⟨Only.refl _ _, isV.self _ _⟩
            refine owes2_cons (fun wx hox => ?_) ?_
            · skip
              skip
              refine withs_guard rfl rfl ?_
              simp only [withs, List.getElem?_cons_zero, List.getElem?_cons_succ, Option.bind, Option.getD]
              repeat (first | (with_reducible refine all_isV ?_) | (with_reducible refine all_isWC ?_; intro sx Ax kx cx hvx hwx) | (with_reducible refine all_isNR ?_; intro Ax kx cx hvx) | (with_reducible refine all_isNV ?_; intro Ax kx cx hvx) | (with_reducible refine all_isDV ?_; intro sx Ax kx cx hvx) | (with_reducible refine all_isWV ?_; intro sx Ax kx cx hvx) | (with_reducible refine all_isD ?_; intro sx Ax kx cx hvx hwx) | (with_reducible refine all_isRow ?_; intro gx' hbx) | (with_reducible refine all_isPtr ?_; intro gp' hbp hgp))
              refine ⟨by kernel_rfl, ?_⟩
              go_simp
              exact ⟨Only.refl _ _, isV.self _ _⟩
            refine owes2_cons (fun wx hox => ?_) ?_
            · skip
              have h3 := Lib.hid (HW.out.step hox)
              have bl := h3.out.blk
              have q0 := bl.cell 0
              have q1 := bl.cell 1
              have q2 := bl.cell 2
              have q3 := bl.cell 3
              have q4 := bl.cell 4
              have q5 := bl.cell 5
              simp only [List.getElem?_cons_zero, List.getElem?_cons_succ] at q0 q1 q2 q3 q4 q5
              have iv0 := WA.iv h3 2 rfl
              have iv1 := WA.iv h3 1 rfl
              have iv2 := WA.iv h3 0 rfl
              clear bl h3
              refine withs_guard rfl rfl ?_
              simp only [withs, List.getElem?_cons_zero, List.getElem?_cons_succ, Option.bind, Option.getD]
              repeat (first | (with_reducible refine all_isV ?_) | (with_reducible refine all_isWC ?_; intro sx Ax kx cx hvx hwx) | (with_reducible refine all_isNR ?_; intro Ax kx cx hvx) | (with_reducible refine all_isNV ?_; intro Ax kx cx hvx) | (with_reducible refine all_isDV ?_; intro sx Ax kx cx hvx) | (with_reducible refine all_isWV ?_; intro sx Ax kx cx hvx) | (with_reducible refine all_isD ?_; intro sx Ax kx cx hvx hwx) | (with_reducible refine all_isRow ?_; intro gx' hbx) | (with_reducible refine all_isPtr ?_; intro gp' hbp hgp))
              refine ⟨by kernel_rfl, ?_⟩
              go_simp
              exact ⟨Only.refl _ _, isV.self _ _⟩
            refine owes2_cons (fun wx hox => ?_) ?_
            · skip
              skip
              refine withs_guard rfl rfl ?_
              simp only [withs, List.getElem?_cons_zero, List.getElem?_cons_succ, Option.bind, Option.getD]
              repeat (first | (with_reducible refine all_isV ?_) | (with_reducible refine all_isWC ?_; intro sx Ax kx cx hvx hwx) | (with_reducible refine all_isNR ?_; intro Ax kx cx hvx) | (with_reducible refine all_isNV ?_; intro Ax kx cx hvx) | (with_reducible refine all_isDV ?_; intro sx Ax kx cx hvx) | (with_reducible refine all_isWV ?_; intro sx Ax kx cx hvx) | (with_reducible refine all_isD ?_; intro sx Ax kx cx hvx hwx) | (with_reducible refine all_isRow ?_; intro gx' hbx) | (with_reducible refine all_isPtr ?_; intro gp' hbp hgp))
              refine ⟨by kernel_rfl, ?_⟩
              go_simp
              exact ⟨Only.refl _ _, isV.self _ _⟩
            refine owes2_cons (fun wx hox => ?_) ?_
            · skip
              have h3 := Lib.hid (HW.out.step hox)
              have bl := h3.out.blk
              have q0 := bl.cell 0
              have q1 := bl.cell 1
              have q2 := bl.cell 2
              have q3 := bl.cell 3
              have q4 := bl.cell 4
              have q5 := bl.cell 5
              simp only [List.getElem?_cons_zero, List.getElem?_cons_succ] at q0 q1 q2 q3 q4 q5
              have iv0 := WA.iv h3 2 rfl
              have iv1 := WA.iv h3 1 rfl
              have iv2 := WA.iv h3 0 rfl
              clear bl h3
              refine withs_guard rfl rfl ?_
              simp only [withs, List.getElem?_cons_zero, List.getElem?_cons_succ, Option.bind, Option.getD]
              repeat (first | (with_reducible refine all_isV ?_) | (with_reducible refine all_isWC ?_; intro sx Ax kx cx hvx hwx) | (with_reducible refine all_isNR ?_; intro Ax kx cx hvx) | (with_reducible refine all_isNV ?_; intro Ax kx cx hvx) | (with_reducible refine all_isDV ?_; intro sx Ax kx cx hvx) | (with_reducible refine all_isWV ?_; intro sx Ax kx cx hvx) | (with_reducible refine all_isD ?_; intro sx Ax kx cx hvx hwx) | (with_reducible refine all_isRow ?_; intro gx' hbx) | (with_reducible refine all_isPtr ?_; intro gp' hbp hgp))
              refine ⟨by kernel_rfl, ?_⟩
              go_simp
              exact ⟨Only.refl _ _, isV.self _ _⟩
            refine owes2_cons (fun wx hox => ?_) ?_
            · skip
              have h3 := Lib.hid (HW.out.step hox)
              have bl := h3.out.blk
              have q0 := bl.cell 0
              have q1 := bl.cell 1
              have q2 := bl.cell 2
              have q3 := bl.cell 3
              have q4 := bl.cell 4
              have q5 := bl.cell 5
              simp only [List.getElem?_cons_zero, List.getElem?_cons_succ] at q0 q1 q2 q3 q4 q5
              have iv0 := WA.iv h3 2 rfl
              have iv1 := WA.iv h3 1 rfl
              have iv2 := WA.iv h3 0 rfl
              clear bl h3
              refine withs_guard rfl rfl ?_
              simp only [withs, List.getElem?_cons_zero, List.getElem?_cons_succ, Option.bind, Option.getD]
              repeat (first | (with_reducible refine all_isV ?_) | (with_reducible refine all_isWC ?_; intro sx Ax kx cx hvx hwx) | (with_reducible refine all_isNR ?_; intro Ax kx cx hvx) | (with_reducible refine all_isNV ?_; intro Ax kx cx hvx) | (with_reducible refine all_isDV ?_; intro sx Ax kx cx hvx) | (with_reducible refine all_isWV ?_; intro sx Ax kx cx hvx) | (with_reducible refine all_isD ?_; intro sx Ax kx cx hvx hwx) | (with_reducible refine all_isRow ?_; intro gx' hbx) | (with_reducible refine all_isPtr ?_; intro gp' hbp hgp))
              refine ⟨by kernel_rfl, ?_⟩
              go_simp
              (with_reducible exact grow_wc (sub_w (by assumption) (by assumption) HFxy))
            refine owes2_cons (fun wx hox => ?_) ?_
            · skip
              skip
              refine withs_guard rfl rfl ?_
              simp only [withs, List.getElem?_cons_zero, List.getElem?_cons_succ, Option.bind, Option.getD]
              repeat (first | (with_reducible refine all_isV ?_) | (with_reducible refine all_isWC ?_; intro sx Ax kx cx hvx hwx) | (with_reducible refine all_isNR ?_; intro Ax kx cx hvx) | (with_reducible refine all_isNV ?_; intro Ax kx cx hvx) | (with_reducible refine all_isDV ?_; intro sx Ax kx cx hvx) | (with_reducible refine all_isWV ?_; intro sx Ax kx cx hvx) | (with_reducible refine all_isD ?_; intro sx Ax kx cx hvx hwx) | (with_reducible refine all_isRow ?_; intro gx' hbx) | (with_reducible refine all_isPtr ?_; intro gp' hbp hgp))
              refine ⟨by kernel_rfl, ?_⟩
              go_simp
              exact ⟨Only.refl _ _, isV.self _ _⟩
            refine owes2_cons (fun wx hox => ?_) ?_
            · skip
              have h3 := Lib.hid (HW.out.step hox)
              have bl := h3.out.blk
              have q0 := bl.cell 0
              have q1 := bl.cell 1
              have q2 := bl.cell 2
              have q3 := bl.cell 3
              have q4 := bl.cell 4
              have q5 := bl.cell 5
              simp only [List.getElem?_cons_zero, List.getElem?_cons_succ] at q0 q1 q2 q3 q4 q5
              have iv0 := WA.iv h3 2 rfl
              have iv1 := WA.iv h3 1 rfl
              have iv2 := WA.iv h3 0 rfl
              clear bl h3
              refine withs_guard rfl rfl ?_
              simp only [withs, List.getElem?_cons_zero, List.getElem?_cons_succ, Option.bind, Option.getD]
              repeat (first | (with_reducible refine all_isV ?_) | (with_reducible refine all_isWC ?_; intro sx Ax kx cx hvx hwx) | (with_reducible refine all_isNR ?_; intro Ax kx cx hvx) | (with_reducible refine all_isNV ?_; intro Ax kx cx hvx) | (with_reducible refine all_isDV ?_; intro sx Ax kx cx hvx) | (with_reducible refine all_isWV ?_; intro sx Ax kx cx hvx) | (with_reducible refine all_isD ?_; intro sx Ax kx cx hvx hwx) | (with_reducible refine all_isRow ?_; intro gx' hbx) | (with_reducible refine all_isPtr ?_; intro gp' hbp hgp))
              refine ⟨by kernel_rfl, ?_⟩
              go_simp
              exact ⟨Only.refl _ _, isV.self _ _⟩
            refine owes2_cons (fun wx hox => ?_) ?_
            · skip
              skip
              refine withs_guard rfl rfl ?_
              simp only [withs, List.getElem?_cons_zero, List.getElem?_cons_succ, Option.bind, Option.getD]
              repeat (first | (with_reducible refine all_isV ?_) | (with_reducible refine all_isWC ?_; intro sx Ax kx cx hvx hwx) | (with_reducible refine all_isNR ?_; intro Ax kx cx hvx) | (with_reducible refine all_isNV ?_; intro Ax kx cx hvx) | (with_reducible refine all_isDV ?_; intro sx Ax kx cx hvx) | (with_reducible refine all_isWV ?_; intro sx Ax kx cx hvx) | (with_reducible refine all_isD ?_; intro sx Ax kx cx hvx hwx) | (with_reducible refine all_isRow ?_; intro gx' hbx) | (with_reducible refine all_isPtr ?_; intro gp' hbp hgp))
              refine ⟨by kernel_rfl, ?_⟩
              go_simp
              (exact isRow.new _ _ _ _)
            refine owes2_cons (fun wx hox => ?_) ?_
            · skip
              have h3 := Lib.hid (HW.out.step hox)
              have bl := h3.out.blk
              have q0 := bl.cell 0
              have q1 := bl.cell 1
              have q2 := bl.cell 2
              have q3 := bl.cell 3
              have q4 := bl.cell 4
              have q5 := bl.cell 5
              simp only [List.getElem?_cons_zero, List.getElem?_cons_succ] at q0 q1 q2 q3 q4 q5
              have iv0 := WA.iv h3 2 rfl
              have iv1 := WA.iv h3 1 rfl
              have iv2 := WA.iv h3 0 rfl
              clear bl h3
              refine withs_guard rfl rfl ?_
              simp only [withs, List.getElem?_cons_zero, List.getElem?_cons_succ, Option.bind, Option.getD]
              repeat (first | (with_reducible refine all_isV ?_) | (with_reducible refine all_isWC ?_; intro sx Ax kx cx hvx hwx) | (with_reducible refine all_isNR ?_; intro Ax kx cx hvx) | (with_reducible refine all_isNV ?_; intro Ax kx cx hvx) | (with_reducible refine all_isDV ?_; intro sx Ax kx cx hvx) | (with_reducible refine all_isWV ?_; intro sx Ax kx cx hvx) | (with_reducible refine all_isD ?_; intro sx Ax kx cx hvx hwx) | (with_reducible refine all_isRow ?_; intro gx' hbx) | (with_reducible refine all_isPtr ?_; intro gp' hbp hgp))
              refine ⟨by kernel_rfl, ?_⟩
              go_simp
              (have hq := add1_w (x := x - y) (y := y) (by assumption) (by assumption) (by assumption) HFx; rw [HXY.out] at hq; with_reducible exact grow_wc hq)
            refine owes2_cons (fun wx hox => ?_) ?_
            · skip
              skip
              refine withs_guard rfl rfl ?_
              simp only [withs, List.getElem?_cons_zero, List.getElem?_cons_succ, Option.bind, Option.getD]
              repeat (first | (with_reducible refine all_isV ?_) | (with_reducible refine all_isWC ?_; intro sx Ax kx cx hvx hwx) | (with_reducible refine all_isNR ?_; intro Ax kx cx hvx) | (with_reducible refine all_isNV ?_; intro Ax kx cx hvx) | (with_reducible refine all_isDV ?_; intro sx Ax kx cx hvx) | (with_reducible refine all_isWV ?_; intro sx Ax kx cx hvx) | (with_reducible refine all_isD ?_; intro sx Ax kx cx hvx hwx) | (with_reducible refine all_isRow ?_; intro gx' hbx) | (with_reducible refine all_isPtr ?_; intro gp' hbp hgp))
              refine ⟨by kernel_rfl, ?_⟩
              go_simp
              exact ⟨Only.refl _ _, isV.self _ _⟩
            refine owes2_cons (fun wx hox => ?_) ?_
            · skip
              have h3 := Lib.hid (HW.out.step hox)
              have bl := h3.out.blk
              have q0 := bl.cell 0
              have q1 := bl.cell 1
              have q2 := bl.cell 2
              have q3 := bl.cell 3
              have q4 := bl.cell 4
              have q5 := bl.cell 5
              simp only [List.getElem?_cons_zero, List.getElem?_cons_succ] at q0 q1 q2 q3 q4 q5
              have iv0 := WA.iv h3 2 rfl
              have iv1 := WA.iv h3 1 rfl
              have iv2 := WA.iv h3 0 rfl
              clear bl h3
              refine withs_guard rfl rfl ?_
              simp only [withs, List.getElem?_cons_zero, List.getElem?_cons_succ, Option.bind, Option.getD]
              repeat (first | (with_reducible refine all_isV ?_) | (with_reducible refine all_isWC ?_; intro sx Ax kx cx hvx hwx) | (with_reducible refine all_isNR ?_; intro Ax kx cx hvx) | (with_reducible refine all_isNV ?_; intro Ax kx cx hvx) | (with_reducible refine all_isDV ?_; intro sx Ax kx cx hvx) | (with_reducible refine all_isWV ?_; intro sx Ax kx cx hvx) | (with_reducible refine all_isD ?_; intro sx Ax kx cx hvx hwx) | (with_reducible refine all_isRow ?_; intro gx' hbx) | (with_reducible refine all_isPtr ?_; intro gp' hbp hgp))
              refine ⟨by kernel_rfl, ?_⟩
              go_simp
              exact ⟨Only.refl _ _, isV.self _ _⟩
            refine owes2_cons (fun wx hox => ?_) ?_
            · skip
              have h3 := Lib.hid (HW.out.step hox)
              have bl := h3.out.blk
              have q0 := bl.cell 0
              have q1 := bl.cell 1
              have q2 := bl.cell 2
              have q3 := bl.cell 3
              have q4 := bl.cell 4
              have q5 := bl.cell 5
              simp only [List.getElem?_cons_zero, List.getElem?_cons_succ] at q0 q1 q2 q3 q4 q5
              have iv0 := WA.iv h3 2 rfl
              have iv1 := WA.iv h3 1 rfl
              have iv2 := WA.iv h3 0 rfl
              clear bl h3
              refine withs_guard rfl rfl ?_
              simp only [withs, List.getElem?_cons_zero, List.getElem?_cons_succ, Option.bind, Option.getD]
              repeat (first | (with_reducible refine all_isV ?_) | (with_reducible refine all_isWC ?_; intro sx Ax kx cx hvx hwx) | (with_reducible refine all_isNR ?_; intro Ax kx cx hvx) | (with_reducible refine all_isNV ?_; intro Ax kx cx hvx) | (with_reducible refine all_isDV ?_; intro sx Ax kx cx hvx) | (with_reducible refine all_isWV ?_; intro sx Ax kx cx hvx) | (with_reducible refine all_isD ?_; intro sx Ax kx cx hvx hwx) | (with_reducible refine all_isRow ?_; intro gx' hbx) | (with_reducible refine all_isPtr ?_; intro gp' hbp hgp))
              refine ⟨by kernel_rfl, ?_⟩
              go_simp
              (with_reducible exact grow_of (cmpV_w (x := x) (y := x) 0 (by assumption) (by assumption) HXX.out))
            refine owes2_cons (fun wx hox => ?_) ?_
            · skip
              skip
              refine withs_guard rfl rfl ?_
              simp only [withs, List.getElem?_cons_zero, List.getElem?_cons_succ, Option.bind, Option.getD]
              repeat (first | (with_reducible refine all_isV ?_) | (with_reducible refine all_isWC ?_; intro sx Ax kx cx hvx hwx) | (with_reducible refine all_isNR ?_; intro Ax kx cx hvx) | (with_reducible refine all_isNV ?_; intro Ax kx cx hvx) | (with_reducible refine all_isDV ?_; intro sx Ax kx cx hvx) | (with_reducible refine all_isWV ?_; intro sx Ax kx cx hvx) | (with_reducible refine all_isD ?_; intro sx Ax kx cx hvx hwx) | (with_reducible refine all_isRow ?_; intro gx' hbx) | (with_reducible refine all_isPtr ?_; intro gp' hbp hgp))
              refine ⟨by kernel_rfl, ?_⟩
              go_simp
              exact ⟨Only.refl _ _, isV.self _ _⟩
            refine owes2_cons (fun wx hox => ?_) ?_
            · skip
              skip
              refine withs_plain rfl ?_
              simp only [withs, List.getElem?_cons_zero, List.getElem?_cons_succ, Option.bind, Option.getD]
              repeat (first | (with_reducible refine all_isV ?_) | (with_reducible refine all_isWC ?_; intro sx Ax kx cx hvx hwx) | (with_reducible refine all_isNR ?_; intro Ax kx cx hvx) | (with_reducible refine all_isNV ?_; intro Ax kx cx hvx) | (with_reducible refine all_isDV ?_; intro sx Ax kx cx hvx) | (with_reducible refine all_isWV ?_; intro sx Ax kx cx hvx) | (with_reducible refine all_isD ?_; intro sx Ax kx cx hvx hwx) | (with_reducible refine all_isRow ?_; intro gx' hbx) | (with_reducible refine all_isPtr ?_; intro gp' hbp hgp))
              go_simp
              exact ⟨Only.refl _ _, isV.self _ _⟩
            refine owes2_cons (fun wx hox => ?_) ?_
            · skip
              skip
              refine withs_plain rfl ?_
              simp only [withs, List.getElem?_cons_zero, List.getElem?_cons_succ, Option.bind, Option.getD]
              repeat (first | (with_reducible refine all_isV ?_) | (with_reducible refine all_isWC ?_; intro sx Ax kx cx hvx hwx) | (with_reducible refine all_isNR ?_; intro Ax kx cx hvx) | (with_reducible refine all_isNV ?_; intro Ax kx cx hvx) | (with_reducible refine all_isDV ?_; intro sx Ax kx cx hvx) | (with_reducible refine all_isWV ?_; intro sx Ax kx cx hvx) | (with_reducible refine all_isD ?_; intro sx Ax kx cx hvx hwx) | (with_reducible refine all_isRow ?_; intro gx' hbx) | (with_reducible refine all_isPtr ?_; intro gp' hbp hgp))
              go_simp
              exact ⟨Only.refl _ _, isV.self _ _⟩
            exact owes2_nil
          case he =>
            intro wx hox
            refine withs_of (by simp only [List.length, List.range, List.range.loop]; exact rfl) ?_
            simp only [withs, List.getElem?_cons_zero, List.getElem?_cons_succ, Option.bind, Option.getD]
            repeat (first | (with_reducible refine all_isV ?_) | (with_reducible refine all_isWC ?_; intro sx Ax kx cx hvx hwx) | (with_reducible refine all_isNR ?_; intro Ax kx cx hvx) | (with_reducible refine all_isNV ?_; intro Ax kx cx hvx) | (with_reducible refine all_isDV ?_; intro sx Ax kx cx hvx) | (with_reducible refine all_isWV ?_; intro sx Ax kx cx hvx) | (with_reducible refine all_isD ?_; intro sx Ax kx cx hvx hwx) | (with_reducible refine all_isRow ?_; intro gx' hbx) | (with_reducible refine all_isPtr ?_; intro gp' hbp hgp))
            go_simp
            go_wp2_with fail
            go_ret
            exact ⟨rfl, HW.out.only.nil_trans hox⟩
          case hl =>
            repeat (refine List.forall_mem_cons.2 ⟨?_, ?_⟩; first | exact isV.lasts _ | exact isD.lasts _ | exact isNV.lasts _ | exact isDV.lasts _ | exact isWV.lasts _ | exact isWC.lasts _ | exact isNR.lasts _ _ | exact isWR.lasts _ _ | exact isRow.lasts _ _ _ | exact isPtr.lasts _ _ _)
            exact fun _ h => (by cases h)
          
          
        case hl =>
          repeat (refine List.forall_mem_cons.2 ⟨?_, ?_⟩; first | exact isV.lasts _ | exact isD.lasts _ | exact isNV.lasts _ | exact isDV.lasts _ | exact isWV.lasts _ | exact isWC.lasts _ | exact isNR.lasts _ _ | exact isWR.lasts _ _ | exact isRow.lasts _ _ _ | exact isPtr.lasts _ _ _)
          exact fun _ h => (by cases h)
      case hl =>
        repeat (refine List.forall_mem_cons.2 ⟨?_, ?_⟩; first | exact isV.lasts _ | exact isD.lasts _ | exact isNV.lasts _ | exact isDV.lasts _ | exact isWV.lasts _ | exact isWC.lasts _ | exact isNR.lasts _ _ | exact isWR.lasts _ _ | exact isRow.lasts _ _ _ | exact isPtr.lasts _ _ _)
        exact fun _ h => (by cases h)
    case hl =>
      repeat (refine List.forall_mem_cons.2 ⟨?_, ?_⟩; first | exact isV.lasts _ | exact isD.lasts _ | exact isNV.lasts _ | exact isDV.lasts _ | exact isWV.lasts _ | exact isWC.lasts _ | exact isNR.lasts _ _ | exact isWR.lasts _ _ | exact isRow.lasts _ _ _ | exact isPtr.lasts _ _ _)
      exact fun _ h => (by cases h)
  case hl =>
    repeat (refine List.forall_mem_cons.2 ⟨?_, ?_⟩; first | exact isV.lasts _ | exact isD.lasts _ | exact isNV.lasts _ | exact isDV.lasts _ | exact isWV.lasts _ | exact isWC.lasts _ | exact isNR.lasts _ _ | exact isWR.lasts _ _ | exact isRow.lasts _ _ _ | exact isPtr.lasts _ _ _)
    exact fun _ h => (by cases h)

end Go.Proofs.YtphjcphcgnjogaaDoor
