/-
  WholeLaws: the law's walk.
-/
import Derived.Test.YtphjcphcgnjogaaDoorWhH
import Derived.Test.YtphjcphcgnjogaaDoorIntIn
import Derived.Test.YtphjcphcgnjogaaDoorTyq
import Derived.Deep.DeepCutAuto
import Derived.Deep.AppendLies
namespace Go.Proofs.YtphjcphcgnjogaaDoor
open Go.RowKit
set_option linter.unusedSimpArgs false

set_option maxHeartbeats 800000 in
set_option maxRecDepth 100000 in
theorem wlaws_out (A : Option Addr) (c : Nat) (L : List Int) (a b : Int) (w : World) (htab : Hid (Tab w)) (hl : (20 : Int) < (L.length : Int)) :
    Calls Tryd.prog 3 #[.slice A L.length c, .int .i64 a, .int .i64 b] w fun e w' => e = .returned (.bool true) ∧ Only [] w w' := by
  go_enter Tryd.func3, Tryd.ntmps3
  go_wp2_with fail
  (with_reducible refine (alive2_any _ htab).mono ?_)
  rintro e w1 ⟨rfl, ho⟩
  go_wp2_with fail
  go_ret
  exact ⟨rfl, ho⟩

theorem Tryd.wintInfo : (Tryd.prog.info? 27).map (fun i => (i.zero, i.size, i.bytes)) = some (some (.agg #[.bool false, .slice none 0 0]), 2, 32) := by kernel_rfl
theorem wint_parts : ∃ i : TypeInfo, Tryd.prog.info? 27 = some i ∧ i.zero = some (.agg #[.bool false, .slice none 0 0]) ∧ i.size = 2 ∧ i.bytes = 32 := by
  obtain ⟨i, h, e⟩ := Option.map_eq_some_iff.1 Tryd.wintInfo
  simp only [Prod.mk.injEq] at e
  exact ⟨i, h, e.1, e.2.1, e.2.2⟩
/-- The loop's carrier. -/
structure LC (w wr : World) (bx by_ bs bp : BX) (u : Value) (I : List WI) : Prop where
  wb : WB w wr [bp, bs, by_, bx]
  ne : bs.g ≠ bp.g ∧ bx.g ≠ bs.g ∧ bx.g ≠ bp.g ∧ by_.g ≠ bs.g ∧ by_.g ≠ bp.g
  base : w.heap.size ≤ bs.g ∧ w.heap.size ≤ bp.g
  row : WRow wr u I
  rg : ∀ g, u.ownBlock = some g → bx.g < g ∧ by_.g < g ∧ bs.g < g ∧ bp.g < g ∧ w.heap.size ≤ g
  far : ∀ g, u.ownBlock = some g → Far g bx.a bx.k ∧ Far g by_.a by_.k ∧ Far g bs.a bs.k ∧ Far g bp.a bp.k
theorem LC.step {w wr w' : World} {bx by_ bs bp : BX} {u : Value} {I : List WI} (h : LC w wr bx by_ bs bp u I) (ho : Only [] wr w') : LC w w' bx by_ bs bp u I :=
  ⟨h.wb.step ho, h.ne, h.base, h.row.nilOnly ho, h.rg, h.far⟩
/-- One more in the row. -/
theorem LC.grow {w wr w' : World} {bx by_ bs bp : BX} {u : Value} {I : List WI} {i : WI} {g cap : Nat} (h : LC w wr bx by_ bs bp u I) (hi : IV wr i.v i.z) (hfi : ∀ g, u.ownBlock = some g → Far g i.a i.n)
    (hown : w'.ownsRow 0 27 2 (.slice (some ⟨g, 0, none⟩) (I.length + 1) cap) (I.length + 1) (flatW I ++ [.bool i.s, .slice i.a i.n i.c])) (ho : Only u.ownBlock.toList wr w') (hg : u.ownBlock = some g ∨ wr.heap.size ≤ g) :
    LC w w' bx by_ bs bp (.slice (some ⟨g, 0, none⟩) (I.length + 1) cap) (I ++ [i]) := by
  have hx := h.wb.all 3 bx rfl
  have hy := h.wb.all 2 by_ rfl
  have hs := h.wb.all 1 bs rfl
  have hp := h.wb.all 0 bp rfl
  have hof : ∀ g ∈ u.ownBlock.toList, u.ownBlock = some g := fun g hm => by simpa using hm
  have key : ∀ x : BX, BX.ok wr x → (∀ g, u.ownBlock = some g → x.g < g ∧ Far g x.a x.k) → BX.ok w' x := fun x hxo hxg =>
    ⟨hxo.1.only ho (fun hm => by have := (hxg _ (hof _ hm)).1; omega), hxo.2.farS ho (fun g hm => (hxg g (hof g hm)).2)⟩
  refine ⟨⟨h.wb.only.trans ho (fun k hk => .inr (h.rg k (hof k hk)).2.2.2.2), fun j x hj => ?_⟩, h.ne, h.base, h.row.grow hi hfi hown ho hg, fun g' hg' => ?_, fun g' hg' => ?_⟩
  · rcases j with _ | _ | _ | _ | j
    · obtain rfl : bp = x := by simpa using hj
      exact key _ hp fun g hg => ⟨(h.rg g hg).2.2.2.1, (h.far g hg).2.2.2⟩
    · obtain rfl : bs = x := by simpa using hj
      exact key _ hs fun g hg => ⟨(h.rg g hg).2.2.1, (h.far g hg).2.2.1⟩
    · obtain rfl : by_ = x := by simpa using hj
      exact key _ hy fun g hg => ⟨(h.rg g hg).2.1, (h.far g hg).2.1⟩
    · obtain rfl : bx = x := by simpa using hj
      exact key _ hx fun g hg => ⟨(h.rg g hg).1, (h.far g hg).1⟩
    · simp at hj
  · obtain rfl : g = g' := by simpa [Value.ownBlock] using hg'
    rcases hg with hg | hg
    · exact h.rg g hg
    · have := hx.1.lt; have := hy.1.lt; have := hs.1.lt; have := hp.1.lt; have := h.wb.only.size
      refine ⟨?_, ?_, ?_, ?_, ?_⟩ <;> omega
  · obtain rfl : g = g' := by simpa [Value.ownBlock] using hg'
    rcases hg with hg | hg
    · exact h.far g hg
    · exact ⟨hx.2.far_new hg, hy.2.far_new hg, hs.2.far_new hg, hp.2.far_new hg⟩
/-- New numbers in the two boxes. -/
theorem LC.put {w wr w' : World} {bx by_ bs bp : BX} {u : Value} {I : List WI} {s1 s2 : Bool} {A1 A2 : Option Addr} {k1 k2 c1 c2 : Nat} {z1 z2 : Int} (h : LC w wr bx by_ bs bp u I)
    (h1 : IV wr (.agg #[.bool s1, .slice A1 k1 c1]) z1) (h2 : IV wr (.agg #[.bool s2, .slice A2 k2 c2]) z2) (hf : ∀ g, u.ownBlock = some g → Far g A1 k1 ∧ Far g A2 k2)
    (hw : w' = (((wr.setCell ⟨bs.g, 0, none⟩ (.bool s1)).setCell ⟨bs.g, 1, none⟩ (.slice A1 k1 c1)).setCell ⟨bp.g, 0, none⟩ (.bool s2)).setCell ⟨bp.g, 1, none⟩ (.slice A2 k2 c2)) :
    LC w w' bx by_ ⟨bs.g, s1, A1, k1, c1, z1⟩ ⟨bp.g, s2, A2, k2, c2, z2⟩ u I := by
  subst hw
  have hx := h.wb.all 3 bx rfl
  have hy := h.wb.all 2 by_ rfl
  have hs := h.wb.all 1 bs rfl
  have hp := h.wb.all 0 bp rfl
  obtain ⟨n1, n2, n3, n4, n5⟩ := h.ne
  have ho : Only [bs.g, bp.g] wr ((((wr.setCell ⟨bs.g, 0, none⟩ (.bool s1)).setCell ⟨bs.g, 1, none⟩ (.slice A1 k1 c1)).setCell ⟨bp.g, 0, none⟩ (.bool s2)).setCell ⟨bp.g, 1, none⟩ (.slice A2 k2 c2)) :=
    ((((Only.refl _ wr).setCell (.inl (by simp)) _).setCell (.inl (by simp)) _).setCell (.inl (by simp)) _).setCell (.inl (by simp)) _
  have hbs : Blk ((((wr.setCell ⟨bs.g, 0, none⟩ (.bool s1)).setCell ⟨bs.g, 1, none⟩ (.slice A1 k1 c1)).setCell ⟨bp.g, 0, none⟩ (.bool s2)).setCell ⟨bp.g, 1, none⟩ (.slice A2 k2 c2)) bs.g 27 [.bool s1, .slice A1 k1 c1] :=
    (((hs.1.set_ 0 (.bool s1)).set_ 1 (.slice A1 k1 c1)).far n1 _).far n1 _
  have hbp : Blk ((((wr.setCell ⟨bs.g, 0, none⟩ (.bool s1)).setCell ⟨bs.g, 1, none⟩ (.slice A1 k1 c1)).setCell ⟨bp.g, 0, none⟩ (.bool s2)).setCell ⟨bp.g, 1, none⟩ (.slice A2 k2 c2)) bp.g 27 [.bool s2, .slice A2 k2 c2] :=
    (((hp.1.far (Ne.symm n1) _).far (Ne.symm n1) _).set_ 0 (.bool s2)).set_ 1 (.slice A2 k2 c2)
  have hfar : ∀ {s A k c z}, IV wr (.agg #[.bool s, .slice A k c]) z → ∀ g ∈ [bs.g, bp.g], Far g A k := fun hv g hg => by
    rcases List.mem_cons.1 hg with rfl | hg
    · exact hv.far_box hs.1
    · rw [List.mem_singleton] at hg
      subst hg
      exact hv.far_box hp.1
  refine ⟨⟨h.wb.only.trans ho (fun k hk => ?_), fun j x hj => ?_⟩, h.ne, h.base, h.row.only ho (fun g hg => ⟨fun i hi => hfar (h.row.its i hi) g hg, fun hc => ?_⟩), h.rg, fun g hg => ⟨(h.far g hg).1, (h.far g hg).2.1, hf g hg⟩⟩
  · right
    have := h.base
    rcases List.mem_cons.1 hk with rfl | hk
    · exact this.1
    · rw [List.mem_singleton] at hk; subst hk; exact this.2
  · rcases j with _ | _ | _ | _ | j
    · obtain rfl := (Option.some.inj hj).symm
      exact ⟨hbp, h2.farS ho (hfar h2)⟩
    · obtain rfl := (Option.some.inj hj).symm
      exact ⟨hbs, h1.farS ho (hfar h1)⟩
    · obtain rfl := (Option.some.inj hj).symm
      exact ⟨hy.1.only ho (by simp [n4, n5]), hy.2.farS ho (hfar hy.2)⟩
    · obtain rfl := (Option.some.inj hj).symm
      exact ⟨hx.1.only ho (by simp [n2, n3]), hx.2.farS ho (hfar hx.2)⟩
    · simp at hj
  · have h1 := h.rg g hc
    rcases List.mem_cons.1 hg with rfl | hg
    · omega
    · rw [List.mem_singleton] at hg; subst hg; omega

abbrev I64 (v : Int) : Prop := -9223372036854775808 ≤ v ∧ v ≤ 9223372036854775807
theorem prodI_le {M : Nat} : ∀ (I : List WI) (x : Int) (C : Nat), x.natAbs ≤ C → (∀ i ∈ I, i.z.natAbs ≤ M) → (prodI x I).natAbs ≤ C * M ^ I.length
  | [], x, C, h, _ => by simpa [prodI] using h
  | i :: I, x, C, h, hi => by
    have h1 : (x * i.z).natAbs ≤ C * M := by rw [Int.natAbs_mul]; exact Nat.mul_le_mul h (hi i (by simp))
    have h2 := prodI_le I (x * i.z) (C * M) h1 (fun j hj => hi j (List.mem_cons_of_mem _ hj))
    rw [List.length_cons, Nat.pow_succ, Nat.mul_comm (M ^ I.length) M, ← Nat.mul_assoc]
    exact h2
theorem sumI_le {M : Nat} : ∀ (I : List WI) (x : Int) (C : Nat), x.natAbs ≤ C → (∀ i ∈ I, i.z.natAbs ≤ M) → (sumI x I).natAbs ≤ C + M * I.length
  | [], x, C, h, _ => by simpa [sumI] using h
  | i :: I, x, C, h, hi => by
    have h1 : (x + i.z).natAbs ≤ C + M := by have := hi i (by simp); omega
    have h2 := sumI_le I (x + i.z) (C + M) h1 (fun j hj => hi j (List.mem_cons_of_mem _ hj))
    rw [List.length_cons, Nat.mul_succ]
    exact Nat.le_trans h2 (by omega)
theorem few_wide {n : Nat} (h : n ≤ BB * BB ^ 21) : Few n := Few.of_pow (k := 23) (Nat.lt_of_le_of_lt h (by
  rw [← Nat.pow_succ']
  exact Nat.pow_lt_pow_right (by rw [BB_val]; omega) (by omega))) (by omega)
theorem abs_lt_of_sq {x y : Int} (h : x * x < y * y) : x.natAbs < y.natAbs := by
  have h1 : ((x.natAbs * x.natAbs : Nat) : Int) < ((y.natAbs * y.natAbs : Nat) : Int) := by
    rw [Int.natAbs_mul_self, Int.natAbs_mul_self]; exact h
  apply Nat.lt_of_not_le
  intro hc
  have := Nat.mul_le_mul hc hc
  omega
theorem few_of_sq {x y : Int} (h : x * x < y * y) (hy : y.natAbs ≤ BB) : Few x.natAbs := few_wide (by
  have h1 := abs_lt_of_sq h
  have h2 : BB ^ 1 ≤ BB * BB ^ 21 := by rw [← Nat.pow_succ']; exact Nat.pow_le_pow_right BB_pos (by omega)
  rw [Nat.pow_one] at h2
  omega)
theorem rem_le {x y : Int} (h : x * x < y * y) (hy : y.natAbs ≤ BB) : x.natAbs ≤ BB := by have := abs_lt_of_sq h; omega
structure Small (I : List WI) : Prop where
  len : I.length ≤ 20
  z : ∀ i ∈ I, i.z.natAbs ≤ BB
theorem few_prod {x : Int} {I : List WI} (hx : x.natAbs ≤ BB) (h : Small I) : Few (prodI x I).natAbs := by
  apply few_wide
  refine Nat.le_trans (prodI_le I x BB hx h.z) (Nat.mul_le_mul_left _ (Nat.pow_le_pow_right BB_pos (by have := h.len; omega)))
theorem few_sum {x : Int} {I : List WI} (hx : x.natAbs ≤ BB) (h : Small I) : Few (sumI x I).natAbs := by
  apply few_wide
  have h1 := sumI_le I x BB hx h.z
  have h2 : BB + BB * I.length ≤ BB * BB ^ 21 := by
    have h3 : BB + BB * I.length = BB * (I.length + 1) := by rw [Nat.mul_succ]; omega
    rw [h3]
    apply Nat.mul_le_mul_left
    have h4 : BB ^ 1 ≤ BB ^ 21 := Nat.pow_le_pow_right BB_pos (by omega)
    rw [Nat.pow_one, BB_val] at h4
    have := h.len
    rw [BB_val]
    omega
  omega
theorem Small.take {I : List WI} (h : Small I) (k : Nat) : Small (I.take k) := ⟨by have := h.len; rw [List.length_take]; omega, fun i hi => h.z i (List.mem_of_mem_take hi)⟩
theorem few_sums {x : Int} {I : List WI} (hx : x.natAbs ≤ BB) (h : Small I) : FewAll (fun s i => s + i.z) x I := fun k _ => few_sum hx (h.take k)
theorem few_prods {x : Int} {I : List WI} (hx : x.natAbs ≤ BB) (h : Small I) : FewAll (fun s i => s * i.z) x I := fun k _ => few_prod hx (h.take k)
theorem few_two {n : Nat} (h : n ≤ BB + BB) : Few n := few_wide (by
  have h1 : BB ^ 1 ≤ BB ^ 21 := Nat.pow_le_pow_right BB_pos (by omega)
  have h2 := Nat.mul_le_mul_left BB h1
  rw [Nat.pow_one] at h2
  have h3 := Nat.mul_le_mul_left BB BB_two
  omega)
theorem few_back {x y : Int} (hx : x.natAbs ≤ BB) (h : (x - y).natAbs ≤ BB) : Few y.natAbs := few_two (by omega)
theorem few_sq {n : Nat} (h : n ≤ BB * BB) : Few n := few_wide (Nat.le_trans h (by
  have h1 : BB ^ 1 ≤ BB ^ 21 := Nat.pow_le_pow_right BB_pos (by omega)
  rw [Nat.pow_one] at h1
  exact Nat.mul_le_mul_left BB h1))
theorem i64_le {v : Int} (h : I64 v) : v.natAbs ≤ BB := by rw [BB_val]; unfold I64 at h; omega
theorem sumI_snoc (x : Int) (I : List WI) (i : WI) : sumI x (I ++ [i]) = i.z + sumI x I := by simp [sumI, List.foldl_append, Int.add_comm]
theorem prodI_snoc (x : Int) (I : List WI) (i : WI) : prodI x (I ++ [i]) = i.z * prodI x I := by simp [prodI, List.foldl_append, Int.mul_comm]
theorem Small.snoc {I : List WI} {i : WI} (h : Small I) (hl : I.length < 20) (hi : i.z.natAbs ≤ BB) : Small (I ++ [i]) := ⟨by simp; omega, fun j hj => by
  rcases List.mem_append.1 hj with hj | hj
  · exact h.z j hj
  · rw [List.mem_singleton] at hj; subst hj; exact hi⟩
/-- A number, stored into a new box. -/
theorem WB.store {w0 w wx : World} {L : List BX} {g : Nat} {s : Bool} {A : Option Addr} {k c : Nat} {z : Int} (h : WB w0 wx L) (hb : Blk wx g 27 [.bool false, .slice none 0 0]) (hg : w.heap.size ≤ g) (hL : ∀ (i : Nat) (x : BX), L[i]? = some x → x.g < w.heap.size) (hw : w0.heap.size ≤ w.heap.size) (hv : IV wx (.agg #[.bool s, .slice A k c]) z) :
    WB w0 ((wx.setCell ⟨g, 0, none⟩ (.bool s)).setCell ⟨g, 1, none⟩ (.slice A k c)) (⟨g, s, A, k, c, z⟩ :: L) := by
  have ho := only_set2 wx g (.bool s) (.slice A k c)
  refine WB.push (x := ⟨g, s, A, k, c, z⟩) ⟨h.only.trans ho (fun j hj => .inr (by simp at hj; omega)), fun i x hx => ?_⟩ ⟨(hb.set_ 0 _).set_ 1 _, hv.farS ho (fun j hj => ?_)⟩
  · have h1 := hL i x hx
    have h2 := h.all i x hx
    exact ⟨h2.1.only ho (by simp; omega), h2.2.farS ho (fun j hj => by rw [List.mem_singleton] at hj; subst hj; exact h2.2.far_box hb)⟩
  · rw [List.mem_singleton] at hj
    subst hj
    exact hv.far_box hb
set_option maxHeartbeats 20000000 in
set_option maxRecDepth 100000 in
theorem wlaws_in (A : Option Addr) (c : Nat) (L : List Int) (a b : Int) (w : World) (htab : Hid (Tab w)) (hA : Hid (IntsIn w A L)) (ha : Hid (I64 a)) (hb : Hid (I64 b)) (hl : (L.length : Int) ≤ 20) :
    Calls Tryd.prog 3 #[.slice A L.length c, .int .i64 a, .int .i64 b] w fun e w' => e = .returned (.bool true) ∧ Only [] w w' := by
  go_enter Tryd.func3, Tryd.ntmps3
  go_wp2_with fail
  (with_reducible refine (alive2_any _ htab).mono ?_)
  rintro e w1 ⟨rfl, ho⟩
  have HE := Lib.hid ((WB.start w).step ho)
  clear ho
  go_wp2_with fail
  (with_reducible refine (of_w a _ ha).mono ?_)
  rintro e w2 ⟨s1, A1, k1, c1, rfl, -, -, hv1, ho⟩
  replace HE := Lib.hid (HE.out.step ho)
  replace hv1 := Lib.hid hv1
  clear ho
  go_wp2_with fail
  (with_reducible refine (of_w b _ hb).mono ?_)
  rintro e w3 ⟨s2, A2, k2, c2, rfl, -, -, hv2, ho⟩
  have hm := hv1.out.only ho
  replace HE := Lib.hid ((HE.out.step ho).new hm)
  have hgw := HE.out.only.size
  rw [World.size_alloc] at hgw
  replace HE := Lib.hid (HE.out.new (hv2.only ((Only.refl [] w3).alloc (.cells #[.bool s1, .slice A1 k1 c1] 27))))
  clear ho hv1 hv2 hm
  go_upto_region 4 with fail
  obtain ⟨gx, hgx⟩ : ∃ g, w3.heap.size = g := ⟨_, rfl⟩
  rw [World.size_alloc, hgx] at HE
  have HGx : Hid (((w3.alloc (.cells #[.bool s1, .slice A1 k1 c1] 27)).alloc (.cells #[.bool s2, .slice A2 k2 c2] 27)).heap.size = gx + 2) := by show _ = _; simp [hgx]
  obtain ⟨p0, p1, -, -⟩ := WB.cells HE 1 rfl
  rw [hgx]
  go_cut [9, 10] (fun s9 s10 wx => ∃ g9 g10, s9 = .pointer (some ⟨g9, 0, none⟩) ∧ s10 = .pointer (some ⟨g10, 0, none⟩) ∧ g9 ≠ g10 ∧ gx + 1 < g9 ∧ gx + 1 < g10 ∧ Blk wx g9 27 [.bool s1, .slice A1 k1 c1] ∧ Blk wx g10 27 [.bool s1, .slice A1 k1 c1] ∧ Only [] ((w3.alloc (.cells #[.bool s1, .slice A1 k1 c1] 27)).alloc (.cells #[.bool s2, .slice A2 k2 c2] 27)) wx)
  case first =>
    have hbA := Blk.new ((w3.alloc (.cells #[.bool s1, .slice A1 k1 c1] 27)).alloc (.cells #[.bool s2, .slice A2 k2 c2] 27)) 27 [.bool s1, .slice A1 k1 c1]
    have hbB := Blk.new (((w3.alloc (.cells #[.bool s1, .slice A1 k1 c1] 27)).alloc (.cells #[.bool s2, .slice A2 k2 c2] 27)).alloc (.cells #[.bool s1, .slice A1 k1 c1] 27)) 27 [.bool s1, .slice A1 k1 c1]
    have hbC := hbA.alloc (.cells #[.bool s1, .slice A1 k1 c1] 27)
    simp only [World.size_alloc, hgx] at hbB hbC
    have HB2 := Lib.hid hbB
    have HC2 := Lib.hid hbC
    clear hbA hbB hbC
    go_region
    all_goals go_wp2_with fail
    all_goals go_meet
    · exact ⟨_, _, rfl, rfl, by omega, by omega, by omega, HC2.out, HB2.out, (((Only.refl [] _).alloc _).alloc _).drew⟩
    · exact ⟨_, _, rfl, rfl, by omega, by omega, by omega, HB2.out, HC2.out, (((Only.refl [] _).alloc _).alloc _).drew⟩
  obtain ⟨g9, g10, rfl, rfl, hne, h9, h10, hb9, hb10, ho⟩ := hcut
  have hvx := WB.iv HE 1 rfl
  have HLC : Hid (LC w wc ⟨gx, s1, A1, k1, c1, a⟩ ⟨gx + 1, s2, A2, k2, c2, b⟩ ⟨g9, s1, A1, k1, c1, a⟩ ⟨g10, s1, A1, k1, c1, a⟩ (.slice none 0 0) []) :=
    ⟨WB.push (x := ⟨g10, s1, A1, k1, c1, a⟩) (WB.push (x := ⟨g9, s1, A1, k1, c1, a⟩) (HE.out.step ho) ⟨hb9, hvx.out.only ho⟩) ⟨hb10, hvx.out.only ho⟩, ⟨hne, by simp; omega, by simp; omega, by simp; omega, by simp; omega⟩, ⟨by simp; omega, by simp; omega⟩, WRow.nil _, fun _ h => (by cases h), fun _ h => (by cases h)⟩
  have HSm : Hid (Small []) := ⟨by simp, fun i h => by simp at h⟩
  clear hne hb9 hb10 ho hvx p0 p1 hgx HGx HE
  have HSx := Lib.hid (i64_le ha.out)
  obtain ⟨i0, hi, hz0, hz1, hz2⟩ := wint_parts
  go_wp2_with fail
  go_loopw [11, 12] (fun uv iv wr => ∃ (I : List WI) (ap : Option Addr) (cp : Nat) (sS : Bool) (AS : Option Addr) (kS cS : Nat) (sP : Bool) (AP : Option Addr) (kP cP : Nat), I.length ≤ L.length ∧ uv = .slice ap I.length cp ∧ iv = .int .i64 (I.length : Int) ∧ Small I ∧
    LC w wr ⟨gx, s1, A1, k1, c1, a⟩ ⟨gx + 1, s2, A2, k2, c2, b⟩ ⟨g9, sS, AS, kS, cS, sumI a I⟩ ⟨g10, sP, AP, kP, cP, prodI a I⟩ uv I) (fun _ iv _ => L.length - (intOf iv).toNat)
  case atStart => exact ⟨[], none, 0, s1, A1, k1, c1, s1, A1, k1, c1, by simp, rfl, rfl, HSm.out, HLC.out⟩
  case round =>
    obtain ⟨I, ap, cp, sS, AS, kS, cS, sP, AP, kP, cP, hIL, rfl, rfl, hsm, hlc⟩ := hrel
    have HLCr := Lib.hid hlc
    have HSmr := Lib.hid hsm
    clear hsm hlc HLC HSm
    by_cases hlt : I.length < L.length
    · obtain ⟨ab, ao, rfl, hcell⟩ := hA.out.1 I.length hlt
      have q0 := HLCr.out.wb.only.cell (hcell I.length hlt) (by simp)
      have HV : Hid (I64 (L[I.length]?.getD 0)) := by
        rw [List.getElem?_eq_getElem hlt]
        exact hA.out.2 _ (List.getElem_mem hlt)
      generalize L[I.length]?.getD 0 = v at q0 HV
      have hk' : (I.length : Int) < (L.length : Int) := by omega
      clear hcell
      go_wp2_with fail
      (with_reducible refine (of_w v _ HV).mono ?_)
      rintro e w5 ⟨s5, A5, k5, c5, rfl, -, hr5, hv5, ho⟩
      have HFi : Hid (∀ g, (Value.slice ap I.length cp).ownBlock = some g → Far g A5 k5) := fun g hg => hr5.far (HLCr.out.row.lt g hg)
      have hlc5 := HLCr.out.step ho
      have ho6 : Only [] w5 (w5.alloc (.cells #[.bool s5, .slice A5 k5 c5] 27)) := (Only.refl [] w5).alloc _
      have hB6 := Blk.new w5 27 [.bool s5, .slice A5 k5 c5]
      have HL6 := Lib.hid (hlc5.step ho6)
      have HV6 := Lib.hid (hv5.only ho6)
      obtain ⟨gv, hgv⟩ : ∃ g, w5.heap.size = g := ⟨_, rfl⟩
      have hsz6 : (w5.alloc (.cells #[.bool s5, .slice A5 k5 c5] 27)).heap.size = gv + 1 := by simp [hgv]
      rw [hgv] at hB6
      have v0 := hB6.cell 0
      have v1 := hB6.cell 1
      simp only [List.getElem?_cons_zero, List.getElem?_cons_succ] at v0 v1
      have HB6 := Lib.hid hB6
      have HSz5 := Lib.hid ho.size
      clear ho hlc5 ho6 hr5 hv5 q0 hB6
      have HRl : Hid (∀ g, (Value.slice ap I.length cp).ownBlock = some g → g < gv) := fun g hg => by
        have h1 := HLCr.out.row.lt g hg
        have := HSz5.out
        omega
      have HFS : Hid (Few (v + sumI a I).natAbs) := by
        have := few_sum HSx.out (HSmr.out.snoc (i := ⟨s5, A5, k5, c5, v⟩) (by omega) (i64_le HV.out))
        rw [sumI_snoc] at this
        exact this
      have HFP : Hid (Few (v * prodI a I).natAbs) := by
        have := few_prod HSx.out (HSmr.out.snoc (i := ⟨s5, A5, k5, c5, v⟩) (by omega) (i64_le HV.out))
        rw [prodI_snoc] at this
        exact this
      go_upto_region 10 with fail
      clear HLCr hgv
      generalize w5.alloc (.cells #[.bool s5, .slice A5 k5 c5] 27) = w6 at *
      have HNw : Hid ((w6.alloc (.cells #[.bool s5, .slice A5 k5 c5] 27)).heap[gv + 1]? = some (.cells #[.bool s5, .slice A5 k5 c5] 27 (0, 0))) := by
        have := heap_alloc_new w6 (.cells #[.bool s5, .slice A5 k5 c5] 27)
        rw [hsz6] at this
        exact this
      go_upto_region 11 with (at_builtin; refine wpList_append_lies _ rfl _ _ _ rfl 0 27 i0 _ 2 32 Tryd.underlying29 hi hz0 hz1 hz2 rfl (by decide) (.slice ap I.length cp) I.length (flatW I) rfl (by exact HL6.out.row.own.alloc _) ⟨gv + 1, 0, none⟩ 1 1 [.bool s5, .slice A5 k5 c5] rfl rfl (by exact World.news_of_block HNw.out) (by simp [Value.oneCell']) (by decide) (by simp only [maxLen]; omega) (by omega) (Nat.zero_le _) (gv + 2) (by simp [hsz6]) ?_; intro g cap w7 hown7 hgr7 hat7 hlt7)
      have hoA : Only (Value.slice ap I.length cp).ownBlock.toList w6 w7 := ((Only.refl _ w6).alloc (.cells #[.bool s5, .slice A5 k5 c5] 27)).trans (Only.of_grown (S := (Value.slice ap I.length cp).ownBlock.toList) hgr7 (by simp)) (fun k hk => .inl hk)
      have HL7 := Lib.hid (HL6.out.grow (i := ⟨s5, A5, k5, c5, v⟩) HV6.out HFi.out hown7 hoA (hat7.imp id (fun h => by omega)))
      have HB7 := Lib.hid (HB6.out.only hoA (fun hm => by have := HRl.out gv (by simpa using hm); omega))
      have HV7 := Lib.hid (HV6.out.farS hoA (fun g hg => HFi.out g (by simpa using hg)))
      have HSm7 := Lib.hid (HSmr.out.snoc (i := ⟨s5, A5, k5, c5, v⟩) (by omega) (i64_le HV.out))
      have HG7 := Lib.hid hlt7
      clear hoA hown7 hgr7 hat7 HL6 HB6 HV6 HSmr HFi HRl hsz6 v0 v1 hlt7
      apply wp_region_typed_tail 8 (by kernel_rfl) [isV _, isV _, isRow 27 1 [.bool sS, .slice AS kS cS], isWR w7 (v + sumI a I), isV _, isV _, isRow 27 1 [.bool sP, .slice AP kP cP], isWR w7 (v * prodI a I)] (by kernel_rfl) (by kernel_rfl)
      case ho =>
        simp only [List.take_succ_cons, List.take_zero]
        refine owes_cons (fun wx hox => ?_) ?_
        · simp only [waits, withs, Region.binds, List.filter, List.map, List.getElem?_cons_zero, List.getElem?_cons_succ, Option.bind, Option.getD, List.range, List.range.loop, List.length]
          repeat (first | refine all_isV ?_ | (intro vx hx'; replace hx' := Lib.hid hx'))
          obtain ⟨t0, t1, -, -⟩ := WB.cells (Lib.hid (HL7.out.wb.step hox)) 1 rfl
          obtain ⟨t2, t3, -, -⟩ := WB.cells (Lib.hid (HL7.out.wb.step hox)) 0 rfl
          have t4 := (HB7.out.only hox (by simp)).cell 0
          have t5 := (HB7.out.only hox (by simp)).cell 1
          simp only [List.getElem?_cons_zero, List.getElem?_cons_succ] at t4 t5
          go_simp
          first | exact ⟨Only.refl _ _, isV.self _ _⟩ | (fail)
        refine owes_cons (fun wx hox => ?_) ?_
        · simp only [waits, withs, Region.binds, List.filter, List.map, List.getElem?_cons_zero, List.getElem?_cons_succ, Option.bind, Option.getD, List.range, List.range.loop, List.length]
          repeat (first | refine all_isV ?_ | (intro vx hx'; replace hx' := Lib.hid hx'))
          obtain ⟨t0, t1, -, -⟩ := WB.cells (Lib.hid (HL7.out.wb.step hox)) 1 rfl
          obtain ⟨t2, t3, -, -⟩ := WB.cells (Lib.hid (HL7.out.wb.step hox)) 0 rfl
          have t4 := (HB7.out.only hox (by simp)).cell 0
          have t5 := (HB7.out.only hox (by simp)).cell 1
          simp only [List.getElem?_cons_zero, List.getElem?_cons_succ] at t4 t5
          go_simp
          first | exact ⟨Only.refl _ _, isV.self _ _⟩ | (fail)
        refine owes_cons (fun wx hox => ?_) ?_
        · simp only [waits, withs, Region.binds, List.filter, List.map, List.getElem?_cons_zero, List.getElem?_cons_succ, Option.bind, Option.getD, List.range, List.range.loop, List.length]
          repeat (first | refine all_isV ?_ | (intro vx hx'; replace hx' := Lib.hid hx'))
          skip
          go_simp
          first | exact ⟨Only.refl _ _, isV.self _ _⟩ | (exact isRow.new _ _ _ _)
        refine owes_cons (fun wx hox => ?_) ?_
        · simp only [waits, withs, Region.binds, List.filter, List.map, List.getElem?_cons_zero, List.getElem?_cons_succ, Option.bind, Option.getD, List.range, List.range.loop, List.length]
          (refine all_isV ?_; rintro v ⟨gr, rfl, hbr⟩; replace hbr := Lib.hid hbr)
          go_simp
          exact grow_w (add1_w hbr (Lib.hid (HV7.out.only hox)) (WB.iv (Lib.hid (HL7.out.wb.step hox)) 1 rfl) HFS) hox
        refine owes_cons (fun wx hox => ?_) ?_
        · simp only [waits, withs, Region.binds, List.filter, List.map, List.getElem?_cons_zero, List.getElem?_cons_succ, Option.bind, Option.getD, List.range, List.range.loop, List.length]
          repeat (first | refine all_isV ?_ | (intro vx hx'; replace hx' := Lib.hid hx'))
          obtain ⟨t0, t1, -, -⟩ := WB.cells (Lib.hid (HL7.out.wb.step hox)) 1 rfl
          obtain ⟨t2, t3, -, -⟩ := WB.cells (Lib.hid (HL7.out.wb.step hox)) 0 rfl
          have t4 := (HB7.out.only hox (by simp)).cell 0
          have t5 := (HB7.out.only hox (by simp)).cell 1
          simp only [List.getElem?_cons_zero, List.getElem?_cons_succ] at t4 t5
          go_simp
          first | exact ⟨Only.refl _ _, isV.self _ _⟩ | (fail)
        refine owes_cons (fun wx hox => ?_) ?_
        · simp only [waits, withs, Region.binds, List.filter, List.map, List.getElem?_cons_zero, List.getElem?_cons_succ, Option.bind, Option.getD, List.range, List.range.loop, List.length]
          repeat (first | refine all_isV ?_ | (intro vx hx'; replace hx' := Lib.hid hx'))
          obtain ⟨t0, t1, -, -⟩ := WB.cells (Lib.hid (HL7.out.wb.step hox)) 1 rfl
          obtain ⟨t2, t3, -, -⟩ := WB.cells (Lib.hid (HL7.out.wb.step hox)) 0 rfl
          have t4 := (HB7.out.only hox (by simp)).cell 0
          have t5 := (HB7.out.only hox (by simp)).cell 1
          simp only [List.getElem?_cons_zero, List.getElem?_cons_succ] at t4 t5
          go_simp
          first | exact ⟨Only.refl _ _, isV.self _ _⟩ | (fail)
        refine owes_cons (fun wx hox => ?_) ?_
        · simp only [waits, withs, Region.binds, List.filter, List.map, List.getElem?_cons_zero, List.getElem?_cons_succ, Option.bind, Option.getD, List.range, List.range.loop, List.length]
          repeat (first | refine all_isV ?_ | (intro vx hx'; replace hx' := Lib.hid hx'))
          skip
          go_simp
          first | exact ⟨Only.refl _ _, isV.self _ _⟩ | (exact isRow.new _ _ _ _)
        refine owes_cons (fun wx hox => ?_) ?_
        · simp only [waits, withs, Region.binds, List.filter, List.map, List.getElem?_cons_zero, List.getElem?_cons_succ, Option.bind, Option.getD, List.range, List.range.loop, List.length]
          (refine all_isV ?_; rintro v ⟨gr, rfl, hbr⟩ _ -; replace hbr := Lib.hid hbr)
          go_simp
          exact grow_w (mul1_w hbr (Lib.hid (HV7.out.only hox)) (WB.iv (Lib.hid (HL7.out.wb.step hox)) 0 rfl) HFP) hox
        exact owes_nil
      case he =>
        simp only [List.drop_succ_cons, List.drop_zero]
        intro wx hox
        simp only [waits, withs, Region.binds, List.filter, List.map, List.getElem?_cons_zero, List.getElem?_cons_succ, Option.bind, Option.getD, List.range, List.range.loop, List.length]
        refine all_isV ?_
        refine all_isV ?_
        rintro r1 -
        rintro v1 ⟨sa, Aa, ka, ca, rfl, -, hra, hva⟩
        refine all_isV ?_
        refine all_isV ?_
        rintro r2 -
        rintro v2 ⟨sb, Ab, kb, cb, rfl, -, hrb, hvb⟩
        have HL8 := Lib.hid (HL7.out.step hox)
        have HFr : Hid (∀ g', (Value.slice (some ⟨g, 0, none⟩) (I.length + 1) cap).ownBlock = some g' → Far g' Aa ka ∧ Far g' Ab kb) := fun g' hg' => ⟨hra.far (HL7.out.row.lt g' hg'), hrb.far (HL7.out.row.lt g' hg')⟩
        have HVa := Lib.hid hva
        have HVb := Lib.hid hvb
        obtain ⟨t0, t1, tf0, tf1⟩ := WB.cells (Lib.hid HL8.out.wb) 1 rfl
        obtain ⟨t2, t3, tf2, tf3⟩ := WB.cells (Lib.hid HL8.out.wb) 0 rfl
        have hn1 : g9 ≠ g10 := HL8.out.ne.1
        have hn2 : g10 ≠ g9 := Ne.symm hn1
        clear hra hrb hva hvb hox
        go_simp
        go_wp2_with fail
        go_roundw
        case rel =>
          refine ⟨I ++ [⟨s5, A5, k5, c5, v⟩], some ⟨g, 0, none⟩, cap, sa, Aa, ka, ca, sb, Ab, kb, cb, by simp; omega, by simp, by simp only [List.length_append, List.length_singleton]; go_num, HSm7.out, ?_⟩
          rw [sumI_snoc, prodI_snoc]
          exact HL8.out.put HVa.out HVb.out HFr.out rfl
        case measure => simp [intOf]; omega
      case hl =>
        repeat (refine List.forall_mem_cons.2 ⟨?_, ?_⟩; first | exact isV.lasts _ | exact isNR.lasts _ _ | exact isWR.lasts _ _ | exact isRow.lasts _ _ _ | exact isPtr.lasts _ _ _)
        exact fun _ h => (by cases h)
    · have hnl : ¬ (I.length : Int) < (L.length : Int) := by omega
      have HFs := Lib.hid (few_sums HSx.out HSmr.out)
      have hIl : (I.length : Int) ≤ 1000000 := by have := HSmr.out.len; omega
      have HFp := Lib.hid (few_prods HSx.out HSmr.out)
      have HSy := Lib.hid (i64_le hb.out)
      have HFaa : Hid (Few (a - a).natAbs) := by rw [Int.sub_self]; exact few_small (by rw [BB_val]; decide)
      have HFab : Hid (Few (a - b).natAbs) := few_two (by have := HSx.out; have := HSy.out; omega)
      have HFba : Hid (Few (b - a).natAbs) := few_two (by have := HSx.out; have := HSy.out; omega)
      have HFm : Hid (Few (a * b).natAbs) := few_sq (by rw [Int.natAbs_mul]; exact Nat.mul_le_mul HSx.out HSy.out)
      obtain ⟨pa, hpa⟩ : ∃ p, a.sign = p := ⟨_, rfl⟩
      obtain ⟨pb, hpb⟩ : ∃ p, b.sign = p := ⟨_, rfl⟩
      obtain ⟨pq, hpq⟩ : ∃ p, (a * b).sign = p := ⟨_, rfl⟩
      have hsm : IntKind.i64.wrap (pa * pb) = pq := by
        have h1 := sign_range (a * b)
        rw [← hpa, ← hpb, ← Int.sign_mul, hpq]
        rw [hpq] at h1
        exact wrap_i64 (by omega)
      have HPa := Lib.hid hpa
      have HPb := Lib.hid hpb
      have HPq := Lib.hid hpq
      clear hpa hpb hpq
      obtain ⟨ar, cr, hue, hrd, -⟩ := HLCr.out.row.read
      injection hue with hue1 hue3 hue2
      clear hue3
      subst hue1 hue2
      have HRd := Lib.hid hrd
      have HE := Lib.hid HLCr.out.wb
      clear hlt hIL hrd
      go_upto_region 12 with fail
      apply wp_region_typed2 (by kernel_rfl) [isV _, isV _, isV _, isWR wr (sumI a I), isV _, isV _, isV _, isV _, isV _, isV _, isWR wr (prodI a I), isV _, isV _, isV _, isV _, isV _, isV _, isWR wr 0, isV _, isV _, isV _, isV _, isV _, isV _, isWR wr (a - b), isV _, isV _, isWR wr (b - a), isWR wr (a - b), isV _, isV _, isV _, isV _, isV _, isV _, isRow 27 1 [.bool s2, .slice A2 k2 c2], isWR wr (a * b), isV _, isV _, isV _, isV _, isV _, isV _, isV _, isV _] [[], [], [], [1, 2], [0, 3], [4], [5], [6], [6], [6], [6, 8, 9], [6, 7, 10], [6, 11], [6, 12], [13], [14], [14], [14, 15, 16], [14, 17], [14, 18], [14, 19], [20], [21], [21], [21, 22, 23], [21], [21], [21, 25, 26], [21, 27], [21, 24, 28], [21, 29], [21, 30], [31], [32], [32], [32, 34], [32, 33, 35], [32, 36], [32], [32, 38], [32], [32, 40], [32, 39, 41], [32, 37, 42], [32, 43]] (by kernel_rfl) (by kernel_rfl)
      case ho =>
        refine owes2_cons (fun wx hox => ?_) ?_
        · skip
          have hbw := Lib.hid (HE.out.step hox)
          obtain ⟨t0, t1, -, -⟩ := WB.cells hbw 0 rfl
          obtain ⟨t2, t3, -, -⟩ := WB.cells hbw 1 rfl
          obtain ⟨t4, t5, -, -⟩ := WB.cells hbw 2 rfl
          obtain ⟨t6, t7, -, -⟩ := WB.cells hbw 3 rfl
          have iv0 := WB.iv hbw 0 rfl
          have iv1 := WB.iv hbw 1 rfl
          have iv2 := WB.iv hbw 2 rfl
          have iv3 := WB.iv hbw 3 rfl
          clear hbw
          refine withs_plain rfl ?_
          simp only [withs, List.getElem?_cons_zero, List.getElem?_cons_succ, Option.bind, Option.getD]
          repeat (first | (with_reducible refine all_isV ?_) | (with_reducible refine all_isWR ?_; intro sx Ax kx cx hvx) | (with_reducible refine all_isRow ?_; intro gx' hbx) | (with_reducible refine all_isPtr ?_; intro gp' hbp hgp))
          go_simp
          exact ⟨Only.refl _ _, isV.self _ _⟩
        refine owes2_cons (fun wx hox => ?_) ?_
        · skip
          have hbw := Lib.hid (HE.out.step hox)
          obtain ⟨t0, t1, -, -⟩ := WB.cells hbw 0 rfl
          obtain ⟨t2, t3, -, -⟩ := WB.cells hbw 1 rfl
          obtain ⟨t4, t5, -, -⟩ := WB.cells hbw 2 rfl
          obtain ⟨t6, t7, -, -⟩ := WB.cells hbw 3 rfl
          have iv0 := WB.iv hbw 0 rfl
          have iv1 := WB.iv hbw 1 rfl
          have iv2 := WB.iv hbw 2 rfl
          have iv3 := WB.iv hbw 3 rfl
          clear hbw
          refine withs_plain rfl ?_
          simp only [withs, List.getElem?_cons_zero, List.getElem?_cons_succ, Option.bind, Option.getD]
          repeat (first | (with_reducible refine all_isV ?_) | (with_reducible refine all_isWR ?_; intro sx Ax kx cx hvx) | (with_reducible refine all_isRow ?_; intro gx' hbx) | (with_reducible refine all_isPtr ?_; intro gp' hbp hgp))
          go_simp
          exact ⟨Only.refl _ _, isV.self _ _⟩
        refine owes2_cons (fun wx hox => ?_) ?_
        · skip
          skip
          refine withs_plain rfl ?_
          simp only [withs, List.getElem?_cons_zero, List.getElem?_cons_succ, Option.bind, Option.getD]
          repeat (first | (with_reducible refine all_isV ?_) | (with_reducible refine all_isWR ?_; intro sx Ax kx cx hvx) | (with_reducible refine all_isRow ?_; intro gx' hbx) | (with_reducible refine all_isPtr ?_; intro gp' hbp hgp))
          go_simp
          exact ⟨Only.refl _ _, isV.self _ _⟩
        refine owes2_cons (fun wx hox => ?_) ?_
        · skip
          have hbw := Lib.hid (HE.out.step hox)
          obtain ⟨t0, t1, -, -⟩ := WB.cells hbw 0 rfl
          obtain ⟨t2, t3, -, -⟩ := WB.cells hbw 1 rfl
          obtain ⟨t4, t5, -, -⟩ := WB.cells hbw 2 rfl
          obtain ⟨t6, t7, -, -⟩ := WB.cells hbw 3 rfl
          have iv0 := WB.iv hbw 0 rfl
          have iv1 := WB.iv hbw 1 rfl
          have iv2 := WB.iv hbw 2 rfl
          have iv3 := WB.iv hbw 3 rfl
          clear hbw
          refine withs_plain rfl ?_
          simp only [withs, List.getElem?_cons_zero, List.getElem?_cons_succ, Option.bind, Option.getD]
          repeat (first | (with_reducible refine all_isV ?_) | (with_reducible refine all_isWR ?_; intro sx Ax kx cx hvx) | (with_reducible refine all_isRow ?_; intro gx' hbx) | (with_reducible refine all_isPtr ?_; intro gp' hbp hgp))
          go_simp
          (with_reducible exact grow_w (add_w _ _ I (by assumption) (Lib.hid (HRd.out.only hox)) hIl HFs) hox)
        refine owes2_cons (fun wx hox => ?_) ?_
        · skip
          have hbw := Lib.hid (HE.out.step hox)
          obtain ⟨t0, t1, -, -⟩ := WB.cells hbw 0 rfl
          obtain ⟨t2, t3, -, -⟩ := WB.cells hbw 1 rfl
          obtain ⟨t4, t5, -, -⟩ := WB.cells hbw 2 rfl
          obtain ⟨t6, t7, -, -⟩ := WB.cells hbw 3 rfl
          have iv0 := WB.iv hbw 0 rfl
          have iv1 := WB.iv hbw 1 rfl
          have iv2 := WB.iv hbw 2 rfl
          have iv3 := WB.iv hbw 3 rfl
          clear hbw
          refine withs_plain rfl ?_
          simp only [withs, List.getElem?_cons_zero, List.getElem?_cons_succ, Option.bind, Option.getD]
          repeat (first | (with_reducible refine all_isV ?_) | (with_reducible refine all_isWR ?_; intro sx Ax kx cx hvx) | (with_reducible refine all_isRow ?_; intro gx' hbx) | (with_reducible refine all_isPtr ?_; intro gp' hbp hgp))
          go_simp
          (with_reducible exact grow_of (cmpV_w (x := sumI a I) (y := sumI a I) 0 (by assumption) (by assumption) (cmpI_eq rfl)))
        refine owes2_cons (fun wx hox => ?_) ?_
        · skip
          skip
          refine withs_plain rfl ?_
          simp only [withs, List.getElem?_cons_zero, List.getElem?_cons_succ, Option.bind, Option.getD]
          repeat (first | (with_reducible refine all_isV ?_) | (with_reducible refine all_isWR ?_; intro sx Ax kx cx hvx) | (with_reducible refine all_isRow ?_; intro gx' hbx) | (with_reducible refine all_isPtr ?_; intro gp' hbp hgp))
          go_simp
          exact ⟨Only.refl _ _, isV.self _ _⟩
        refine owes2_cons (fun wx hox => ?_) ?_
        · skip
          skip
          refine withs_plain rfl ?_
          simp only [withs, List.getElem?_cons_zero, List.getElem?_cons_succ, Option.bind, Option.getD]
          repeat (first | (with_reducible refine all_isV ?_) | (with_reducible refine all_isWR ?_; intro sx Ax kx cx hvx) | (with_reducible refine all_isRow ?_; intro gx' hbx) | (with_reducible refine all_isPtr ?_; intro gp' hbp hgp))
          go_simp
          exact ⟨Only.refl _ _, isV.self _ _⟩
        refine owes2_cons (fun wx hox => ?_) ?_
        · skip
          have hbw := Lib.hid (HE.out.step hox)
          obtain ⟨t0, t1, -, -⟩ := WB.cells hbw 0 rfl
          obtain ⟨t2, t3, -, -⟩ := WB.cells hbw 1 rfl
          obtain ⟨t4, t5, -, -⟩ := WB.cells hbw 2 rfl
          obtain ⟨t6, t7, -, -⟩ := WB.cells hbw 3 rfl
          have iv0 := WB.iv hbw 0 rfl
          have iv1 := WB.iv hbw 1 rfl
          have iv2 := WB.iv hbw 2 rfl
          have iv3 := WB.iv hbw 3 rfl
          clear hbw
          refine withs_guard rfl rfl ?_
          simp only [withs, List.getElem?_cons_zero, List.getElem?_cons_succ, Option.bind, Option.getD]
          repeat (first | (with_reducible refine all_isV ?_) | (with_reducible refine all_isWR ?_; intro sx Ax kx cx hvx) | (with_reducible refine all_isRow ?_; intro gx' hbx) | (with_reducible refine all_isPtr ?_; intro gp' hbp hgp))
          refine ⟨by kernel_rfl, ?_⟩
          go_simp
          exact ⟨Only.refl _ _, isV.self _ _⟩
        refine owes2_cons (fun wx hox => ?_) ?_
        · skip
          have hbw := Lib.hid (HE.out.step hox)
          obtain ⟨t0, t1, -, -⟩ := WB.cells hbw 0 rfl
          obtain ⟨t2, t3, -, -⟩ := WB.cells hbw 1 rfl
          obtain ⟨t4, t5, -, -⟩ := WB.cells hbw 2 rfl
          obtain ⟨t6, t7, -, -⟩ := WB.cells hbw 3 rfl
          have iv0 := WB.iv hbw 0 rfl
          have iv1 := WB.iv hbw 1 rfl
          have iv2 := WB.iv hbw 2 rfl
          have iv3 := WB.iv hbw 3 rfl
          clear hbw
          refine withs_guard rfl rfl ?_
          simp only [withs, List.getElem?_cons_zero, List.getElem?_cons_succ, Option.bind, Option.getD]
          repeat (first | (with_reducible refine all_isV ?_) | (with_reducible refine all_isWR ?_; intro sx Ax kx cx hvx) | (with_reducible refine all_isRow ?_; intro gx' hbx) | (with_reducible refine all_isPtr ?_; intro gp' hbp hgp))
          refine ⟨by kernel_rfl, ?_⟩
          go_simp
          exact ⟨Only.refl _ _, isV.self _ _⟩
        refine owes2_cons (fun wx hox => ?_) ?_
        · skip
          skip
          refine withs_guard rfl rfl ?_
          simp only [withs, List.getElem?_cons_zero, List.getElem?_cons_succ, Option.bind, Option.getD]
          repeat (first | (with_reducible refine all_isV ?_) | (with_reducible refine all_isWR ?_; intro sx Ax kx cx hvx) | (with_reducible refine all_isRow ?_; intro gx' hbx) | (with_reducible refine all_isPtr ?_; intro gp' hbp hgp))
          refine ⟨by kernel_rfl, ?_⟩
          go_simp
          exact ⟨Only.refl _ _, isV.self _ _⟩
        refine owes2_cons (fun wx hox => ?_) ?_
        · skip
          have hbw := Lib.hid (HE.out.step hox)
          obtain ⟨t0, t1, -, -⟩ := WB.cells hbw 0 rfl
          obtain ⟨t2, t3, -, -⟩ := WB.cells hbw 1 rfl
          obtain ⟨t4, t5, -, -⟩ := WB.cells hbw 2 rfl
          obtain ⟨t6, t7, -, -⟩ := WB.cells hbw 3 rfl
          have iv0 := WB.iv hbw 0 rfl
          have iv1 := WB.iv hbw 1 rfl
          have iv2 := WB.iv hbw 2 rfl
          have iv3 := WB.iv hbw 3 rfl
          clear hbw
          refine withs_guard rfl rfl ?_
          simp only [withs, List.getElem?_cons_zero, List.getElem?_cons_succ, Option.bind, Option.getD]
          repeat (first | (with_reducible refine all_isV ?_) | (with_reducible refine all_isWR ?_; intro sx Ax kx cx hvx) | (with_reducible refine all_isRow ?_; intro gx' hbx) | (with_reducible refine all_isPtr ?_; intro gp' hbp hgp))
          refine ⟨by kernel_rfl, ?_⟩
          go_simp
          (with_reducible exact grow_w (mul_w _ _ I (by assumption) (Lib.hid (HRd.out.only hox)) hIl HFp) hox)
        refine owes2_cons (fun wx hox => ?_) ?_
        · skip
          have hbw := Lib.hid (HE.out.step hox)
          obtain ⟨t0, t1, -, -⟩ := WB.cells hbw 0 rfl
          obtain ⟨t2, t3, -, -⟩ := WB.cells hbw 1 rfl
          obtain ⟨t4, t5, -, -⟩ := WB.cells hbw 2 rfl
          obtain ⟨t6, t7, -, -⟩ := WB.cells hbw 3 rfl
          have iv0 := WB.iv hbw 0 rfl
          have iv1 := WB.iv hbw 1 rfl
          have iv2 := WB.iv hbw 2 rfl
          have iv3 := WB.iv hbw 3 rfl
          clear hbw
          refine withs_guard rfl rfl ?_
          simp only [withs, List.getElem?_cons_zero, List.getElem?_cons_succ, Option.bind, Option.getD]
          repeat (first | (with_reducible refine all_isV ?_) | (with_reducible refine all_isWR ?_; intro sx Ax kx cx hvx) | (with_reducible refine all_isRow ?_; intro gx' hbx) | (with_reducible refine all_isPtr ?_; intro gp' hbp hgp))
          refine ⟨by kernel_rfl, ?_⟩
          go_simp
          (with_reducible exact grow_of (cmpV_w (x := prodI a I) (y := prodI a I) 0 (by assumption) (by assumption) (cmpI_eq rfl)))
        refine owes2_cons (fun wx hox => ?_) ?_
        · skip
          skip
          refine withs_guard rfl rfl ?_
          simp only [withs, List.getElem?_cons_zero, List.getElem?_cons_succ, Option.bind, Option.getD]
          repeat (first | (with_reducible refine all_isV ?_) | (with_reducible refine all_isWR ?_; intro sx Ax kx cx hvx) | (with_reducible refine all_isRow ?_; intro gx' hbx) | (with_reducible refine all_isPtr ?_; intro gp' hbp hgp))
          refine ⟨by kernel_rfl, ?_⟩
          go_simp
          exact ⟨Only.refl _ _, isV.self _ _⟩
        refine owes2_cons (fun wx hox => ?_) ?_
        · skip
          skip
          refine withs_plain rfl ?_
          simp only [withs, List.getElem?_cons_zero, List.getElem?_cons_succ, Option.bind, Option.getD]
          repeat (first | (with_reducible refine all_isV ?_) | (with_reducible refine all_isWR ?_; intro sx Ax kx cx hvx) | (with_reducible refine all_isRow ?_; intro gx' hbx) | (with_reducible refine all_isPtr ?_; intro gp' hbp hgp))
          go_simp
          exact ⟨Only.refl _ _, isV.self _ _⟩
        refine owes2_cons (fun wx hox => ?_) ?_
        · skip
          skip
          refine withs_plain rfl ?_
          simp only [withs, List.getElem?_cons_zero, List.getElem?_cons_succ, Option.bind, Option.getD]
          repeat (first | (with_reducible refine all_isV ?_) | (with_reducible refine all_isWR ?_; intro sx Ax kx cx hvx) | (with_reducible refine all_isRow ?_; intro gx' hbx) | (with_reducible refine all_isPtr ?_; intro gp' hbp hgp))
          go_simp
          exact ⟨Only.refl _ _, isV.self _ _⟩
        refine owes2_cons (fun wx hox => ?_) ?_
        · skip
          have hbw := Lib.hid (HE.out.step hox)
          obtain ⟨t0, t1, -, -⟩ := WB.cells hbw 0 rfl
          obtain ⟨t2, t3, -, -⟩ := WB.cells hbw 1 rfl
          obtain ⟨t4, t5, -, -⟩ := WB.cells hbw 2 rfl
          obtain ⟨t6, t7, -, -⟩ := WB.cells hbw 3 rfl
          have iv0 := WB.iv hbw 0 rfl
          have iv1 := WB.iv hbw 1 rfl
          have iv2 := WB.iv hbw 2 rfl
          have iv3 := WB.iv hbw 3 rfl
          clear hbw
          refine withs_guard rfl rfl ?_
          simp only [withs, List.getElem?_cons_zero, List.getElem?_cons_succ, Option.bind, Option.getD]
          repeat (first | (with_reducible refine all_isV ?_) | (with_reducible refine all_isWR ?_; intro sx Ax kx cx hvx) | (with_reducible refine all_isRow ?_; intro gx' hbx) | (with_reducible refine all_isPtr ?_; intro gp' hbp hgp))
          refine ⟨by kernel_rfl, ?_⟩
          go_simp
          exact ⟨Only.refl _ _, isV.self _ _⟩
        refine owes2_cons (fun wx hox => ?_) ?_
        · skip
          have hbw := Lib.hid (HE.out.step hox)
          obtain ⟨t0, t1, -, -⟩ := WB.cells hbw 0 rfl
          obtain ⟨t2, t3, -, -⟩ := WB.cells hbw 1 rfl
          obtain ⟨t4, t5, -, -⟩ := WB.cells hbw 2 rfl
          obtain ⟨t6, t7, -, -⟩ := WB.cells hbw 3 rfl
          have iv0 := WB.iv hbw 0 rfl
          have iv1 := WB.iv hbw 1 rfl
          have iv2 := WB.iv hbw 2 rfl
          have iv3 := WB.iv hbw 3 rfl
          clear hbw
          refine withs_guard rfl rfl ?_
          simp only [withs, List.getElem?_cons_zero, List.getElem?_cons_succ, Option.bind, Option.getD]
          repeat (first | (with_reducible refine all_isV ?_) | (with_reducible refine all_isWR ?_; intro sx Ax kx cx hvx) | (with_reducible refine all_isRow ?_; intro gx' hbx) | (with_reducible refine all_isPtr ?_; intro gp' hbp hgp))
          refine ⟨by kernel_rfl, ?_⟩
          go_simp
          exact ⟨Only.refl _ _, isV.self _ _⟩
        refine owes2_cons (fun wx hox => ?_) ?_
        · skip
          have hbw := Lib.hid (HE.out.step hox)
          obtain ⟨t0, t1, -, -⟩ := WB.cells hbw 0 rfl
          obtain ⟨t2, t3, -, -⟩ := WB.cells hbw 1 rfl
          obtain ⟨t4, t5, -, -⟩ := WB.cells hbw 2 rfl
          obtain ⟨t6, t7, -, -⟩ := WB.cells hbw 3 rfl
          have iv0 := WB.iv hbw 0 rfl
          have iv1 := WB.iv hbw 1 rfl
          have iv2 := WB.iv hbw 2 rfl
          have iv3 := WB.iv hbw 3 rfl
          clear hbw
          refine withs_guard rfl rfl ?_
          simp only [withs, List.getElem?_cons_zero, List.getElem?_cons_succ, Option.bind, Option.getD]
          repeat (first | (with_reducible refine all_isV ?_) | (with_reducible refine all_isWR ?_; intro sx Ax kx cx hvx) | (with_reducible refine all_isRow ?_; intro gx' hbx) | (with_reducible refine all_isPtr ?_; intro gp' hbp hgp))
          refine ⟨by kernel_rfl, ?_⟩
          go_simp
          (have hq := sub_w (w := wx) (x := a) (y := a) iv3 iv3 HFaa; rw [Int.sub_self] at hq; with_reducible exact grow_w hq hox)
        refine owes2_cons (fun wx hox => ?_) ?_
        · skip
          have hbw := Lib.hid (HE.out.step hox)
          obtain ⟨t0, t1, -, -⟩ := WB.cells hbw 0 rfl
          obtain ⟨t2, t3, -, -⟩ := WB.cells hbw 1 rfl
          obtain ⟨t4, t5, -, -⟩ := WB.cells hbw 2 rfl
          obtain ⟨t6, t7, -, -⟩ := WB.cells hbw 3 rfl
          have iv0 := WB.iv hbw 0 rfl
          have iv1 := WB.iv hbw 1 rfl
          have iv2 := WB.iv hbw 2 rfl
          have iv3 := WB.iv hbw 3 rfl
          clear hbw
          refine withs_guard rfl rfl ?_
          simp only [withs, List.getElem?_cons_zero, List.getElem?_cons_succ, Option.bind, Option.getD]
          repeat (first | (with_reducible refine all_isV ?_) | (with_reducible refine all_isWR ?_; intro sx Ax kx cx hvx) | (with_reducible refine all_isRow ?_; intro gx' hbx) | (with_reducible refine all_isPtr ?_; intro gp' hbp hgp))
          refine ⟨by kernel_rfl, ?_⟩
          go_simp
          (with_reducible exact grow_of (signV_w (z := 0) 0 (by assumption) Int.sign_zero))
        refine owes2_cons (fun wx hox => ?_) ?_
        · skip
          skip
          refine withs_guard rfl rfl ?_
          simp only [withs, List.getElem?_cons_zero, List.getElem?_cons_succ, Option.bind, Option.getD]
          repeat (first | (with_reducible refine all_isV ?_) | (with_reducible refine all_isWR ?_; intro sx Ax kx cx hvx) | (with_reducible refine all_isRow ?_; intro gx' hbx) | (with_reducible refine all_isPtr ?_; intro gp' hbp hgp))
          refine ⟨by kernel_rfl, ?_⟩
          go_simp
          exact ⟨Only.refl _ _, isV.self _ _⟩
        refine owes2_cons (fun wx hox => ?_) ?_
        · skip
          skip
          refine withs_plain rfl ?_
          simp only [withs, List.getElem?_cons_zero, List.getElem?_cons_succ, Option.bind, Option.getD]
          repeat (first | (with_reducible refine all_isV ?_) | (with_reducible refine all_isWR ?_; intro sx Ax kx cx hvx) | (with_reducible refine all_isRow ?_; intro gx' hbx) | (with_reducible refine all_isPtr ?_; intro gp' hbp hgp))
          go_simp
          exact ⟨Only.refl _ _, isV.self _ _⟩
        refine owes2_cons (fun wx hox => ?_) ?_
        · skip
          skip
          refine withs_plain rfl ?_
          simp only [withs, List.getElem?_cons_zero, List.getElem?_cons_succ, Option.bind, Option.getD]
          repeat (first | (with_reducible refine all_isV ?_) | (with_reducible refine all_isWR ?_; intro sx Ax kx cx hvx) | (with_reducible refine all_isRow ?_; intro gx' hbx) | (with_reducible refine all_isPtr ?_; intro gp' hbp hgp))
          go_simp
          exact ⟨Only.refl _ _, isV.self _ _⟩
        refine owes2_cons (fun wx hox => ?_) ?_
        · skip
          have hbw := Lib.hid (HE.out.step hox)
          obtain ⟨t0, t1, -, -⟩ := WB.cells hbw 0 rfl
          obtain ⟨t2, t3, -, -⟩ := WB.cells hbw 1 rfl
          obtain ⟨t4, t5, -, -⟩ := WB.cells hbw 2 rfl
          obtain ⟨t6, t7, -, -⟩ := WB.cells hbw 3 rfl
          have iv0 := WB.iv hbw 0 rfl
          have iv1 := WB.iv hbw 1 rfl
          have iv2 := WB.iv hbw 2 rfl
          have iv3 := WB.iv hbw 3 rfl
          clear hbw
          refine withs_guard rfl rfl ?_
          simp only [withs, List.getElem?_cons_zero, List.getElem?_cons_succ, Option.bind, Option.getD]
          repeat (first | (with_reducible refine all_isV ?_) | (with_reducible refine all_isWR ?_; intro sx Ax kx cx hvx) | (with_reducible refine all_isRow ?_; intro gx' hbx) | (with_reducible refine all_isPtr ?_; intro gp' hbp hgp))
          refine ⟨by kernel_rfl, ?_⟩
          go_simp
          exact ⟨Only.refl _ _, isV.self _ _⟩
        refine owes2_cons (fun wx hox => ?_) ?_
        · skip
          have hbw := Lib.hid (HE.out.step hox)
          obtain ⟨t0, t1, -, -⟩ := WB.cells hbw 0 rfl
          obtain ⟨t2, t3, -, -⟩ := WB.cells hbw 1 rfl
          obtain ⟨t4, t5, -, -⟩ := WB.cells hbw 2 rfl
          obtain ⟨t6, t7, -, -⟩ := WB.cells hbw 3 rfl
          have iv0 := WB.iv hbw 0 rfl
          have iv1 := WB.iv hbw 1 rfl
          have iv2 := WB.iv hbw 2 rfl
          have iv3 := WB.iv hbw 3 rfl
          clear hbw
          refine withs_guard rfl rfl ?_
          simp only [withs, List.getElem?_cons_zero, List.getElem?_cons_succ, Option.bind, Option.getD]
          repeat (first | (with_reducible refine all_isV ?_) | (with_reducible refine all_isWR ?_; intro sx Ax kx cx hvx) | (with_reducible refine all_isRow ?_; intro gx' hbx) | (with_reducible refine all_isPtr ?_; intro gp' hbp hgp))
          refine ⟨by kernel_rfl, ?_⟩
          go_simp
          exact ⟨Only.refl _ _, isV.self _ _⟩
        refine owes2_cons (fun wx hox => ?_) ?_
        · skip
          have hbw := Lib.hid (HE.out.step hox)
          obtain ⟨t0, t1, -, -⟩ := WB.cells hbw 0 rfl
          obtain ⟨t2, t3, -, -⟩ := WB.cells hbw 1 rfl
          obtain ⟨t4, t5, -, -⟩ := WB.cells hbw 2 rfl
          obtain ⟨t6, t7, -, -⟩ := WB.cells hbw 3 rfl
          have iv0 := WB.iv hbw 0 rfl
          have iv1 := WB.iv hbw 1 rfl
          have iv2 := WB.iv hbw 2 rfl
          have iv3 := WB.iv hbw 3 rfl
          clear hbw
          refine withs_guard rfl rfl ?_
          simp only [withs, List.getElem?_cons_zero, List.getElem?_cons_succ, Option.bind, Option.getD]
          repeat (first | (with_reducible refine all_isV ?_) | (with_reducible refine all_isWR ?_; intro sx Ax kx cx hvx) | (with_reducible refine all_isRow ?_; intro gx' hbx) | (with_reducible refine all_isPtr ?_; intro gp' hbp hgp))
          refine ⟨by kernel_rfl, ?_⟩
          go_simp
          (with_reducible exact grow_w (sub_w (by assumption) (by assumption) HFab) hox)
        refine owes2_cons (fun wx hox => ?_) ?_
        · skip
          have hbw := Lib.hid (HE.out.step hox)
          obtain ⟨t0, t1, -, -⟩ := WB.cells hbw 0 rfl
          obtain ⟨t2, t3, -, -⟩ := WB.cells hbw 1 rfl
          obtain ⟨t4, t5, -, -⟩ := WB.cells hbw 2 rfl
          obtain ⟨t6, t7, -, -⟩ := WB.cells hbw 3 rfl
          have iv0 := WB.iv hbw 0 rfl
          have iv1 := WB.iv hbw 1 rfl
          have iv2 := WB.iv hbw 2 rfl
          have iv3 := WB.iv hbw 3 rfl
          clear hbw
          refine withs_guard rfl rfl ?_
          simp only [withs, List.getElem?_cons_zero, List.getElem?_cons_succ, Option.bind, Option.getD]
          repeat (first | (with_reducible refine all_isV ?_) | (with_reducible refine all_isWR ?_; intro sx Ax kx cx hvx) | (with_reducible refine all_isRow ?_; intro gx' hbx) | (with_reducible refine all_isPtr ?_; intro gp' hbp hgp))
          refine ⟨by kernel_rfl, ?_⟩
          go_simp
          exact ⟨Only.refl _ _, isV.self _ _⟩
        refine owes2_cons (fun wx hox => ?_) ?_
        · skip
          have hbw := Lib.hid (HE.out.step hox)
          obtain ⟨t0, t1, -, -⟩ := WB.cells hbw 0 rfl
          obtain ⟨t2, t3, -, -⟩ := WB.cells hbw 1 rfl
          obtain ⟨t4, t5, -, -⟩ := WB.cells hbw 2 rfl
          obtain ⟨t6, t7, -, -⟩ := WB.cells hbw 3 rfl
          have iv0 := WB.iv hbw 0 rfl
          have iv1 := WB.iv hbw 1 rfl
          have iv2 := WB.iv hbw 2 rfl
          have iv3 := WB.iv hbw 3 rfl
          clear hbw
          refine withs_guard rfl rfl ?_
          simp only [withs, List.getElem?_cons_zero, List.getElem?_cons_succ, Option.bind, Option.getD]
          repeat (first | (with_reducible refine all_isV ?_) | (with_reducible refine all_isWR ?_; intro sx Ax kx cx hvx) | (with_reducible refine all_isRow ?_; intro gx' hbx) | (with_reducible refine all_isPtr ?_; intro gp' hbp hgp))
          refine ⟨by kernel_rfl, ?_⟩
          go_simp
          exact ⟨Only.refl _ _, isV.self _ _⟩
        refine owes2_cons (fun wx hox => ?_) ?_
        · skip
          have hbw := Lib.hid (HE.out.step hox)
          obtain ⟨t0, t1, -, -⟩ := WB.cells hbw 0 rfl
          obtain ⟨t2, t3, -, -⟩ := WB.cells hbw 1 rfl
          obtain ⟨t4, t5, -, -⟩ := WB.cells hbw 2 rfl
          obtain ⟨t6, t7, -, -⟩ := WB.cells hbw 3 rfl
          have iv0 := WB.iv hbw 0 rfl
          have iv1 := WB.iv hbw 1 rfl
          have iv2 := WB.iv hbw 2 rfl
          have iv3 := WB.iv hbw 3 rfl
          clear hbw
          refine withs_guard rfl rfl ?_
          simp only [withs, List.getElem?_cons_zero, List.getElem?_cons_succ, Option.bind, Option.getD]
          repeat (first | (with_reducible refine all_isV ?_) | (with_reducible refine all_isWR ?_; intro sx Ax kx cx hvx) | (with_reducible refine all_isRow ?_; intro gx' hbx) | (with_reducible refine all_isPtr ?_; intro gp' hbp hgp))
          refine ⟨by kernel_rfl, ?_⟩
          go_simp
          (with_reducible exact grow_w (sub_w (by assumption) (by assumption) HFba) hox)
        refine owes2_cons (fun wx hox => ?_) ?_
        · skip
          have hbw := Lib.hid (HE.out.step hox)
          obtain ⟨t0, t1, -, -⟩ := WB.cells hbw 0 rfl
          obtain ⟨t2, t3, -, -⟩ := WB.cells hbw 1 rfl
          obtain ⟨t4, t5, -, -⟩ := WB.cells hbw 2 rfl
          obtain ⟨t6, t7, -, -⟩ := WB.cells hbw 3 rfl
          have iv0 := WB.iv hbw 0 rfl
          have iv1 := WB.iv hbw 1 rfl
          have iv2 := WB.iv hbw 2 rfl
          have iv3 := WB.iv hbw 3 rfl
          clear hbw
          refine withs_guard rfl rfl ?_
          simp only [withs, List.getElem?_cons_zero, List.getElem?_cons_succ, Option.bind, Option.getD]
          repeat (first | (with_reducible refine all_isV ?_) | (with_reducible refine all_isWR ?_; intro sx Ax kx cx hvx) | (with_reducible refine all_isRow ?_; intro gx' hbx) | (with_reducible refine all_isPtr ?_; intro gp' hbp hgp))
          refine ⟨by kernel_rfl, ?_⟩
          go_simp
          (have hq := not_w (w := wx) (z := b - a) hvx; rw [Int.neg_sub] at hq; with_reducible exact grow_w hq hox)
        refine owes2_cons (fun wx hox => ?_) ?_
        · skip
          have hbw := Lib.hid (HE.out.step hox)
          obtain ⟨t0, t1, -, -⟩ := WB.cells hbw 0 rfl
          obtain ⟨t2, t3, -, -⟩ := WB.cells hbw 1 rfl
          obtain ⟨t4, t5, -, -⟩ := WB.cells hbw 2 rfl
          obtain ⟨t6, t7, -, -⟩ := WB.cells hbw 3 rfl
          have iv0 := WB.iv hbw 0 rfl
          have iv1 := WB.iv hbw 1 rfl
          have iv2 := WB.iv hbw 2 rfl
          have iv3 := WB.iv hbw 3 rfl
          clear hbw
          refine withs_guard rfl rfl ?_
          simp only [withs, List.getElem?_cons_zero, List.getElem?_cons_succ, Option.bind, Option.getD]
          repeat (first | (with_reducible refine all_isV ?_) | (with_reducible refine all_isWR ?_; intro sx Ax kx cx hvx) | (with_reducible refine all_isRow ?_; intro gx' hbx) | (with_reducible refine all_isPtr ?_; intro gp' hbp hgp))
          refine ⟨by kernel_rfl, ?_⟩
          go_simp
          (with_reducible exact grow_of (cmpV_w (x := a - b) (y := a - b) 0 (by assumption) (by assumption) (cmpI_eq rfl)))
        refine owes2_cons (fun wx hox => ?_) ?_
        · skip
          skip
          refine withs_guard rfl rfl ?_
          simp only [withs, List.getElem?_cons_zero, List.getElem?_cons_succ, Option.bind, Option.getD]
          repeat (first | (with_reducible refine all_isV ?_) | (with_reducible refine all_isWR ?_; intro sx Ax kx cx hvx) | (with_reducible refine all_isRow ?_; intro gx' hbx) | (with_reducible refine all_isPtr ?_; intro gp' hbp hgp))
          refine ⟨by kernel_rfl, ?_⟩
          go_simp
          exact ⟨Only.refl _ _, isV.self _ _⟩
        refine owes2_cons (fun wx hox => ?_) ?_
        · skip
          skip
          refine withs_plain rfl ?_
          simp only [withs, List.getElem?_cons_zero, List.getElem?_cons_succ, Option.bind, Option.getD]
          repeat (first | (with_reducible refine all_isV ?_) | (with_reducible refine all_isWR ?_; intro sx Ax kx cx hvx) | (with_reducible refine all_isRow ?_; intro gx' hbx) | (with_reducible refine all_isPtr ?_; intro gp' hbp hgp))
          go_simp
          exact ⟨Only.refl _ _, isV.self _ _⟩
        refine owes2_cons (fun wx hox => ?_) ?_
        · skip
          skip
          refine withs_plain rfl ?_
          simp only [withs, List.getElem?_cons_zero, List.getElem?_cons_succ, Option.bind, Option.getD]
          repeat (first | (with_reducible refine all_isV ?_) | (with_reducible refine all_isWR ?_; intro sx Ax kx cx hvx) | (with_reducible refine all_isRow ?_; intro gx' hbx) | (with_reducible refine all_isPtr ?_; intro gp' hbp hgp))
          go_simp
          exact ⟨Only.refl _ _, isV.self _ _⟩
        refine owes2_cons (fun wx hox => ?_) ?_
        · skip
          have hbw := Lib.hid (HE.out.step hox)
          obtain ⟨t0, t1, -, -⟩ := WB.cells hbw 0 rfl
          obtain ⟨t2, t3, -, -⟩ := WB.cells hbw 1 rfl
          obtain ⟨t4, t5, -, -⟩ := WB.cells hbw 2 rfl
          obtain ⟨t6, t7, -, -⟩ := WB.cells hbw 3 rfl
          have iv0 := WB.iv hbw 0 rfl
          have iv1 := WB.iv hbw 1 rfl
          have iv2 := WB.iv hbw 2 rfl
          have iv3 := WB.iv hbw 3 rfl
          clear hbw
          refine withs_guard rfl rfl ?_
          simp only [withs, List.getElem?_cons_zero, List.getElem?_cons_succ, Option.bind, Option.getD]
          repeat (first | (with_reducible refine all_isV ?_) | (with_reducible refine all_isWR ?_; intro sx Ax kx cx hvx) | (with_reducible refine all_isRow ?_; intro gx' hbx) | (with_reducible refine all_isPtr ?_; intro gp' hbp hgp))
          refine ⟨by kernel_rfl, ?_⟩
          go_simp
          exact ⟨Only.refl _ _, isV.self _ _⟩
        refine owes2_cons (fun wx hox => ?_) ?_
        · skip
          have hbw := Lib.hid (HE.out.step hox)
          obtain ⟨t0, t1, -, -⟩ := WB.cells hbw 0 rfl
          obtain ⟨t2, t3, -, -⟩ := WB.cells hbw 1 rfl
          obtain ⟨t4, t5, -, -⟩ := WB.cells hbw 2 rfl
          obtain ⟨t6, t7, -, -⟩ := WB.cells hbw 3 rfl
          have iv0 := WB.iv hbw 0 rfl
          have iv1 := WB.iv hbw 1 rfl
          have iv2 := WB.iv hbw 2 rfl
          have iv3 := WB.iv hbw 3 rfl
          clear hbw
          refine withs_guard rfl rfl ?_
          simp only [withs, List.getElem?_cons_zero, List.getElem?_cons_succ, Option.bind, Option.getD]
          repeat (first | (with_reducible refine all_isV ?_) | (with_reducible refine all_isWR ?_; intro sx Ax kx cx hvx) | (with_reducible refine all_isRow ?_; intro gx' hbx) | (with_reducible refine all_isPtr ?_; intro gp' hbp hgp))
          refine ⟨by kernel_rfl, ?_⟩
          go_simp
          exact ⟨Only.refl _ _, isV.self _ _⟩
        refine owes2_cons (fun wx hox => ?_) ?_
        · skip
          skip
          refine withs_guard rfl rfl ?_
          simp only [withs, List.getElem?_cons_zero, List.getElem?_cons_succ, Option.bind, Option.getD]
          repeat (first | (with_reducible refine all_isV ?_) | (with_reducible refine all_isWR ?_; intro sx Ax kx cx hvx) | (with_reducible refine all_isRow ?_; intro gx' hbx) | (with_reducible refine all_isPtr ?_; intro gp' hbp hgp))
          refine ⟨by kernel_rfl, ?_⟩
          go_simp
          (exact isRow.new _ _ _ _)
        refine owes2_cons (fun wx hox => ?_) ?_
        · skip
          have hbw := Lib.hid (HE.out.step hox)
          obtain ⟨t0, t1, -, -⟩ := WB.cells hbw 0 rfl
          obtain ⟨t2, t3, -, -⟩ := WB.cells hbw 1 rfl
          obtain ⟨t4, t5, -, -⟩ := WB.cells hbw 2 rfl
          obtain ⟨t6, t7, -, -⟩ := WB.cells hbw 3 rfl
          have iv0 := WB.iv hbw 0 rfl
          have iv1 := WB.iv hbw 1 rfl
          have iv2 := WB.iv hbw 2 rfl
          have iv3 := WB.iv hbw 3 rfl
          clear hbw
          refine withs_guard rfl rfl ?_
          simp only [withs, List.getElem?_cons_zero, List.getElem?_cons_succ, Option.bind, Option.getD]
          repeat (first | (with_reducible refine all_isV ?_) | (with_reducible refine all_isWR ?_; intro sx Ax kx cx hvx) | (with_reducible refine all_isRow ?_; intro gx' hbx) | (with_reducible refine all_isPtr ?_; intro gp' hbp hgp))
          refine ⟨by kernel_rfl, ?_⟩
          go_simp
          (with_reducible exact grow_w (mul1_w (by assumption) (by assumption) (by assumption) HFm) hox)
        refine owes2_cons (fun wx hox => ?_) ?_
        · skip
          have hbw := Lib.hid (HE.out.step hox)
          obtain ⟨t0, t1, -, -⟩ := WB.cells hbw 0 rfl
          obtain ⟨t2, t3, -, -⟩ := WB.cells hbw 1 rfl
          obtain ⟨t4, t5, -, -⟩ := WB.cells hbw 2 rfl
          obtain ⟨t6, t7, -, -⟩ := WB.cells hbw 3 rfl
          have iv0 := WB.iv hbw 0 rfl
          have iv1 := WB.iv hbw 1 rfl
          have iv2 := WB.iv hbw 2 rfl
          have iv3 := WB.iv hbw 3 rfl
          clear hbw
          refine withs_guard rfl rfl ?_
          simp only [withs, List.getElem?_cons_zero, List.getElem?_cons_succ, Option.bind, Option.getD]
          repeat (first | (with_reducible refine all_isV ?_) | (with_reducible refine all_isWR ?_; intro sx Ax kx cx hvx) | (with_reducible refine all_isRow ?_; intro gx' hbx) | (with_reducible refine all_isPtr ?_; intro gp' hbp hgp))
          refine ⟨by kernel_rfl, ?_⟩
          go_simp
          (with_reducible exact grow_of (signV_w (z := a * b) pq (by assumption) HPq.out))
        refine owes2_cons (fun wx hox => ?_) ?_
        · skip
          have hbw := Lib.hid (HE.out.step hox)
          obtain ⟨t0, t1, -, -⟩ := WB.cells hbw 0 rfl
          obtain ⟨t2, t3, -, -⟩ := WB.cells hbw 1 rfl
          obtain ⟨t4, t5, -, -⟩ := WB.cells hbw 2 rfl
          obtain ⟨t6, t7, -, -⟩ := WB.cells hbw 3 rfl
          have iv0 := WB.iv hbw 0 rfl
          have iv1 := WB.iv hbw 1 rfl
          have iv2 := WB.iv hbw 2 rfl
          have iv3 := WB.iv hbw 3 rfl
          clear hbw
          refine withs_guard rfl rfl ?_
          simp only [withs, List.getElem?_cons_zero, List.getElem?_cons_succ, Option.bind, Option.getD]
          repeat (first | (with_reducible refine all_isV ?_) | (with_reducible refine all_isWR ?_; intro sx Ax kx cx hvx) | (with_reducible refine all_isRow ?_; intro gx' hbx) | (with_reducible refine all_isPtr ?_; intro gp' hbp hgp))
          refine ⟨by kernel_rfl, ?_⟩
          go_simp
          exact ⟨Only.refl _ _, isV.self _ _⟩
        refine owes2_cons (fun wx hox => ?_) ?_
        · skip
          have hbw := Lib.hid (HE.out.step hox)
          obtain ⟨t0, t1, -, -⟩ := WB.cells hbw 0 rfl
          obtain ⟨t2, t3, -, -⟩ := WB.cells hbw 1 rfl
          obtain ⟨t4, t5, -, -⟩ := WB.cells hbw 2 rfl
          obtain ⟨t6, t7, -, -⟩ := WB.cells hbw 3 rfl
          have iv0 := WB.iv hbw 0 rfl
          have iv1 := WB.iv hbw 1 rfl
          have iv2 := WB.iv hbw 2 rfl
          have iv3 := WB.iv hbw 3 rfl
          clear hbw
          refine withs_guard rfl rfl ?_
          simp only [withs, List.getElem?_cons_zero, List.getElem?_cons_succ, Option.bind, Option.getD]
          repeat (first | (with_reducible refine all_isV ?_) | (with_reducible refine all_isWR ?_; intro sx Ax kx cx hvx) | (with_reducible refine all_isRow ?_; intro gx' hbx) | (with_reducible refine all_isPtr ?_; intro gp' hbp hgp))
          refine ⟨by kernel_rfl, ?_⟩
          go_simp
          (with_reducible exact grow_of (signV_w (z := a) pa (by assumption) HPa.out))
        refine owes2_cons (fun wx hox => ?_) ?_
        · skip
          have hbw := Lib.hid (HE.out.step hox)
          obtain ⟨t0, t1, -, -⟩ := WB.cells hbw 0 rfl
          obtain ⟨t2, t3, -, -⟩ := WB.cells hbw 1 rfl
          obtain ⟨t4, t5, -, -⟩ := WB.cells hbw 2 rfl
          obtain ⟨t6, t7, -, -⟩ := WB.cells hbw 3 rfl
          have iv0 := WB.iv hbw 0 rfl
          have iv1 := WB.iv hbw 1 rfl
          have iv2 := WB.iv hbw 2 rfl
          have iv3 := WB.iv hbw 3 rfl
          clear hbw
          refine withs_guard rfl rfl ?_
          simp only [withs, List.getElem?_cons_zero, List.getElem?_cons_succ, Option.bind, Option.getD]
          repeat (first | (with_reducible refine all_isV ?_) | (with_reducible refine all_isWR ?_; intro sx Ax kx cx hvx) | (with_reducible refine all_isRow ?_; intro gx' hbx) | (with_reducible refine all_isPtr ?_; intro gp' hbp hgp))
          refine ⟨by kernel_rfl, ?_⟩
          go_simp
          exact ⟨Only.refl _ _, isV.self _ _⟩
        refine owes2_cons (fun wx hox => ?_) ?_
        · skip
          have hbw := Lib.hid (HE.out.step hox)
          obtain ⟨t0, t1, -, -⟩ := WB.cells hbw 0 rfl
          obtain ⟨t2, t3, -, -⟩ := WB.cells hbw 1 rfl
          obtain ⟨t4, t5, -, -⟩ := WB.cells hbw 2 rfl
          obtain ⟨t6, t7, -, -⟩ := WB.cells hbw 3 rfl
          have iv0 := WB.iv hbw 0 rfl
          have iv1 := WB.iv hbw 1 rfl
          have iv2 := WB.iv hbw 2 rfl
          have iv3 := WB.iv hbw 3 rfl
          clear hbw
          refine withs_guard rfl rfl ?_
          simp only [withs, List.getElem?_cons_zero, List.getElem?_cons_succ, Option.bind, Option.getD]
          repeat (first | (with_reducible refine all_isV ?_) | (with_reducible refine all_isWR ?_; intro sx Ax kx cx hvx) | (with_reducible refine all_isRow ?_; intro gx' hbx) | (with_reducible refine all_isPtr ?_; intro gp' hbp hgp))
          refine ⟨by kernel_rfl, ?_⟩
          go_simp
          (with_reducible exact grow_of (signV_w (z := b) pb (by assumption) HPb.out))
        refine owes2_cons (fun wx hox => ?_) ?_
        · skip
          skip
          refine withs_guard rfl rfl ?_
          simp only [withs, List.getElem?_cons_zero, List.getElem?_cons_succ, Option.bind, Option.getD]
          repeat (first | (with_reducible refine all_isV ?_) | (with_reducible refine all_isWR ?_; intro sx Ax kx cx hvx) | (with_reducible refine all_isRow ?_; intro gx' hbx) | (with_reducible refine all_isPtr ?_; intro gp' hbp hgp))
          refine ⟨by kernel_rfl, ?_⟩
          go_simp
          exact ⟨Only.refl _ _, isV.self _ _⟩
        refine owes2_cons (fun wx hox => ?_) ?_
        · skip
          skip
          refine withs_guard rfl rfl ?_
          simp only [withs, List.getElem?_cons_zero, List.getElem?_cons_succ, Option.bind, Option.getD]
          repeat (first | (with_reducible refine all_isV ?_) | (with_reducible refine all_isWR ?_; intro sx Ax kx cx hvx) | (with_reducible refine all_isRow ?_; intro gx' hbx) | (with_reducible refine all_isPtr ?_; intro gp' hbp hgp))
          refine ⟨by kernel_rfl, ?_⟩
          go_simp
          exact ⟨Only.refl _ _, isV.self _ _⟩
        refine owes2_cons (fun wx hox => ?_) ?_
        · skip
          skip
          refine withs_plain rfl ?_
          simp only [withs, List.getElem?_cons_zero, List.getElem?_cons_succ, Option.bind, Option.getD]
          repeat (first | (with_reducible refine all_isV ?_) | (with_reducible refine all_isWR ?_; intro sx Ax kx cx hvx) | (with_reducible refine all_isRow ?_; intro gx' hbx) | (with_reducible refine all_isPtr ?_; intro gp' hbp hgp))
          go_simp
          exact ⟨Only.refl _ _, isV.self _ _⟩
        exact owes2_nil
      case he =>
        intro wx hox
        simp only [waits, withs, Region.binds, List.filter, List.map, List.getElem?_cons_zero, List.getElem?_cons_succ, Option.bind, Option.getD, List.range, List.range.loop, List.length]
        repeat (first | refine all_isV ?_ | (refine all_isWR ?_; intro sx Ax kx cx hvx) | (refine all_isRow ?_; intro gx' hbx) | (refine all_isPtr ?_; intro gp' hbp hgp) | (intro vx hx'; clear hx'))
        go_simp
        clear hsm HFs HFp HFaa HFab HFba HFm HRd HLCr hnl
        replace HE := Lib.hid (HE.out.step hox)
        clear hox
        by_cases hb0 : b = 0
        · subst hb0
          obtain ⟨t4, t5, -, -⟩ := WB.cells HE 2 rfl
          obtain ⟨t6, t7, -, -⟩ := WB.cells HE 3 rfl
          go_wp2_with fail
          (with_reducible refine (quo_none false (WB.iv HE 3 rfl) (WB.iv HE 2 rfl)).mono ?_)
          rintro e w8 ⟨s8, A8, k8, c8, rfl, -, -, hv, ho⟩
          replace HE := Lib.hid ((HE.out.step ho).new hv)
          clear hv ho t4 t5 t6 t7
          obtain ⟨t4, t5, -, -⟩ := WB.cells HE 3 rfl
          obtain ⟨t6, t7, -, -⟩ := WB.cells HE 4 rfl
          go_wp2_with fail
          (with_reducible refine (quo_none true (WB.iv HE 4 rfl) (WB.iv HE 3 rfl)).mono ?_)
          rintro e w9 ⟨s9, A9, k9, c9, rfl, -, -, hv, ho⟩
          replace HE := Lib.hid (HE.out.step ho)
          have HO9 := Lib.hid (HE.out.only)
          clear hv ho t4 t5 t6 t7
          go_wp2_with fail
          go_ret
          exact ⟨rfl, HO9.out.alloc _⟩
        · have hbn : (b == 0) = false := by simpa using hb0
          have HB0 := Lib.hid hb0
          have HFq : Hid (Few (a.natAbs + 1)) := few_two (by have := HSx.out; have h1 : 1 ≤ BB := BB_pos; omega)
          obtain ⟨t4, t5, -, -⟩ := WB.cells HE 2 rfl
          obtain ⟨t6, t7, -, -⟩ := WB.cells HE 3 rfl
          go_wp2_with fail
          (with_reducible refine (quo_some false (WB.iv HE 3 rfl) (WB.iv HE 2 rfl) HB0 HFq).mono ?_)
          rintro e w8 ⟨sd, Ad, kd, cd, rfl, -, -, hv, ho⟩
          replace HE := Lib.hid ((HE.out.step ho).new hv)
          clear hv ho t4 t5 t6 t7
          obtain ⟨t4, t5, -, -⟩ := WB.cells HE 3 rfl
          obtain ⟨t6, t7, -, -⟩ := WB.cells HE 4 rfl
          go_wp2_with fail
          (with_reducible refine (quo_some true (WB.iv HE 4 rfl) (WB.iv HE 3 rfl) HB0 HFq).mono ?_)
          rintro e w9 ⟨su, Au, ku, cu, rfl, -, -, hv, ho⟩
          replace HE := Lib.hid ((HE.out.step ho).new hv)
          clear hv ho t4 t5 t6 t7
          obtain ⟨gd, hgd⟩ : ∃ g, w8.heap.size = g := ⟨_, rfl⟩
          obtain ⟨gu, hgu⟩ : ∃ g, w9.heap.size = g := ⟨_, rfl⟩
          rw [hgd, hgu] at HE
          go_upto_region 18 with fail
          clear hgd hgu hb0
          generalize w9.alloc (.cells #[.bool su, .slice Au ku cu] 27) = wq at *
          have HLaw := Lib.hid (quo_law a b HB0.out)
          have HFr : Hid (Few (a - quoI false a b * b).natAbs) := few_of_sq HLaw.out.2.1 HSy.out
          have HFdb : Hid (Few (quoI false a b * b).natAbs) := few_back HSx.out (rem_le HLaw.out.2.1 HSy.out)
          apply wp_region_typed_tail2 7 (by kernel_rfl) [isV _, isV _, isV _, isRow 27 1 [.bool s2, .slice A2 k2 c2], isWR wq (quoI false a b * b), isWR wq (a - quoI false a b * b), isPtr wq 27 [.bool false, .slice none 0 0]] [[], [], [], [2], [1, 3], [0, 4], []] (by kernel_rfl) (by kernel_rfl) (by kernel_rfl)
          case ho =>
            simp only [List.take_succ_cons, List.take_zero]
            refine owes2_cons (fun wx hox => ?_) ?_
            · skip
              have hbw := Lib.hid (HE.out.step hox)
              obtain ⟨t0, t1, -, -⟩ := WB.cells hbw 1 rfl
              obtain ⟨t4, t5, -, -⟩ := WB.cells hbw 4 rfl
              obtain ⟨t6, t7, -, -⟩ := WB.cells hbw 5 rfl
              have iv1 := WB.iv hbw 1 rfl
              have iv4 := WB.iv hbw 4 rfl
              have iv5 := WB.iv hbw 5 rfl
              clear hbw
              refine withs_plain rfl ?_
              simp only [withs, List.getElem?_cons_zero, List.getElem?_cons_succ, Option.bind, Option.getD]
              repeat (first | (with_reducible refine all_isV ?_) | (with_reducible refine all_isWR ?_; intro sx Ax kx cx hvx) | (with_reducible refine all_isRow ?_; intro gx' hbx) | (with_reducible refine all_isPtr ?_; intro gp' hbp hgp))
              go_simp
              exact ⟨Only.refl _ _, isV.self _ _⟩
            refine owes2_cons (fun wx hox => ?_) ?_
            · skip
              have hbw := Lib.hid (HE.out.step hox)
              obtain ⟨t0, t1, -, -⟩ := WB.cells hbw 1 rfl
              obtain ⟨t4, t5, -, -⟩ := WB.cells hbw 4 rfl
              obtain ⟨t6, t7, -, -⟩ := WB.cells hbw 5 rfl
              have iv1 := WB.iv hbw 1 rfl
              have iv4 := WB.iv hbw 4 rfl
              have iv5 := WB.iv hbw 5 rfl
              clear hbw
              refine withs_plain rfl ?_
              simp only [withs, List.getElem?_cons_zero, List.getElem?_cons_succ, Option.bind, Option.getD]
              repeat (first | (with_reducible refine all_isV ?_) | (with_reducible refine all_isWR ?_; intro sx Ax kx cx hvx) | (with_reducible refine all_isRow ?_; intro gx' hbx) | (with_reducible refine all_isPtr ?_; intro gp' hbp hgp))
              go_simp
              exact ⟨Only.refl _ _, isV.self _ _⟩
            refine owes2_cons (fun wx hox => ?_) ?_
            · skip
              have hbw := Lib.hid (HE.out.step hox)
              obtain ⟨t0, t1, -, -⟩ := WB.cells hbw 1 rfl
              obtain ⟨t4, t5, -, -⟩ := WB.cells hbw 4 rfl
              obtain ⟨t6, t7, -, -⟩ := WB.cells hbw 5 rfl
              have iv1 := WB.iv hbw 1 rfl
              have iv4 := WB.iv hbw 4 rfl
              have iv5 := WB.iv hbw 5 rfl
              clear hbw
              refine withs_plain rfl ?_
              simp only [withs, List.getElem?_cons_zero, List.getElem?_cons_succ, Option.bind, Option.getD]
              repeat (first | (with_reducible refine all_isV ?_) | (with_reducible refine all_isWR ?_; intro sx Ax kx cx hvx) | (with_reducible refine all_isRow ?_; intro gx' hbx) | (with_reducible refine all_isPtr ?_; intro gp' hbp hgp))
              go_simp
              exact ⟨Only.refl _ _, isV.self _ _⟩
            refine owes2_cons (fun wx hox => ?_) ?_
            · skip
              skip
              refine withs_plain rfl ?_
              simp only [withs, List.getElem?_cons_zero, List.getElem?_cons_succ, Option.bind, Option.getD]
              repeat (first | (with_reducible refine all_isV ?_) | (with_reducible refine all_isWR ?_; intro sx Ax kx cx hvx) | (with_reducible refine all_isRow ?_; intro gx' hbx) | (with_reducible refine all_isPtr ?_; intro gp' hbp hgp))
              go_simp
              (exact isRow.new _ _ _ _)
            refine owes2_cons (fun wx hox => ?_) ?_
            · skip
              have hbw := Lib.hid (HE.out.step hox)
              obtain ⟨t0, t1, -, -⟩ := WB.cells hbw 1 rfl
              obtain ⟨t4, t5, -, -⟩ := WB.cells hbw 4 rfl
              obtain ⟨t6, t7, -, -⟩ := WB.cells hbw 5 rfl
              have iv1 := WB.iv hbw 1 rfl
              have iv4 := WB.iv hbw 4 rfl
              have iv5 := WB.iv hbw 5 rfl
              clear hbw
              refine withs_plain rfl ?_
              simp only [withs, List.getElem?_cons_zero, List.getElem?_cons_succ, Option.bind, Option.getD]
              repeat (first | (with_reducible refine all_isV ?_) | (with_reducible refine all_isWR ?_; intro sx Ax kx cx hvx) | (with_reducible refine all_isRow ?_; intro gx' hbx) | (with_reducible refine all_isPtr ?_; intro gp' hbp hgp))
              go_simp
              (with_reducible exact grow_w (mul1_w (by assumption) (by assumption) (by assumption) HFdb) hox)
            refine owes2_cons (fun wx hox => ?_) ?_
            · skip
              have hbw := Lib.hid (HE.out.step hox)
              obtain ⟨t0, t1, -, -⟩ := WB.cells hbw 1 rfl
              obtain ⟨t4, t5, -, -⟩ := WB.cells hbw 4 rfl
              obtain ⟨t6, t7, -, -⟩ := WB.cells hbw 5 rfl
              have iv1 := WB.iv hbw 1 rfl
              have iv4 := WB.iv hbw 4 rfl
              have iv5 := WB.iv hbw 5 rfl
              clear hbw
              refine withs_plain rfl ?_
              simp only [withs, List.getElem?_cons_zero, List.getElem?_cons_succ, Option.bind, Option.getD]
              repeat (first | (with_reducible refine all_isV ?_) | (with_reducible refine all_isWR ?_; intro sx Ax kx cx hvx) | (with_reducible refine all_isRow ?_; intro gx' hbx) | (with_reducible refine all_isPtr ?_; intro gp' hbp hgp))
              go_simp
              (with_reducible exact grow_w (sub_w (by assumption) (by assumption) HFr) hox)
            refine owes2_cons (fun wx hox => ?_) ?_
            · skip
              have hbw := Lib.hid (HE.out.step hox)
              obtain ⟨t0, t1, -, -⟩ := WB.cells hbw 1 rfl
              obtain ⟨t4, t5, -, -⟩ := WB.cells hbw 4 rfl
              obtain ⟨t6, t7, -, -⟩ := WB.cells hbw 5 rfl
              have iv1 := WB.iv hbw 1 rfl
              have iv4 := WB.iv hbw 4 rfl
              have iv5 := WB.iv hbw 5 rfl
              clear hbw
              refine withs_plain rfl ?_
              simp only [withs, List.getElem?_cons_zero, List.getElem?_cons_succ, Option.bind, Option.getD]
              repeat (first | (with_reducible refine all_isV ?_) | (with_reducible refine all_isWR ?_; intro sx Ax kx cx hvx) | (with_reducible refine all_isRow ?_; intro gx' hbx) | (with_reducible refine all_isPtr ?_; intro gp' hbp hgp))
              go_simp
              (exact isPtr.new hox _ _)
            exact owes2_nil
          case he =>
            simp only [List.drop_succ_cons, List.drop_zero]
            intro wx hox
            refine withs_of (by simp only [List.length, List.range, List.range.loop]; exact rfl) ?_
            repeat (first
              | ((with_reducible apply withs_isV); (case hd => exact rfl); (case hp => exact rfl))
              | ((with_reducible apply withs_isWR); (case hd => exact rfl); (case hp => exact rfl); intro sx Ax kx cx hvx)
              | ((with_reducible apply withs_isRow); (case hd => exact rfl); (case hp => exact rfl); intro gx' hbx)
              | ((with_reducible apply withs_isPtr); (case hd => exact rfl); (case hp => exact rfl); intro gp' hbp hgp)
              | ((with_reducible apply withs_none); (case hd => exact rfl)))
            with_reducible refine withs_nil ?_
            have HEx := Lib.hid (HE.out.step hox)
            have hbl := hbp.out
            have b0 := hbl.cell 0
            have b1 := hbl.cell 1
            have f0 := hbl.frozen 0
            have f1 := hbl.frozen 1
            simp only [List.getElem?_cons_zero, List.getElem?_cons_succ] at b0 b1
            have hnew := WB.store HEx.out hbl hgp.out (fun i x hx => (HE.out.all i x hx).1.lt) HE.out.only.size hvx.out
            have HN2 := Lib.hid hnew
            clear hbl hbp hgp hnew hox
            obtain ⟨t0, t1, -, -⟩ := WB.cells HN2 1 rfl
            obtain ⟨t2, t3, -, -⟩ := WB.cells HN2 2 rfl
            have HFn : Hid (Few (quoI true a b - quoI false a b).natAbs) := few_small (by have := HLaw.out.2.2.2; rw [BB_val]; omega)
            go_simp
            go_upto_region 19 with fail
            clear b0 b1 f0 f1
            generalize (wx.setCell _ _).setCell _ _ = ws at *
            go_wp2_with fail
            (with_reducible refine (sub_w (WB.iv HN2 1 rfl) (WB.iv HN2 2 rfl) HFn).mono ?_)
            rintro e w11 ⟨sn, An, kn, cn', rfl, -, -, hv, ho⟩
            replace HE := Lib.hid ((HN2.out.step ho).new hv)
            clear hv ho t0 t1 t2 t3
            obtain ⟨gn, hgn⟩ : ∃ g, w11.heap.size = g := ⟨_, rfl⟩
            rw [hgn] at HE
            go_upto_region 20 with fail
            clear hgn HN2 HEx
            generalize w11.alloc (.cells #[.bool sn, .slice An kn cn'] 27) = wz at *
            have HFrr : Hid (Few ((a - quoI false a b * b) * (a - quoI false a b * b)).natAbs) := few_sq (by have := rem_le HLaw.out.2.1 HSy.out; rw [Int.natAbs_mul]; exact Nat.mul_le_mul this this)
            have HFbb : Hid (Few (b * b).natAbs) := few_sq (by rw [Int.natAbs_mul]; exact Nat.mul_le_mul HSy.out HSy.out)
            clear HFn HFr HFdb HFq
            generalize a - quoI false a b * b = R at *
            generalize quoI true a b - quoI false a b = N at *
            obtain ⟨p, hps⟩ : ∃ p, R.sign = p := ⟨_, rfl⟩
            obtain ⟨bs, hbs⟩ : ∃ bs, b.sign = bs := ⟨_, rfl⟩
            obtain ⟨n, hns⟩ : ∃ n, N.sign = n := ⟨_, rfl⟩
            obtain ⟨cn, hcn⟩ : ∃ cn, cmpI N 1 = cn := ⟨_, rfl⟩
            obtain ⟨q, hq⟩ : ∃ q, p * bs = q := ⟨_, rfl⟩
            have hwq : IntKind.i64.wrap (p * bs) = q := by
              rw [hq]
              refine wrap_i64 ?_
              have h1 := sign_range (R * b)
              rw [Int.sign_mul, hps, hbs, hq] at h1
              omega
            have hq0 : 0 ≤ q := by have := HLaw.out.1; rw [hps, hbs, hq] at this; exact this
            have hn0 : 0 ≤ n := by rw [← hns]; exact Int.sign_nonneg_iff.2 HLaw.out.2.2.2.2
            have hc0 : cn ≤ 0 := by
              rw [← hcn]
              unfold cmpI
              have := HLaw.out.2.2.2.1
              split
              · omega
              · rw [if_pos (by omega)]; omega
            have hpn : (p == 0) = (n == 0) := by
              have h3 := HLaw.out.2.2.1
              rw [← hps, ← hns]
              rcases sign_of R with ⟨e1, e2⟩ | ⟨e1, e2⟩ | ⟨e1, e2⟩ <;> rcases sign_of N with ⟨e3, e4⟩ | ⟨e3, e4⟩ | ⟨e3, e4⟩ <;> rw [e1, e3] <;> first | rfl | (exfalso; omega)
            have HLt : Hid (cmpI (R * R) (b * b) = -1) := cmpI_lt HLaw.out.2.1
            have HPs := Lib.hid hps
            have HBs := Lib.hid hbs
            have HNs := Lib.hid hns
            have HCn := Lib.hid hcn
            clear hps hbs hns hcn hq HLaw hbn
            apply wp_region_typed2 (by kernel_rfl) [isV _, isV _, isV _, isV _, isV _, isV _, isV _, isV _, isV _, isV _, isV _, isV _, isV _, isV _, isV _, isRow 27 1 [.bool sx, .slice Ax kx cx], isWR wz (R * R), isV _, isV _, isRow 27 1 [.bool s2, .slice A2 k2 c2], isWR wz (b * b), isV _, isV _, isV _, isV _, isV _, isV _, isV _, isV _, isV _, isV _, isV _, isV _, isV _, isV _, isWR wz 1, isV _, isV _, isV _, isV _, isV _, isV _, isV _, isV _, isV _] [[], [0], [1], [1, 2], [3], [4], [4, 5], [4], [4, 7], [4, 6, 8], [4, 9], [4, 10], [11], [12], [12], [12, 14], [12, 13, 15], [12], [12], [12, 18], [12, 17, 19], [12, 16, 20], [12, 21], [12, 22], [23], [24], [24, 25], [24, 26], [24], [24, 28], [24, 29], [24, 27, 30], [24, 31], [32], [33], [33], [33, 34, 35], [33, 36], [33, 37], [38], [39], [39, 40], [39, 41], [39, 42], [43]] (by kernel_rfl) (by kernel_rfl)
            case ho =>
              refine owes2_cons (fun wx hox => ?_) ?_
              · skip
                skip
                refine withs_plain rfl ?_
                simp only [withs, List.getElem?_cons_zero, List.getElem?_cons_succ, Option.bind, Option.getD]
                repeat (first | (with_reducible refine all_isV ?_) | (with_reducible refine all_isWR ?_; intro sx Ax kx cx hvx) | (with_reducible refine all_isRow ?_; intro gx' hbx) | (with_reducible refine all_isPtr ?_; intro gp' hbp hgp))
                go_simp
                exact ⟨Only.refl _ _, isV.self _ _⟩
              refine owes2_cons (fun wx hox => ?_) ?_
              · skip
                skip
                refine withs_plain rfl ?_
                simp only [withs, List.getElem?_cons_zero, List.getElem?_cons_succ, Option.bind, Option.getD]
                repeat (first | (with_reducible refine all_isV ?_) | (with_reducible refine all_isWR ?_; intro sx Ax kx cx hvx) | (with_reducible refine all_isRow ?_; intro gx' hbx) | (with_reducible refine all_isPtr ?_; intro gp' hbp hgp))
                go_simp
                exact ⟨Only.refl _ _, isV.self _ _⟩
              refine owes2_cons (fun wx hox => ?_) ?_
              · skip
                skip
                refine withs_guard rfl rfl ?_
                simp only [withs, List.getElem?_cons_zero, List.getElem?_cons_succ, Option.bind, Option.getD]
                repeat (first | (with_reducible refine all_isV ?_) | (with_reducible refine all_isWR ?_; intro sx Ax kx cx hvx) | (with_reducible refine all_isRow ?_; intro gx' hbx) | (with_reducible refine all_isPtr ?_; intro gp' hbp hgp))
                refine ⟨by kernel_rfl, ?_⟩
                go_simp
                exact ⟨Only.refl _ _, isV.self _ _⟩
              refine owes2_cons (fun wx hox => ?_) ?_
              · skip
                skip
                refine withs_plain rfl ?_
                simp only [withs, List.getElem?_cons_zero, List.getElem?_cons_succ, Option.bind, Option.getD]
                repeat (first | (with_reducible refine all_isV ?_) | (with_reducible refine all_isWR ?_; intro sx Ax kx cx hvx) | (with_reducible refine all_isRow ?_; intro gx' hbx) | (with_reducible refine all_isPtr ?_; intro gp' hbp hgp))
                go_simp
                exact ⟨Only.refl _ _, isV.self _ _⟩
              refine owes2_cons (fun wx hox => ?_) ?_
              · skip
                skip
                refine withs_plain rfl ?_
                simp only [withs, List.getElem?_cons_zero, List.getElem?_cons_succ, Option.bind, Option.getD]
                repeat (first | (with_reducible refine all_isV ?_) | (with_reducible refine all_isWR ?_; intro sx Ax kx cx hvx) | (with_reducible refine all_isRow ?_; intro gx' hbx) | (with_reducible refine all_isPtr ?_; intro gp' hbp hgp))
                go_simp
                exact ⟨Only.refl _ _, isV.self _ _⟩
              refine owes2_cons (fun wx hox => ?_) ?_
              · skip
                have hbw := Lib.hid (HE.out.step hox)
                obtain ⟨t0, t1, -, -⟩ := WB.cells hbw 0 rfl
                obtain ⟨t2, t3, -, -⟩ := WB.cells hbw 1 rfl
                obtain ⟨t4, t5, -, -⟩ := WB.cells hbw 6 rfl
                have iv0 := WB.iv hbw 0 rfl
                have iv1 := WB.iv hbw 1 rfl
                have iv6 := WB.iv hbw 6 rfl
                clear hbw
                refine withs_guard rfl rfl ?_
                simp only [withs, List.getElem?_cons_zero, List.getElem?_cons_succ, Option.bind, Option.getD]
                repeat (first | (with_reducible refine all_isV ?_) | (with_reducible refine all_isWR ?_; intro sx Ax kx cx hvx) | (with_reducible refine all_isRow ?_; intro gx' hbx) | (with_reducible refine all_isPtr ?_; intro gp' hbp hgp))
                refine ⟨by kernel_rfl, ?_⟩
                go_simp
                exact ⟨Only.refl _ _, isV.self _ _⟩
              refine owes2_cons (fun wx hox => ?_) ?_
              · skip
                have hbw := Lib.hid (HE.out.step hox)
                obtain ⟨t0, t1, -, -⟩ := WB.cells hbw 0 rfl
                obtain ⟨t2, t3, -, -⟩ := WB.cells hbw 1 rfl
                obtain ⟨t4, t5, -, -⟩ := WB.cells hbw 6 rfl
                have iv0 := WB.iv hbw 0 rfl
                have iv1 := WB.iv hbw 1 rfl
                have iv6 := WB.iv hbw 6 rfl
                clear hbw
                refine withs_guard rfl rfl ?_
                simp only [withs, List.getElem?_cons_zero, List.getElem?_cons_succ, Option.bind, Option.getD]
                repeat (first | (with_reducible refine all_isV ?_) | (with_reducible refine all_isWR ?_; intro sx Ax kx cx hvx) | (with_reducible refine all_isRow ?_; intro gx' hbx) | (with_reducible refine all_isPtr ?_; intro gp' hbp hgp))
                refine ⟨by kernel_rfl, ?_⟩
                go_simp
                (with_reducible exact grow_of (signV_w (z := R) p (by assumption) HPs.out))
              refine owes2_cons (fun wx hox => ?_) ?_
              · skip
                have hbw := Lib.hid (HE.out.step hox)
                obtain ⟨t0, t1, -, -⟩ := WB.cells hbw 0 rfl
                obtain ⟨t2, t3, -, -⟩ := WB.cells hbw 1 rfl
                obtain ⟨t4, t5, -, -⟩ := WB.cells hbw 6 rfl
                have iv0 := WB.iv hbw 0 rfl
                have iv1 := WB.iv hbw 1 rfl
                have iv6 := WB.iv hbw 6 rfl
                clear hbw
                refine withs_guard rfl rfl ?_
                simp only [withs, List.getElem?_cons_zero, List.getElem?_cons_succ, Option.bind, Option.getD]
                repeat (first | (with_reducible refine all_isV ?_) | (with_reducible refine all_isWR ?_; intro sx Ax kx cx hvx) | (with_reducible refine all_isRow ?_; intro gx' hbx) | (with_reducible refine all_isPtr ?_; intro gp' hbp hgp))
                refine ⟨by kernel_rfl, ?_⟩
                go_simp
                exact ⟨Only.refl _ _, isV.self _ _⟩
              refine owes2_cons (fun wx hox => ?_) ?_
              · skip
                have hbw := Lib.hid (HE.out.step hox)
                obtain ⟨t0, t1, -, -⟩ := WB.cells hbw 0 rfl
                obtain ⟨t2, t3, -, -⟩ := WB.cells hbw 1 rfl
                obtain ⟨t4, t5, -, -⟩ := WB.cells hbw 6 rfl
                have iv0 := WB.iv hbw 0 rfl
                have iv1 := WB.iv hbw 1 rfl
                have iv6 := WB.iv hbw 6 rfl
                clear hbw
                refine withs_guard rfl rfl ?_
                simp only [withs, List.getElem?_cons_zero, List.getElem?_cons_succ, Option.bind, Option.getD]
                repeat (first | (with_reducible refine all_isV ?_) | (with_reducible refine all_isWR ?_; intro sx Ax kx cx hvx) | (with_reducible refine all_isRow ?_; intro gx' hbx) | (with_reducible refine all_isPtr ?_; intro gp' hbp hgp))
                refine ⟨by kernel_rfl, ?_⟩
                go_simp
                (with_reducible exact grow_of (signV_w (z := b) bs (by assumption) HBs.out))
              refine owes2_cons (fun wx hox => ?_) ?_
              · skip
                skip
                refine withs_guard rfl rfl ?_
                simp only [withs, List.getElem?_cons_zero, List.getElem?_cons_succ, Option.bind, Option.getD]
                repeat (first | (with_reducible refine all_isV ?_) | (with_reducible refine all_isWR ?_; intro sx Ax kx cx hvx) | (with_reducible refine all_isRow ?_; intro gx' hbx) | (with_reducible refine all_isPtr ?_; intro gp' hbp hgp))
                refine ⟨by kernel_rfl, ?_⟩
                go_simp
                exact ⟨Only.refl _ _, isV.self _ _⟩
              refine owes2_cons (fun wx hox => ?_) ?_
              · skip
                skip
                refine withs_guard rfl rfl ?_
                simp only [withs, List.getElem?_cons_zero, List.getElem?_cons_succ, Option.bind, Option.getD]
                repeat (first | (with_reducible refine all_isV ?_) | (with_reducible refine all_isWR ?_; intro sx Ax kx cx hvx) | (with_reducible refine all_isRow ?_; intro gx' hbx) | (with_reducible refine all_isPtr ?_; intro gp' hbp hgp))
                refine ⟨by kernel_rfl, ?_⟩
                go_simp
                exact ⟨Only.refl _ _, isV.self _ _⟩
              refine owes2_cons (fun wx hox => ?_) ?_
              · skip
                skip
                refine withs_plain rfl ?_
                simp only [withs, List.getElem?_cons_zero, List.getElem?_cons_succ, Option.bind, Option.getD]
                repeat (first | (with_reducible refine all_isV ?_) | (with_reducible refine all_isWR ?_; intro sx Ax kx cx hvx) | (with_reducible refine all_isRow ?_; intro gx' hbx) | (with_reducible refine all_isPtr ?_; intro gp' hbp hgp))
                go_simp
                exact ⟨Only.refl _ _, isV.self _ _⟩
              refine owes2_cons (fun wx hox => ?_) ?_
              · skip
                skip
                refine withs_plain rfl ?_
                simp only [withs, List.getElem?_cons_zero, List.getElem?_cons_succ, Option.bind, Option.getD]
                repeat (first | (with_reducible refine all_isV ?_) | (with_reducible refine all_isWR ?_; intro sx Ax kx cx hvx) | (with_reducible refine all_isRow ?_; intro gx' hbx) | (with_reducible refine all_isPtr ?_; intro gp' hbp hgp))
                go_simp
                exact ⟨Only.refl _ _, isV.self _ _⟩
              refine owes2_cons (fun wx hox => ?_) ?_
              · skip
                have hbw := Lib.hid (HE.out.step hox)
                obtain ⟨t0, t1, -, -⟩ := WB.cells hbw 0 rfl
                obtain ⟨t2, t3, -, -⟩ := WB.cells hbw 1 rfl
                obtain ⟨t4, t5, -, -⟩ := WB.cells hbw 6 rfl
                have iv0 := WB.iv hbw 0 rfl
                have iv1 := WB.iv hbw 1 rfl
                have iv6 := WB.iv hbw 6 rfl
                clear hbw
                refine withs_guard rfl rfl ?_
                simp only [withs, List.getElem?_cons_zero, List.getElem?_cons_succ, Option.bind, Option.getD]
                repeat (first | (with_reducible refine all_isV ?_) | (with_reducible refine all_isWR ?_; intro sx Ax kx cx hvx) | (with_reducible refine all_isRow ?_; intro gx' hbx) | (with_reducible refine all_isPtr ?_; intro gp' hbp hgp))
                refine ⟨by kernel_rfl, ?_⟩
                go_simp
                exact ⟨Only.refl _ _, isV.self _ _⟩
              refine owes2_cons (fun wx hox => ?_) ?_
              · skip
                have hbw := Lib.hid (HE.out.step hox)
                obtain ⟨t0, t1, -, -⟩ := WB.cells hbw 0 rfl
                obtain ⟨t2, t3, -, -⟩ := WB.cells hbw 1 rfl
                obtain ⟨t4, t5, -, -⟩ := WB.cells hbw 6 rfl
                have iv0 := WB.iv hbw 0 rfl
                have iv1 := WB.iv hbw 1 rfl
                have iv6 := WB.iv hbw 6 rfl
                clear hbw
                refine withs_guard rfl rfl ?_
                simp only [withs, List.getElem?_cons_zero, List.getElem?_cons_succ, Option.bind, Option.getD]
                repeat (first | (with_reducible refine all_isV ?_) | (with_reducible refine all_isWR ?_; intro sx Ax kx cx hvx) | (with_reducible refine all_isRow ?_; intro gx' hbx) | (with_reducible refine all_isPtr ?_; intro gp' hbp hgp))
                refine ⟨by kernel_rfl, ?_⟩
                go_simp
                exact ⟨Only.refl _ _, isV.self _ _⟩
              refine owes2_cons (fun wx hox => ?_) ?_
              · skip
                skip
                refine withs_guard rfl rfl ?_
                simp only [withs, List.getElem?_cons_zero, List.getElem?_cons_succ, Option.bind, Option.getD]
                repeat (first | (with_reducible refine all_isV ?_) | (with_reducible refine all_isWR ?_; intro sx Ax kx cx hvx) | (with_reducible refine all_isRow ?_; intro gx' hbx) | (with_reducible refine all_isPtr ?_; intro gp' hbp hgp))
                refine ⟨by kernel_rfl, ?_⟩
                go_simp
                (exact isRow.new _ _ _ _)
              refine owes2_cons (fun wx hox => ?_) ?_
              · skip
                have hbw := Lib.hid (HE.out.step hox)
                obtain ⟨t0, t1, -, -⟩ := WB.cells hbw 0 rfl
                obtain ⟨t2, t3, -, -⟩ := WB.cells hbw 1 rfl
                obtain ⟨t4, t5, -, -⟩ := WB.cells hbw 6 rfl
                have iv0 := WB.iv hbw 0 rfl
                have iv1 := WB.iv hbw 1 rfl
                have iv6 := WB.iv hbw 6 rfl
                clear hbw
                refine withs_guard rfl rfl ?_
                simp only [withs, List.getElem?_cons_zero, List.getElem?_cons_succ, Option.bind, Option.getD]
                repeat (first | (with_reducible refine all_isV ?_) | (with_reducible refine all_isWR ?_; intro sx Ax kx cx hvx) | (with_reducible refine all_isRow ?_; intro gx' hbx) | (with_reducible refine all_isPtr ?_; intro gp' hbp hgp))
                refine ⟨by kernel_rfl, ?_⟩
                go_simp
                (with_reducible exact grow_w (mul1_w (by assumption) (by assumption) (by assumption) HFrr) hox)
              refine owes2_cons (fun wx hox => ?_) ?_
              · skip
                have hbw := Lib.hid (HE.out.step hox)
                obtain ⟨t0, t1, -, -⟩ := WB.cells hbw 0 rfl
                obtain ⟨t2, t3, -, -⟩ := WB.cells hbw 1 rfl
                obtain ⟨t4, t5, -, -⟩ := WB.cells hbw 6 rfl
                have iv0 := WB.iv hbw 0 rfl
                have iv1 := WB.iv hbw 1 rfl
                have iv6 := WB.iv hbw 6 rfl
                clear hbw
                refine withs_guard rfl rfl ?_
                simp only [withs, List.getElem?_cons_zero, List.getElem?_cons_succ, Option.bind, Option.getD]
                repeat (first | (with_reducible refine all_isV ?_) | (with_reducible refine all_isWR ?_; intro sx Ax kx cx hvx) | (with_reducible refine all_isRow ?_; intro gx' hbx) | (with_reducible refine all_isPtr ?_; intro gp' hbp hgp))
                refine ⟨by kernel_rfl, ?_⟩
                go_simp
                exact ⟨Only.refl _ _, isV.self _ _⟩
              refine owes2_cons (fun wx hox => ?_) ?_
              · skip
                have hbw := Lib.hid (HE.out.step hox)
                obtain ⟨t0, t1, -, -⟩ := WB.cells hbw 0 rfl
                obtain ⟨t2, t3, -, -⟩ := WB.cells hbw 1 rfl
                obtain ⟨t4, t5, -, -⟩ := WB.cells hbw 6 rfl
                have iv0 := WB.iv hbw 0 rfl
                have iv1 := WB.iv hbw 1 rfl
                have iv6 := WB.iv hbw 6 rfl
                clear hbw
                refine withs_guard rfl rfl ?_
                simp only [withs, List.getElem?_cons_zero, List.getElem?_cons_succ, Option.bind, Option.getD]
                repeat (first | (with_reducible refine all_isV ?_) | (with_reducible refine all_isWR ?_; intro sx Ax kx cx hvx) | (with_reducible refine all_isRow ?_; intro gx' hbx) | (with_reducible refine all_isPtr ?_; intro gp' hbp hgp))
                refine ⟨by kernel_rfl, ?_⟩
                go_simp
                exact ⟨Only.refl _ _, isV.self _ _⟩
              refine owes2_cons (fun wx hox => ?_) ?_
              · skip
                skip
                refine withs_guard rfl rfl ?_
                simp only [withs, List.getElem?_cons_zero, List.getElem?_cons_succ, Option.bind, Option.getD]
                repeat (first | (with_reducible refine all_isV ?_) | (with_reducible refine all_isWR ?_; intro sx Ax kx cx hvx) | (with_reducible refine all_isRow ?_; intro gx' hbx) | (with_reducible refine all_isPtr ?_; intro gp' hbp hgp))
                refine ⟨by kernel_rfl, ?_⟩
                go_simp
                (exact isRow.new _ _ _ _)
              refine owes2_cons (fun wx hox => ?_) ?_
              · skip
                have hbw := Lib.hid (HE.out.step hox)
                obtain ⟨t0, t1, -, -⟩ := WB.cells hbw 0 rfl
                obtain ⟨t2, t3, -, -⟩ := WB.cells hbw 1 rfl
                obtain ⟨t4, t5, -, -⟩ := WB.cells hbw 6 rfl
                have iv0 := WB.iv hbw 0 rfl
                have iv1 := WB.iv hbw 1 rfl
                have iv6 := WB.iv hbw 6 rfl
                clear hbw
                refine withs_guard rfl rfl ?_
                simp only [withs, List.getElem?_cons_zero, List.getElem?_cons_succ, Option.bind, Option.getD]
                repeat (first | (with_reducible refine all_isV ?_) | (with_reducible refine all_isWR ?_; intro sx Ax kx cx hvx) | (with_reducible refine all_isRow ?_; intro gx' hbx) | (with_reducible refine all_isPtr ?_; intro gp' hbp hgp))
                refine ⟨by kernel_rfl, ?_⟩
                go_simp
                (with_reducible exact grow_w (mul1_w (by assumption) (by assumption) (by assumption) HFbb) hox)
              refine owes2_cons (fun wx hox => ?_) ?_
              · skip
                have hbw := Lib.hid (HE.out.step hox)
                obtain ⟨t0, t1, -, -⟩ := WB.cells hbw 0 rfl
                obtain ⟨t2, t3, -, -⟩ := WB.cells hbw 1 rfl
                obtain ⟨t4, t5, -, -⟩ := WB.cells hbw 6 rfl
                have iv0 := WB.iv hbw 0 rfl
                have iv1 := WB.iv hbw 1 rfl
                have iv6 := WB.iv hbw 6 rfl
                clear hbw
                refine withs_guard rfl rfl ?_
                simp only [withs, List.getElem?_cons_zero, List.getElem?_cons_succ, Option.bind, Option.getD]
                repeat (first | (with_reducible refine all_isV ?_) | (with_reducible refine all_isWR ?_; intro sx Ax kx cx hvx) | (with_reducible refine all_isRow ?_; intro gx' hbx) | (with_reducible refine all_isPtr ?_; intro gp' hbp hgp))
                refine ⟨by kernel_rfl, ?_⟩
                go_simp
                (with_reducible exact grow_of (cmpV_w (x := R * R) (y := b * b) (-1) (by assumption) (by assumption) HLt.out))
              refine owes2_cons (fun wx hox => ?_) ?_
              · skip
                skip
                refine withs_guard rfl rfl ?_
                simp only [withs, List.getElem?_cons_zero, List.getElem?_cons_succ, Option.bind, Option.getD]
                repeat (first | (with_reducible refine all_isV ?_) | (with_reducible refine all_isWR ?_; intro sx Ax kx cx hvx) | (with_reducible refine all_isRow ?_; intro gx' hbx) | (with_reducible refine all_isPtr ?_; intro gp' hbp hgp))
                refine ⟨by kernel_rfl, ?_⟩
                go_simp
                exact ⟨Only.refl _ _, isV.self _ _⟩
              refine owes2_cons (fun wx hox => ?_) ?_
              · skip
                skip
                refine withs_plain rfl ?_
                simp only [withs, List.getElem?_cons_zero, List.getElem?_cons_succ, Option.bind, Option.getD]
                repeat (first | (with_reducible refine all_isV ?_) | (with_reducible refine all_isWR ?_; intro sx Ax kx cx hvx) | (with_reducible refine all_isRow ?_; intro gx' hbx) | (with_reducible refine all_isPtr ?_; intro gp' hbp hgp))
                go_simp
                exact ⟨Only.refl _ _, isV.self _ _⟩
              refine owes2_cons (fun wx hox => ?_) ?_
              · skip
                skip
                refine withs_plain rfl ?_
                simp only [withs, List.getElem?_cons_zero, List.getElem?_cons_succ, Option.bind, Option.getD]
                repeat (first | (with_reducible refine all_isV ?_) | (with_reducible refine all_isWR ?_; intro sx Ax kx cx hvx) | (with_reducible refine all_isRow ?_; intro gx' hbx) | (with_reducible refine all_isPtr ?_; intro gp' hbp hgp))
                go_simp
                exact ⟨Only.refl _ _, isV.self _ _⟩
              refine owes2_cons (fun wx hox => ?_) ?_
              · skip
                have hbw := Lib.hid (HE.out.step hox)
                obtain ⟨t0, t1, -, -⟩ := WB.cells hbw 0 rfl
                obtain ⟨t2, t3, -, -⟩ := WB.cells hbw 1 rfl
                obtain ⟨t4, t5, -, -⟩ := WB.cells hbw 6 rfl
                have iv0 := WB.iv hbw 0 rfl
                have iv1 := WB.iv hbw 1 rfl
                have iv6 := WB.iv hbw 6 rfl
                clear hbw
                refine withs_guard rfl rfl ?_
                simp only [withs, List.getElem?_cons_zero, List.getElem?_cons_succ, Option.bind, Option.getD]
                repeat (first | (with_reducible refine all_isV ?_) | (with_reducible refine all_isWR ?_; intro sx Ax kx cx hvx) | (with_reducible refine all_isRow ?_; intro gx' hbx) | (with_reducible refine all_isPtr ?_; intro gp' hbp hgp))
                refine ⟨by kernel_rfl, ?_⟩
                go_simp
                exact ⟨Only.refl _ _, isV.self _ _⟩
              refine owes2_cons (fun wx hox => ?_) ?_
              · skip
                have hbw := Lib.hid (HE.out.step hox)
                obtain ⟨t0, t1, -, -⟩ := WB.cells hbw 0 rfl
                obtain ⟨t2, t3, -, -⟩ := WB.cells hbw 1 rfl
                obtain ⟨t4, t5, -, -⟩ := WB.cells hbw 6 rfl
                have iv0 := WB.iv hbw 0 rfl
                have iv1 := WB.iv hbw 1 rfl
                have iv6 := WB.iv hbw 6 rfl
                clear hbw
                refine withs_guard rfl rfl ?_
                simp only [withs, List.getElem?_cons_zero, List.getElem?_cons_succ, Option.bind, Option.getD]
                repeat (first | (with_reducible refine all_isV ?_) | (with_reducible refine all_isWR ?_; intro sx Ax kx cx hvx) | (with_reducible refine all_isRow ?_; intro gx' hbx) | (with_reducible refine all_isPtr ?_; intro gp' hbp hgp))
                refine ⟨by kernel_rfl, ?_⟩
                go_simp
                (with_reducible exact grow_of (signV_w (z := R) p (by assumption) HPs.out))
              refine owes2_cons (fun wx hox => ?_) ?_
              · skip
                skip
                refine withs_guard rfl rfl ?_
                simp only [withs, List.getElem?_cons_zero, List.getElem?_cons_succ, Option.bind, Option.getD]
                repeat (first | (with_reducible refine all_isV ?_) | (with_reducible refine all_isWR ?_; intro sx Ax kx cx hvx) | (with_reducible refine all_isRow ?_; intro gx' hbx) | (with_reducible refine all_isPtr ?_; intro gp' hbp hgp))
                refine ⟨by kernel_rfl, ?_⟩
                go_simp
                exact ⟨Only.refl _ _, isV.self _ _⟩
              refine owes2_cons (fun wx hox => ?_) ?_
              · skip
                have hbw := Lib.hid (HE.out.step hox)
                obtain ⟨t0, t1, -, -⟩ := WB.cells hbw 0 rfl
                obtain ⟨t2, t3, -, -⟩ := WB.cells hbw 1 rfl
                obtain ⟨t4, t5, -, -⟩ := WB.cells hbw 6 rfl
                have iv0 := WB.iv hbw 0 rfl
                have iv1 := WB.iv hbw 1 rfl
                have iv6 := WB.iv hbw 6 rfl
                clear hbw
                refine withs_guard rfl rfl ?_
                simp only [withs, List.getElem?_cons_zero, List.getElem?_cons_succ, Option.bind, Option.getD]
                repeat (first | (with_reducible refine all_isV ?_) | (with_reducible refine all_isWR ?_; intro sx Ax kx cx hvx) | (with_reducible refine all_isRow ?_; intro gx' hbx) | (with_reducible refine all_isPtr ?_; intro gp' hbp hgp))
                refine ⟨by kernel_rfl, ?_⟩
                go_simp
                exact ⟨Only.refl _ _, isV.self _ _⟩
              refine owes2_cons (fun wx hox => ?_) ?_
              · skip
                have hbw := Lib.hid (HE.out.step hox)
                obtain ⟨t0, t1, -, -⟩ := WB.cells hbw 0 rfl
                obtain ⟨t2, t3, -, -⟩ := WB.cells hbw 1 rfl
                obtain ⟨t4, t5, -, -⟩ := WB.cells hbw 6 rfl
                have iv0 := WB.iv hbw 0 rfl
                have iv1 := WB.iv hbw 1 rfl
                have iv6 := WB.iv hbw 6 rfl
                clear hbw
                refine withs_guard rfl rfl ?_
                simp only [withs, List.getElem?_cons_zero, List.getElem?_cons_succ, Option.bind, Option.getD]
                repeat (first | (with_reducible refine all_isV ?_) | (with_reducible refine all_isWR ?_; intro sx Ax kx cx hvx) | (with_reducible refine all_isRow ?_; intro gx' hbx) | (with_reducible refine all_isPtr ?_; intro gp' hbp hgp))
                refine ⟨by kernel_rfl, ?_⟩
                go_simp
                (with_reducible exact grow_of (signV_w (z := N) n (by assumption) HNs.out))
              refine owes2_cons (fun wx hox => ?_) ?_
              · skip
                skip
                refine withs_guard rfl rfl ?_
                simp only [withs, List.getElem?_cons_zero, List.getElem?_cons_succ, Option.bind, Option.getD]
                repeat (first | (with_reducible refine all_isV ?_) | (with_reducible refine all_isWR ?_; intro sx Ax kx cx hvx) | (with_reducible refine all_isRow ?_; intro gx' hbx) | (with_reducible refine all_isPtr ?_; intro gp' hbp hgp))
                refine ⟨by kernel_rfl, ?_⟩
                go_simp
                exact ⟨Only.refl _ _, isV.self _ _⟩
              refine owes2_cons (fun wx hox => ?_) ?_
              · skip
                skip
                refine withs_guard rfl rfl ?_
                simp only [withs, List.getElem?_cons_zero, List.getElem?_cons_succ, Option.bind, Option.getD]
                repeat (first | (with_reducible refine all_isV ?_) | (with_reducible refine all_isWR ?_; intro sx Ax kx cx hvx) | (with_reducible refine all_isRow ?_; intro gx' hbx) | (with_reducible refine all_isPtr ?_; intro gp' hbp hgp))
                refine ⟨by kernel_rfl, ?_⟩
                go_simp
                exact ⟨Only.refl _ _, isV.self _ _⟩
              refine owes2_cons (fun wx hox => ?_) ?_
              · skip
                skip
                refine withs_plain rfl ?_
                simp only [withs, List.getElem?_cons_zero, List.getElem?_cons_succ, Option.bind, Option.getD]
                repeat (first | (with_reducible refine all_isV ?_) | (with_reducible refine all_isWR ?_; intro sx Ax kx cx hvx) | (with_reducible refine all_isRow ?_; intro gx' hbx) | (with_reducible refine all_isPtr ?_; intro gp' hbp hgp))
                go_simp
                exact ⟨Only.refl _ _, isV.self _ _⟩
              refine owes2_cons (fun wx hox => ?_) ?_
              · skip
                skip
                refine withs_plain rfl ?_
                simp only [withs, List.getElem?_cons_zero, List.getElem?_cons_succ, Option.bind, Option.getD]
                repeat (first | (with_reducible refine all_isV ?_) | (with_reducible refine all_isWR ?_; intro sx Ax kx cx hvx) | (with_reducible refine all_isRow ?_; intro gx' hbx) | (with_reducible refine all_isPtr ?_; intro gp' hbp hgp))
                go_simp
                exact ⟨Only.refl _ _, isV.self _ _⟩
              refine owes2_cons (fun wx hox => ?_) ?_
              · skip
                have hbw := Lib.hid (HE.out.step hox)
                obtain ⟨t0, t1, -, -⟩ := WB.cells hbw 0 rfl
                obtain ⟨t2, t3, -, -⟩ := WB.cells hbw 1 rfl
                obtain ⟨t4, t5, -, -⟩ := WB.cells hbw 6 rfl
                have iv0 := WB.iv hbw 0 rfl
                have iv1 := WB.iv hbw 1 rfl
                have iv6 := WB.iv hbw 6 rfl
                clear hbw
                refine withs_guard rfl rfl ?_
                simp only [withs, List.getElem?_cons_zero, List.getElem?_cons_succ, Option.bind, Option.getD]
                repeat (first | (with_reducible refine all_isV ?_) | (with_reducible refine all_isWR ?_; intro sx Ax kx cx hvx) | (with_reducible refine all_isRow ?_; intro gx' hbx) | (with_reducible refine all_isPtr ?_; intro gp' hbp hgp))
                refine ⟨by kernel_rfl, ?_⟩
                go_simp
                exact ⟨Only.refl _ _, isV.self _ _⟩
              refine owes2_cons (fun wx hox => ?_) ?_
              · skip
                have hbw := Lib.hid (HE.out.step hox)
                obtain ⟨t0, t1, -, -⟩ := WB.cells hbw 0 rfl
                obtain ⟨t2, t3, -, -⟩ := WB.cells hbw 1 rfl
                obtain ⟨t4, t5, -, -⟩ := WB.cells hbw 6 rfl
                have iv0 := WB.iv hbw 0 rfl
                have iv1 := WB.iv hbw 1 rfl
                have iv6 := WB.iv hbw 6 rfl
                clear hbw
                refine withs_guard rfl rfl ?_
                simp only [withs, List.getElem?_cons_zero, List.getElem?_cons_succ, Option.bind, Option.getD]
                repeat (first | (with_reducible refine all_isV ?_) | (with_reducible refine all_isWR ?_; intro sx Ax kx cx hvx) | (with_reducible refine all_isRow ?_; intro gx' hbx) | (with_reducible refine all_isPtr ?_; intro gp' hbp hgp))
                refine ⟨by kernel_rfl, ?_⟩
                go_simp
                (with_reducible exact grow_w (of_w 1 _ (Lib.hid (by omega))) hox)
              refine owes2_cons (fun wx hox => ?_) ?_
              · skip
                have hbw := Lib.hid (HE.out.step hox)
                obtain ⟨t0, t1, -, -⟩ := WB.cells hbw 0 rfl
                obtain ⟨t2, t3, -, -⟩ := WB.cells hbw 1 rfl
                obtain ⟨t4, t5, -, -⟩ := WB.cells hbw 6 rfl
                have iv0 := WB.iv hbw 0 rfl
                have iv1 := WB.iv hbw 1 rfl
                have iv6 := WB.iv hbw 6 rfl
                clear hbw
                refine withs_guard rfl rfl ?_
                simp only [withs, List.getElem?_cons_zero, List.getElem?_cons_succ, Option.bind, Option.getD]
                repeat (first | (with_reducible refine all_isV ?_) | (with_reducible refine all_isWR ?_; intro sx Ax kx cx hvx) | (with_reducible refine all_isRow ?_; intro gx' hbx) | (with_reducible refine all_isPtr ?_; intro gp' hbp hgp))
                refine ⟨by kernel_rfl, ?_⟩
                go_simp
                (with_reducible exact grow_of (cmpV_w (x := N) (y := 1) cn (by assumption) (by assumption) HCn.out))
              refine owes2_cons (fun wx hox => ?_) ?_
              · skip
                skip
                refine withs_guard rfl rfl ?_
                simp only [withs, List.getElem?_cons_zero, List.getElem?_cons_succ, Option.bind, Option.getD]
                repeat (first | (with_reducible refine all_isV ?_) | (with_reducible refine all_isWR ?_; intro sx Ax kx cx hvx) | (with_reducible refine all_isRow ?_; intro gx' hbx) | (with_reducible refine all_isPtr ?_; intro gp' hbp hgp))
                refine ⟨by kernel_rfl, ?_⟩
                go_simp
                exact ⟨Only.refl _ _, isV.self _ _⟩
              refine owes2_cons (fun wx hox => ?_) ?_
              · skip
                skip
                refine withs_plain rfl ?_
                simp only [withs, List.getElem?_cons_zero, List.getElem?_cons_succ, Option.bind, Option.getD]
                repeat (first | (with_reducible refine all_isV ?_) | (with_reducible refine all_isWR ?_; intro sx Ax kx cx hvx) | (with_reducible refine all_isRow ?_; intro gx' hbx) | (with_reducible refine all_isPtr ?_; intro gp' hbp hgp))
                go_simp
                exact ⟨Only.refl _ _, isV.self _ _⟩
              refine owes2_cons (fun wx hox => ?_) ?_
              · skip
                skip
                refine withs_plain rfl ?_
                simp only [withs, List.getElem?_cons_zero, List.getElem?_cons_succ, Option.bind, Option.getD]
                repeat (first | (with_reducible refine all_isV ?_) | (with_reducible refine all_isWR ?_; intro sx Ax kx cx hvx) | (with_reducible refine all_isRow ?_; intro gx' hbx) | (with_reducible refine all_isPtr ?_; intro gp' hbp hgp))
                go_simp
                exact ⟨Only.refl _ _, isV.self _ _⟩
              refine owes2_cons (fun wx hox => ?_) ?_
              · skip
                have hbw := Lib.hid (HE.out.step hox)
                obtain ⟨t0, t1, -, -⟩ := WB.cells hbw 0 rfl
                obtain ⟨t2, t3, -, -⟩ := WB.cells hbw 1 rfl
                obtain ⟨t4, t5, -, -⟩ := WB.cells hbw 6 rfl
                have iv0 := WB.iv hbw 0 rfl
                have iv1 := WB.iv hbw 1 rfl
                have iv6 := WB.iv hbw 6 rfl
                clear hbw
                refine withs_guard rfl rfl ?_
                simp only [withs, List.getElem?_cons_zero, List.getElem?_cons_succ, Option.bind, Option.getD]
                repeat (first | (with_reducible refine all_isV ?_) | (with_reducible refine all_isWR ?_; intro sx Ax kx cx hvx) | (with_reducible refine all_isRow ?_; intro gx' hbx) | (with_reducible refine all_isPtr ?_; intro gp' hbp hgp))
                refine ⟨by kernel_rfl, ?_⟩
                go_simp
                exact ⟨Only.refl _ _, isV.self _ _⟩
              refine owes2_cons (fun wx hox => ?_) ?_
              · skip
                have hbw := Lib.hid (HE.out.step hox)
                obtain ⟨t0, t1, -, -⟩ := WB.cells hbw 0 rfl
                obtain ⟨t2, t3, -, -⟩ := WB.cells hbw 1 rfl
                obtain ⟨t4, t5, -, -⟩ := WB.cells hbw 6 rfl
                have iv0 := WB.iv hbw 0 rfl
                have iv1 := WB.iv hbw 1 rfl
                have iv6 := WB.iv hbw 6 rfl
                clear hbw
                refine withs_guard rfl rfl ?_
                simp only [withs, List.getElem?_cons_zero, List.getElem?_cons_succ, Option.bind, Option.getD]
                repeat (first | (with_reducible refine all_isV ?_) | (with_reducible refine all_isWR ?_; intro sx Ax kx cx hvx) | (with_reducible refine all_isRow ?_; intro gx' hbx) | (with_reducible refine all_isPtr ?_; intro gp' hbp hgp))
                refine ⟨by kernel_rfl, ?_⟩
                go_simp
                (with_reducible exact grow_of (signV_w (z := N) n (by assumption) HNs.out))
              refine owes2_cons (fun wx hox => ?_) ?_
              · skip
                skip
                refine withs_guard rfl rfl ?_
                simp only [withs, List.getElem?_cons_zero, List.getElem?_cons_succ, Option.bind, Option.getD]
                repeat (first | (with_reducible refine all_isV ?_) | (with_reducible refine all_isWR ?_; intro sx Ax kx cx hvx) | (with_reducible refine all_isRow ?_; intro gx' hbx) | (with_reducible refine all_isPtr ?_; intro gp' hbp hgp))
                refine ⟨by kernel_rfl, ?_⟩
                go_simp
                exact ⟨Only.refl _ _, isV.self _ _⟩
              refine owes2_cons (fun wx hox => ?_) ?_
              · skip
                skip
                refine withs_plain rfl ?_
                simp only [withs, List.getElem?_cons_zero, List.getElem?_cons_succ, Option.bind, Option.getD]
                repeat (first | (with_reducible refine all_isV ?_) | (with_reducible refine all_isWR ?_; intro sx Ax kx cx hvx) | (with_reducible refine all_isRow ?_; intro gx' hbx) | (with_reducible refine all_isPtr ?_; intro gp' hbp hgp))
                go_simp
                exact ⟨Only.refl _ _, isV.self _ _⟩
              refine owes2_cons (fun wx hox => ?_) ?_
              · skip
                skip
                refine withs_plain rfl ?_
                simp only [withs, List.getElem?_cons_zero, List.getElem?_cons_succ, Option.bind, Option.getD]
                repeat (first | (with_reducible refine all_isV ?_) | (with_reducible refine all_isWR ?_; intro sx Ax kx cx hvx) | (with_reducible refine all_isRow ?_; intro gx' hbx) | (with_reducible refine all_isPtr ?_; intro gp' hbp hgp))
                go_simp
                exact ⟨Only.refl _ _, isV.self _ _⟩
              exact owes2_nil
            case he =>
              intro wx hox
              simp only [waits, withs, Region.binds, List.filter, List.map, List.getElem?_cons_zero, List.getElem?_cons_succ, Option.bind, Option.getD, List.range, List.range.loop, List.length]
              repeat (first | refine all_isV ?_ | (refine all_isWR ?_; intro sx Ax kx cx hvx) | (refine all_isRow ?_; intro gx' hbx) | (refine all_isPtr ?_; intro gp' hbp hgp) | (intro vx hx'; clear hx'))
              go_simp
              go_wp2_with fail
              go_ret
              exact ⟨rfl, HE.out.only.nil_trans hox⟩
            case hl =>
              repeat (refine List.forall_mem_cons.2 ⟨?_, ?_⟩; first | exact isV.lasts _ | exact isNR.lasts _ _ | exact isWR.lasts _ _ | exact isRow.lasts _ _ _ | exact isPtr.lasts _ _ _)
              exact fun _ h => (by cases h)
          case hl =>
            repeat (refine List.forall_mem_cons.2 ⟨?_, ?_⟩; first | exact isV.lasts _ | exact isNR.lasts _ _ | exact isWR.lasts _ _ | exact isRow.lasts _ _ _ | exact isPtr.lasts _ _ _)
            exact fun _ h => (by cases h)
      case hl =>
        repeat (refine List.forall_mem_cons.2 ⟨?_, ?_⟩; first | exact isV.lasts _ | exact isNR.lasts _ _ | exact isWR.lasts _ _ | exact isRow.lasts _ _ _ | exact isPtr.lasts _ _ _)
        exact fun _ h => (by cases h)
end Go.Proofs.YtphjcphcgnjogaaDoor
