/-
  Whole numbers: boxes at hand, rows of one, alive.
-/
import Derived.Test.YtphjcphcgnjogaaDoorWhD
import Derived.Test.YtphjcphcgnjogaaDoorWhE
import Derived.Test.YtphjcphcgnjogaaDoorWhF
namespace Go.Proofs.YtphjcphcgnjogaaDoor
open Go.RowKit
set_option linter.unusedSimpArgs false

theorem growIf_none {P : Program} {l : List Oper} {o : Oper} {a : Act} {w : World} {p : VP} (h : o.guard = none) (hh : growAt P o a w p) : growIf P l o a w p := by
  unfold growIf Region.wanted
  rw [h]
  exact hh
theorem growIf_yes {P : Program} {l : List Oper} {o : Oper} {a : Act} {w : World} {p : VP} {g : Nat} {want : Bool} {d : Nat} (h : o.guard = some (g, want)) (hd : dstOf l g = some d) (hv : a.tmps[d]? = some (.bool want)) (hh : growAt P o a w p) : growIf P l o a w p := by
  have hd' : (l.toArray[g]?).bind (·.dst) = some d := by unfold dstOf at hd; simpa using hd
  unfold growIf Region.wanted yielded
  rw [h]
  simp only [hd', Option.bind_some, hv, beq_self_eq_true, if_true]
  exact hh
theorem growIf_no {P : Program} {l : List Oper} {o : Oper} {a : Act} {w : World} {p : VP} {g : Nat} {want b : Bool} {d : Nat} (h : o.guard = some (g, want)) (hd : dstOf l g = some d) (hv : a.tmps[d]? = some (.bool b)) (hb : want = !b) (hh : p undef w) : growIf P l o a w p := by
  have hd' : (l.toArray[g]?).bind (·.dst) = some d := by unfold dstOf at hd; simpa using hd
  subst hb
  unfold growIf Region.wanted yielded
  rw [h]
  simp only [hd', Option.bind_some, hv]
  cases b <;> exact hh
/-- A whole number in a block of its own. -/
structure BX where
  g : Nat
  s : Bool
  a : Option Addr
  k : Nat
  c : Nat
  z : Int
def BX.v (x : BX) : Value := .agg #[.bool x.s, .slice x.a x.k x.c]
def BX.ok (w : World) (x : BX) : Prop := Blk w x.g 27 [.bool x.s, .slice x.a x.k x.c] ∧ IV w x.v x.z
/-- The boxes at hand. -/
structure WB (w0 w : World) (L : List BX) : Prop where
  only : Only [] w0 w
  all : ∀ (i : Nat) (x : BX), L[i]? = some x → BX.ok w x
theorem WB.start (w : World) : WB w w [] := ⟨Only.refl _ _, fun i x h => by simp at h⟩
theorem WB.step {w0 w w' : World} {L : List BX} (h : WB w0 w L) (ho : Only [] w w') : WB w0 w' L := ⟨h.only.nil_trans ho, fun i x hx => ⟨(h.all i x hx).1.only ho (by simp), (h.all i x hx).2.only ho⟩⟩
theorem WB.push {w0 w : World} {L : List BX} (h : WB w0 w L) {x : BX} (hx : BX.ok w x) : WB w0 w (x :: L) := ⟨h.only, fun i y hy => by
  cases i with
  | zero => simp at hy; subst hy; exact hx
  | succ i => exact h.all i y (by simpa using hy)⟩
/-- A new box. -/
theorem WB.new {w0 w : World} {L : List BX} (h : WB w0 w L) {s : Bool} {A : Option Addr} {k c : Nat} {z : Int} (hv : IV w (.agg #[.bool s, .slice A k c]) z) : WB w0 (w.alloc (.cells #[.bool s, .slice A k c] 27)) (⟨w.heap.size, s, A, k, c, z⟩ :: L) := by
  have ho : Only [] w (w.alloc (.cells #[.bool s, .slice A k c] 27)) := (Only.refl [] w).alloc _
  exact (h.step ho).push ⟨Blk.new w 27 [.bool s, .slice A k c], hv.only ho⟩
theorem WB.iv {w0 w : World} {L : List BX} (h : Hid (WB w0 w L)) (i : Nat) {g : Nat} {s : Bool} {A : Option Addr} {k c : Nat} {z : Int} (hi : L[i]? = some ⟨g, s, A, k, c, z⟩) : Hid (IV w (.agg #[.bool s, .slice A k c]) z) := (h.out.all i _ hi).2
theorem WB.blk {w0 w : World} {L : List BX} (h : Hid (WB w0 w L)) (i : Nat) {g : Nat} {s : Bool} {A : Option Addr} {k c : Nat} {z : Int} (hi : L[i]? = some ⟨g, s, A, k, c, z⟩) : Blk w g 27 [.bool s, .slice A k c] := (h.out.all i _ hi).1
theorem WB.cells {w0 w : World} {L : List BX} (h : Hid (WB w0 w L)) (i : Nat) {g : Nat} {s : Bool} {A : Option Addr} {k c : Nat} {z : Int} (hi : L[i]? = some ⟨g, s, A, k, c, z⟩) :
    w.cell? ⟨g, 0, none⟩ = some (.bool s) ∧ w.cell? ⟨g, 1, none⟩ = some (.slice A k c) ∧ w.frozen? ⟨g, 0, none⟩ = false ∧ w.frozen? ⟨g, 1, none⟩ = false :=
  ⟨(WB.blk h i hi).cell 0, (WB.blk h i hi).cell 1, (WB.blk h i hi).frozen 0, (WB.blk h i hi).frozen 1⟩

theorem all_isWR {w0 : World} {z : Int} {w : World} {K : Value → Prop} (h : ∀ s A k c, Hid (IV w (.agg #[.bool s, .slice A k c]) z) → K (.agg #[.bool s, .slice A k c])) : ∀ v, isWR w0 z v w → K v := fun v ⟨s, A, k, c, h1, _, _, h4⟩ => by
  subst h1
  exact h s A k c h4
theorem all_isRow {t : TypeId} {n : Nat} {cs : List Value} {w : World} {K : Value → Prop} (h : ∀ g, Hid (Blk w g t cs) → K (.slice (some ⟨g, 0, none⟩) n n)) : ∀ v, isRow t n cs v w → K v := fun v ⟨g, h1, h2⟩ => by
  subst h1
  exact h g h2
/-- A new struct's block. -/
def isPtr (w0 : World) (t : TypeId) (cs : List Value) : VP := fun u w => ∃ g, u = .pointer (some ⟨g, 0, none⟩) ∧ Blk w g t cs ∧ w0.heap.size ≤ g
theorem isPtr.lasts (w0 : World) (t : TypeId) (cs : List Value) : Lasts (isPtr w0 t cs) := fun _ _ _ ⟨g, h1, h2, h3⟩ ho => ⟨g, h1, h2.only ho (by simp), h3⟩
theorem isPtr.new {w0 w : World} (ho : Only [] w0 w) (t : TypeId) (cs : List Value) : Only [] w (w.alloc (.cells cs.toArray t)) ∧ isPtr w0 t cs (.pointer (some ⟨w.heap.size, 0, none⟩)) (w.alloc (.cells cs.toArray t)) := ⟨(Only.refl [] w).alloc _, _, rfl, Blk.new w t cs, ho.size⟩
theorem all_isPtr {w0 : World} {t : TypeId} {cs : List Value} {w : World} {K : Value → Prop} (h : ∀ g, Hid (Blk w g t cs) → Hid (w0.heap.size ≤ g) → K (.pointer (some ⟨g, 0, none⟩))) : ∀ v, isPtr w0 t cs v w → K v := fun v ⟨g, h1, h2, h3⟩ => by
  subst h1
  exact h g h2 h3
theorem cmpV_w {w : World} {a b : Value} {x y : Int} (c : Int) (ha : Hid (IV w a x)) (hb : Hid (IV w b y)) (hc : cmpI x y = c) : Calls Tryd.prog 13 #[a, b] w fun e w' => e = .returned (.int .i64 c) ∧ Only [] w w' := hc ▸ cmp_w ha hb
theorem signV_w {w : World} {a : Value} {z : Int} (c : Int) (ha : Hid (IV w a z)) (hc : z.sign = c) : Calls Tryd.prog 15 #[a] w fun e w' => e = .returned (.int .i64 c) ∧ Only [] w w' := hc ▸ sign_w ha
section
variable {l : List Oper} {Ps : List VP} {w : World} {K : Act → Prop} {a : Act} {i : Nat} {is : List Nat}
theorem withs_isV (d : Nat) (X : Value) (hd : dstOf l i = some d) (hp : (Ps[i]?.getD fun _ _ => True) = isV X) (h : withs l Ps w K is (a.put (some d) X)) : withs l Ps w K (i :: is) a :=
  withs_some d _ hd hp fun v hv => by
    have e : v = X := hv
    rw [e]
    exact h
theorem withs_isWR (d : Nat) (w0 : World) (z : Int) (hd : dstOf l i = some d) (hp : (Ps[i]?.getD fun _ _ => True) = isWR w0 z) (h : ∀ s A k c, Hid (IV w (.agg #[.bool s, .slice A k c]) z) → withs l Ps w K is (a.put (some d) (.agg #[.bool s, .slice A k c]))) : withs l Ps w K (i :: is) a :=
  withs_some d _ hd hp (all_isWR h)
theorem withs_isRow (d : Nat) (t : TypeId) (n : Nat) (cs : List Value) (hd : dstOf l i = some d) (hp : (Ps[i]?.getD fun _ _ => True) = isRow t n cs) (h : ∀ g, Hid (Blk w g t cs) → withs l Ps w K is (a.put (some d) (.slice (some ⟨g, 0, none⟩) n n))) : withs l Ps w K (i :: is) a :=
  withs_some d _ hd hp (all_isRow h)
theorem withs_isPtr (d : Nat) (w0 : World) (t : TypeId) (cs : List Value) (hd : dstOf l i = some d) (hp : (Ps[i]?.getD fun _ _ => True) = isPtr w0 t cs) (h : ∀ g, Hid (Blk w g t cs) → Hid (w0.heap.size ≤ g) → withs l Ps w K is (a.put (some d) (.pointer (some ⟨g, 0, none⟩)))) : withs l Ps w K (i :: is) a :=
  withs_some d _ hd hp (all_isPtr h)
end
/-- A row of one. -/
theorem one_read {w : World} {g : Nat} {s : Bool} {A : Option Addr} {k c : Nat} {z : Int} (hb : Blk w g 27 [.bool s, .slice A k c]) (hv : IV w (.agg #[.bool s, .slice A k c]) z) : WsRead w (some ⟨g, 0, none⟩) [⟨s, A, k, c, z⟩] := fun j hj => by
  obtain rfl : j = 0 := by simp at hj; omega
  exact ⟨g, 0, rfl, hb.cell 0, hb.cell 1, hv⟩
theorem few_one {f : Int → WI → Int} {x : Int} {i : WI} (h0 : Few x.natAbs) (h1 : Few (f x i).natAbs) : FewAll f x [i] := fun k hk => by
  rcases k with _ | _ | k
  · exact h0
  · exact h1
  · simp at hk
theorem add1_w {w : World} {a : Value} {g : Nat} {s : Bool} {A : Option Addr} {k c : Nat} {x y : Int} (hr : Hid (Blk w g 27 [.bool s, .slice A k c])) (ha : Hid (IV w a x)) (hb : Hid (IV w (.agg #[.bool s, .slice A k c]) y)) (hf : Hid (Few (x + y).natAbs)) :
    Calls Tryd.prog 11 #[a, .slice (some ⟨g, 0, none⟩) 1 1] w (WPost (x + y) w w) :=
  add_w (some ⟨g, 0, none⟩) 1 [⟨s, A, k, c, y⟩] ha (Lib.hid (one_read hr.out hb.out)) (by simp) (Lib.hid (few_one ha.out.few hf.out))
theorem mul1_w {w : World} {a : Value} {g : Nat} {s : Bool} {A : Option Addr} {k c : Nat} {x y : Int} (hr : Hid (Blk w g 27 [.bool s, .slice A k c])) (ha : Hid (IV w a x)) (hb : Hid (IV w (.agg #[.bool s, .slice A k c]) y)) (hf : Hid (Few (x * y).natAbs)) :
    Calls Tryd.prog 12 #[a, .slice (some ⟨g, 0, none⟩) 1 1] w (WPost (x * y) w w) :=
  mul_w (some ⟨g, 0, none⟩) 1 [⟨s, A, k, c, y⟩] ha (Lib.hid (one_read hr.out hb.out)) (by simp) (Lib.hid (few_one ha.out.few hf.out))

theorem q_lo : quoI false (-7) 2 = -4 := by decide
theorem q_hi : quoI true (-7) 2 = -3 := by decide
theorem dec_4 : Lib.decDigits 4 = [52] := by rw [dec_small (by omega)]; rfl
theorem dec_3 : Lib.decDigits 3 = [51] := by rw [dec_small (by omega)]; rfl
theorem few_lit {z : Int} (h : z.natAbs < 1000) : Few z.natAbs := few_small (by rw [BB_val]; omega)
set_option maxHeartbeats 1600000 in
set_option maxRecDepth 100000 in
theorem alive2_any (w : World) (htab : Hid (Tab w)) : Calls Tryd.prog 9 #[] w fun e w' => e = .returned (.bool true) ∧ Only [] w w' := by
  have HE := Lib.hid (WB.start w)
  go_enter Tryd.func9, Tryd.ntmps9
  go_wp2_with fail
  (with_reducible refine (of_w (-7) _ (Lib.hid (by omega))).mono ?_)
  rintro e w1 ⟨s1, A1, k1, c1, rfl, -, -, hv, ho⟩
  replace HE := Lib.hid (HE.out.step ho)
  have HV1 := Lib.hid hv
  clear hv ho
  go_wp2_with fail
  (with_reducible refine (of_w 2 _ (Lib.hid (by omega))).mono ?_)
  rintro e w2 ⟨s2, A2, k2, c2, rfl, -, -, hv, ho⟩
  replace HE := Lib.hid (HE.out.step ho)
  replace HV1 := Lib.hid (HV1.out.only ho)
  have HV2 := Lib.hid hv
  clear hv ho
  go_wp2_with fail
  (with_reducible refine (quo_some false HV1 HV2 (Lib.hid (by decide)) (Lib.hid (few_small (by rw [BB_val]; decide)))).mono ?_)
  rintro e wa ⟨s1, A1, k1, c1, rfl, -, -, hv, ho⟩
  replace HE := Lib.hid ((HE.out.step ho).new hv)
  clear hv ho HV1 HV2
  rw [q_lo] at HE
  go_wp2_with fail
  (with_reducible refine (of_w (-7) _ (Lib.hid (by omega))).mono ?_)
  rintro e w1 ⟨s1, A1, k1, c1, rfl, -, -, hv, ho⟩
  replace HE := Lib.hid (HE.out.step ho)
  have HV1 := Lib.hid hv
  clear hv ho
  go_wp2_with fail
  (with_reducible refine (of_w 2 _ (Lib.hid (by omega))).mono ?_)
  rintro e w2 ⟨s2, A2, k2, c2, rfl, -, -, hv, ho⟩
  replace HE := Lib.hid (HE.out.step ho)
  replace HV1 := Lib.hid (HV1.out.only ho)
  have HV2 := Lib.hid hv
  clear hv ho
  go_wp2_with fail
  (with_reducible refine (quo_some true HV1 HV2 (Lib.hid (by decide)) (Lib.hid (few_small (by rw [BB_val]; decide)))).mono ?_)
  rintro e wb ⟨s3, A3, k3, c3, rfl, -, -, hv, ho⟩
  replace HE := Lib.hid ((HE.out.step ho).new hv)
  clear hv ho HV1 HV2
  rw [q_hi] at HE
  obtain ⟨p0, p1, -, -⟩ := WB.cells HE 0 rfl
  obtain ⟨r0, r1, -, -⟩ := WB.cells HE 1 rfl
  go_wp2_with fail
  (with_reducible refine (text_w (WB.iv HE 1 rfl) (Lib.hid (htab.out.only HE.out.only)) (by rw [show (-4 : Int).natAbs = 4 by decide, dec_4]; decide)).mono ?_)
  rintro e w3 ⟨rfl, ho⟩
  rw [show (-4 : Int).natAbs = 4 by decide, dec_4]
  replace HE := Lib.hid (HE.out.step ho)
  clear ho p0 p1 r0 r1
  obtain ⟨p0, p1, -, -⟩ := WB.cells HE 0 rfl
  go_wp2_with fail
  (with_reducible refine (text_w (WB.iv HE 0 rfl) (Lib.hid (htab.out.only HE.out.only)) (by rw [show (-3 : Int).natAbs = 3 by decide, dec_3]; decide)).mono ?_)
  rintro e w4 ⟨rfl, ho⟩
  rw [show (-3 : Int).natAbs = 3 by decide, dec_3]
  replace HE := Lib.hid (HE.out.step ho)
  clear ho p0 p1
  go_wp2_with fail
  (with_reducible refine (of_w (-7) _ (Lib.hid (by omega))).mono ?_)
  rintro e w5 ⟨s5, A5, k5, c5, rfl, -, -, hv, ho⟩
  replace HE := Lib.hid (HE.out.step ho)
  have HV5 := Lib.hid hv
  clear hv ho
  go_wp2_with fail
  (with_reducible refine (sign_w HV5).mono ?_)
  rintro e w6 ⟨rfl, ho⟩
  rw [show (-7 : Int).sign = -1 by decide]
  replace HE := Lib.hid (HE.out.step ho)
  clear ho HV5
  go_wp2_with fail
  go_ret
  exact ⟨rfl, HE.out.only⟩
end Go.Proofs.YtphjcphcgnjogaaDoor
