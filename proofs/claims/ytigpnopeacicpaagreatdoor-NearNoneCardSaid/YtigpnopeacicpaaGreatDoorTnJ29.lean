/-
  Joined texts.
-/
import Derived.Test.YtigpnopeacicpaaGreatDoorTnJ27
import Derived.Test.YtigpnopeacicpaaGreatDoorTnJ28
import Derived.Test.YtigpnopeacicpaaGreatDoorTnJ20
/-
  The first call of compasslaw13.
-/
namespace Go.Proofs.YtigpnopeacicpaaGreatDoor
set_option linter.unusedSimpArgs false
open Go.RowKit
attribute [local go_sem] run_store_float

theorem rint2 (x : Dy) (h : nrm 2 0 = x) (w : World) : Calls Tryz.prog 71 #[.int .i64 2] w (RDP x w) := h ▸ rint_d 2 w (Lib.hid (by omega))
theorem nsqrt_can (P : Nat) (up : Bool) (x : Dy) (hP : 1 ≤ P) : Can (sqrtQ P up x) := by
  unfold sqrtQ
  by_cases h1 : x.z ≤ 0
  · rw [if_pos h1]; exact .inl ⟨rfl, rfl⟩
  · rw [if_neg h1]; exact (sqrt_rd hP (by omega)).can
theorem sqrt_sq {P : Nat} {up : Bool} {x y : Dy} (hP : 1 ≤ P) (hs : Short P x) (hc : Can x) (h0 : 0 ≤ x.z) (hy : dMul x x = y) : sqrtQ P up y = x := by
  subst hy
  refine Can.ext (nsqrt_can P up _ hP) hc ?_
  rw [sqrt_exact hP hs]
  obtain ⟨z, e⟩ := x
  show (Dy.q ⟨(z.natAbs : Int), e⟩) = _
  rw [show ((z.natAbs : Nat) : Int) = z from by have : 0 ≤ z := h0; omega]
/-- The dag of the first call. -/
def ns13 : List Nd := [⟨0, 4616189618054758400, 0, 0⟩, ⟨5, 0, 0, 0⟩]
def g13 (x : Int) : Dy × Dy := if x = 0 then (⟨1, 2⟩, ⟨1, 2⟩) else (⟨1, 1⟩, ⟨1, 1⟩)
theorem ok13 : AllOk ns13 := by
  intro j hj
  have : j = 0 ∨ j = 1 := by simp [ns13] at hj; omega
  rcases this with rfl | rfl <;> decide +kernel
theorem bel13 : belowOf ns13 ((1 : Nat) : Int) = [0, 1] := by
  have r1 : Reach ns13 (· ∈ [((1 : Nat) : Int)]) 1 := .root _ (by simp) (by simp) (by simp [ns13])
  refine (below_is (ok_dag ok13) (fun x => decide (x = 0 ∨ x = 1)) (fun x hx => ?_) (fun x hx hS c hc y hy => ?_) (fun x hx hS => ?_)).trans rfl
  · simp; omega
  · have : x = 0 ∨ x = 1 := by simpa using hS
    rcases this with rfl | rfl <;> simp [kids, nodeAt, ns13] at hc <;> (simp; omega)
  · have : x = 0 ∨ x = 1 := by simpa using hS
    rcases this with rfl | rfl
    · exact .kid 1 _ r1 (by simp [kids, nodeAt, ns13])
    · exact r1
theorem bnd_12 : Bnd 4 ⟨1, 2⟩ := bnd_s (by decide) (by decide) (by decide)
theorem bnd_11 : Bnd 4 ⟨1, 1⟩ := bnd_s (by decide) (by decide) (by decide)
theorem nrm_12_ : nrm 1 2 = ⟨1, 2⟩ := by rw [nrm_eval 0 0 (by decide)]; rfl
theorem nrm_2 : nrm 2 0 = ⟨1, 1⟩ := by rw [nrm_eval 1 0 (by decide)]; rfl
theorem leaf_4 (W : World) (hT : Tab6 W) : Calls Tryz.prog 144 #[.float .f64 4616189618054758400] W (QDPost ⟨1, 2⟩ true W) :=
  Fl.fl_dyadV _ false ⟨1, 2⟩ (r := 4616189618054758400) (by decide) (by decide) (by
    unfold Fl.fD
    rw [show Fl.mantW 4616189618054758400 = 4503599627370496 by decide, show Fl.expoW 4616189618054758400 = 1024 by decide]
    exact nrm_eval 52 0 (by decide)) W (Lib.hid hT)
theorem sqrt_4 {P : Nat} (hP : 1 ≤ P) (up : Bool) : sqrtQ P up ⟨1, 2⟩ = ⟨1, 1⟩ :=
  sqrt_sq hP (by show (1 : Nat) < 2 ^ P; exact Nat.one_lt_two_pow (by omega)) (.inr rfl) (by decide) nrm_12_
theorem ev13 (d : Nat) (v : Value) (w : World) (hd : DagIs w d v none ns13) (hT : Hid (Tab6 w)) :
    Calls Tryz.prog 74 #[.pointer (some ⟨d, 0, none⟩), .int .i64 1, .int .i64 10, .bool false] w (EvYes 1 ⟨1, 1⟩ ⟨1, 1⟩ w) := by
  refine nev_yes d v none ns13 1 10 w [0, 1] g13 ⟨1, 1⟩ ⟨1, 1⟩ hd (ok_dag ok13) (by simp [ns13]) (by simp [ns13]) (by omega) bel13 (fun x hx => ?_) (fun x hx => ?_) (fun k hk => ?_) rfl hT
  · have : x = 0 ∨ x = 1 := by simp [ns13] at hx; omega
    unfold Small
    rcases this with rfl | rfl <;> simp [nodeAt, ns13]
  · have : x = 0 ∨ x = 1 := by simp [ns13] at hx; omega
    rcases this with rfl | rfl <;> simp [nodeAt, ns13]
  · have : k = 0 ∨ k = 1 := by simp at hk; omega
    have hP := (widthP_range 10).1
    rcases this with rfl | rfl
    · exact ⟨combN_leaf (z := ⟨1, 2⟩) 0 4616189618054758400 0 0 rfl rfl (Lib.hid leaf_4) bnd_12 (by omega) nrm_12_, by decide +kernel, by decide +kernel, bnd_12.mono (by omega), bnd_12.mono (by omega)⟩
    · exact ⟨combN_root (x := ⟨1, 2⟩) (y := ⟨1, 2⟩) 1 0 0 0 rfl rfl rfl (by decide) (sqrt_4 hP false) (sqrt_4 hP true) bnd_12 bnd_12 (by omega), by decide +kernel, by decide +kernel, bnd_11.mono (by omega), bnd_11.mono (by omega)⟩

set_option maxHeartbeats 8000000 in
set_option maxRecDepth 100000 in
theorem alive13_any (w : World) (hT : Hid (Tab6 w)) : Calls Tryz.prog 34 #[] w fun e w' => e = .returned (.bool true) ∧ Only [] w w' := by
  obtain ⟨x, hx⟩ : ∃ x : Dy, (⟨1, 1⟩ : Dy) = x := ⟨_, rfl⟩
  have HN2 : Hid (nrm 2 0 = x) := nrm_2.trans hx
  have HCx : Hid (Can x) := hx ▸ .inr rfl
  have HBx : Hid (Bnd 4 x) := hx ▸ bnd_11
  have HEv : Hid (∀ (d : Nat) (v : Value) (W : World), DagIs W d v none ns13 → Tab6 W → Calls Tryz.prog 74 #[.pointer (some ⟨d, 0, none⟩), .int .i64 1, .int .i64 10, .bool false] W (EvYes 1 x x W)) := fun d v W h1 h2 => hx ▸ ev13 d v W h1 (Lib.hid h2)
  clear hx
  go_enter Tryz.func34, Tryz.ntmps34
  go_wp2_with fail
  have HB := Lib.hid (Blk.new w 95 [.int .i64 0, .float .f64 4616189618054758400, .int .i64 0, .int .i64 0, .int .i64 5, .float .f64 0, .int .i64 0, .int .i64 0])
  have HA : Hid (NRead (w.alloc (.cells #[.int .i64 0, .float .f64 4616189618054758400, .int .i64 0, .int .i64 0, .int .i64 5, .float .f64 0, .int .i64 0, .int .i64 0] 95)) (some ⟨w.heap.size, 0, none⟩) ns13) := fun k hk => by
    refine ⟨w.heap.size, 0, rfl, ?_⟩
    have : k = 0 ∨ k = 1 := by simp [ns13] at hk; omega
    rcases this with rfl | rfl
    · exact ⟨HB.out.cell 0, HB.out.cell 1, HB.out.cell 2, HB.out.cell 3⟩
    · exact ⟨HB.out.cell 4, HB.out.cell 5, HB.out.cell 6, HB.out.cell 7⟩
  have HF : Hid (∀ k, k < ns13.length → (ns13[k]?.getD nd0).f < 2 ^ 64) := fun k hk => by
    have : k = 0 ∨ k = 1 := by simp [ns13] at hk; omega
    rcases this with rfl | rfl <;> decide
  refine (load10_any (some ⟨w.heap.size, 0, none⟩) 2 ns13 _ HA HF (by decide) (Lib.hid ok13)).mono ?_
  rintro e w1 ⟨d, v, rfl, hown⟩
  have HD := Lib.hid hown.is
  have HO1 : Hid (Only [] w w1) := ((Only.refl [] w).alloc _).nil_trans hown.only
  clear hown HA HF HB
  go_wp2_with fail
  refine (nof_yes d 1 10 w1 x x (Lib.hid (by unfold Small; omega)) (Lib.hid fun W ho => HEv.out d v W (HD.out.only ho (by simp)) (hT.out.keep (HO1.out.nil_trans ho)))).mono ?_
  rintro e w2 ⟨s5, A5, k5, c5, s6, A6, k6, c6, rfl, hc5, hv5, hc6, hv6, ho⟩
  have HC5 : Hid (Cn s5 k5 x.z) := hc5
  have HC6 : Hid (Cn s6 k6 x.z) := hc6
  have h_ := (GB.start w).step (HO1.out.nil_trans ho)
  have HG := Lib.hid (h_.new 34 [.bool s5, .slice A5 k5 c5, .int .i64 x.e, .bool s6, .slice A6 k6 c6, .int .i64 x.e] (noLimb6 _ _ _ _ _ _ _ _ _ _))
  have HI := Lib.hid ((((WL.nil w2).cons (Lib.hid hv6)).cons (Lib.hid hv5)).step ((Only.refl [] w2).alloc (.cells #[.bool s5, .slice A5 k5 c5, .int .i64 x.e, .bool s6, .slice A6 k6 c6, .int .i64 x.e] 34)))
  have HR := Lib.hid (RL.nil (w2.alloc (.cells #[.bool s5, .slice A5 k5 c5, .int .i64 x.e, .bool s6, .slice A6 k6 c6, .int .i64 x.e] 34)))
  clear h_ ho hc5 hc6 hv5 hv6 HD HO1 HEv
  go_upto_region 5 with fail
  generalize w2.heap.size = g_b at *
  generalize w2.alloc _ = w3 at *
  apply wp_region_typed2 (by kernel_rfl) [isV _, isV _, isV _, isRD x, isRD x, isRB x x, isV _, isV _, isV _] [[], [0], [1], [1], [1], [1, 3, 4], [1, 2, 5], [1, 6], [7]] (by kernel_rfl) (by kernel_rfl)
  case ho =>
    refine owes2_cons (fun wx hox => ?_) ?_
    · skip
      skip
      refine withs_plain rfl ?_
      simp only [withs, List.getElem?_cons_zero, List.getElem?_cons_succ, Option.bind, Option.getD]
      repeat (first | (with_reducible refine all_isV ?_) | (with_reducible refine all_isRD ?_; intro sx Ax kx cx hvx hwx) | (with_reducible refine all_isRB ?_; intro sx Ax kx cx tx Bx mx dx hvx hwx))
      go_simp
      exact ⟨Only.refl _ _, isV.self _ _⟩
    refine owes2_cons (fun wx hox => ?_) ?_
    · skip
      skip
      refine withs_plain rfl ?_
      simp only [withs, List.getElem?_cons_zero, List.getElem?_cons_succ, Option.bind, Option.getD]
      repeat (first | (with_reducible refine all_isV ?_) | (with_reducible refine all_isRD ?_; intro sx Ax kx cx hvx hwx) | (with_reducible refine all_isRB ?_; intro sx Ax kx cx tx Bx mx dx hvx hwx))
      go_simp
      exact ⟨Only.refl _ _, isV.self _ _⟩
    refine owes2_cons (fun wx hox => ?_) ?_
    · skip
      have hg := Lib.hid (HG.out.step hox)
      have hi := Lib.hid (HI.out.step hox)
      have hr := Lib.hid (HR.out.step hox)
      obtain ⟨x1_0, x1_1, x1_2, x1_3, x1_4, x1_5⟩ := GB.c6 hg 0 rfl
      clear hg hi hr
      refine withs_guard rfl rfl ?_
      simp only [withs, List.getElem?_cons_zero, List.getElem?_cons_succ, Option.bind, Option.getD]
      repeat (first | (with_reducible refine all_isV ?_) | (with_reducible refine all_isRD ?_; intro sx Ax kx cx hvx hwx) | (with_reducible refine all_isRB ?_; intro sx Ax kx cx tx Bx mx dx hvx hwx))
      refine ⟨by kernel_rfl, ?_⟩
      go_simp
      exact ⟨Only.refl _ _, isV.self _ _⟩
    refine owes2_cons (fun wx hox => ?_) ?_
    · skip
      skip
      refine withs_guard rfl rfl ?_
      simp only [withs, List.getElem?_cons_zero, List.getElem?_cons_succ, Option.bind, Option.getD]
      repeat (first | (with_reducible refine all_isV ?_) | (with_reducible refine all_isRD ?_; intro sx Ax kx cx hvx hwx) | (with_reducible refine all_isRB ?_; intro sx Ax kx cx tx Bx mx dx hvx hwx))
      refine ⟨by kernel_rfl, ?_⟩
      go_simp
      (with_reducible exact grow_rd (rint2 x HN2.out _))
    refine owes2_cons (fun wx hox => ?_) ?_
    · skip
      skip
      refine withs_guard rfl rfl ?_
      simp only [withs, List.getElem?_cons_zero, List.getElem?_cons_succ, Option.bind, Option.getD]
      repeat (first | (with_reducible refine all_isV ?_) | (with_reducible refine all_isRD ?_; intro sx Ax kx cx hvx hwx) | (with_reducible refine all_isRB ?_; intro sx Ax kx cx tx Bx mx dx hvx hwx))
      refine ⟨by kernel_rfl, ?_⟩
      go_simp
      (with_reducible exact grow_rd (rint2 x HN2.out _))
    refine owes2_cons (fun wx hox => ?_) ?_
    · skip
      skip
      refine withs_guard rfl rfl ?_
      simp only [withs, List.getElem?_cons_zero, List.getElem?_cons_succ, Option.bind, Option.getD]
      repeat (first | (with_reducible refine all_isV ?_) | (with_reducible refine all_isRD ?_; intro sx Ax kx cx hvx hwx) | (with_reducible refine all_isRB ?_; intro sx Ax kx cx tx Bx mx dx hvx hwx))
      refine ⟨by kernel_rfl, ?_⟩
      go_simp
      (exact ⟨Only.refl _ _, (RBV.of (by assumption) (by assumption) (by assumption) (by assumption)).out⟩)
    refine owes2_cons (fun wx hox => ?_) ?_
    · skip
      have hg := Lib.hid (HG.out.step hox)
      have hi := Lib.hid (HI.out.step hox)
      have hr := Lib.hid (HR.out.step hox)
      have iv_bh := (WL.at (z := x.z) hi 1 rfl)
      have iv_bl := (WL.at (z := x.z) hi 0 rfl)
      clear hg hi hr
      refine withs_guard rfl rfl ?_
      simp only [withs, List.getElem?_cons_zero, List.getElem?_cons_succ, Option.bind, Option.getD]
      repeat (first | (with_reducible refine all_isV ?_) | (with_reducible refine all_isRD ?_; intro sx Ax kx cx hvx hwx) | (with_reducible refine all_isRB ?_; intro sx Ax kx cx tx Bx mx dx hvx hwx))
      refine ⟨by kernel_rfl, ?_⟩
      go_simp
      (with_reducible exact grow_of (is5_b (x := x) (y := x) (isBC.mk (Lib.hid (isD.of (x := x) iv_bl HC5)) (Lib.hid (isD.of (x := x) iv_bh HC6))) (RBV.mk (by assumption) (by assumption)) HCx HCx HBx HBx (by omega)))
    refine owes2_cons (fun wx hox => ?_) ?_
    · skip
      skip
      refine withs_plain rfl ?_
      simp only [withs, List.getElem?_cons_zero, List.getElem?_cons_succ, Option.bind, Option.getD]
      repeat (first | (with_reducible refine all_isV ?_) | (with_reducible refine all_isRD ?_; intro sx Ax kx cx hvx hwx) | (with_reducible refine all_isRB ?_; intro sx Ax kx cx tx Bx mx dx hvx hwx))
      go_simp
      exact ⟨Only.refl _ _, isV.self _ _⟩
    refine owes2_cons (fun wx hox => ?_) ?_
    · skip
      skip
      refine withs_plain rfl ?_
      simp only [withs, List.getElem?_cons_zero, List.getElem?_cons_succ, Option.bind, Option.getD]
      repeat (first | (with_reducible refine all_isV ?_) | (with_reducible refine all_isRD ?_; intro sx Ax kx cx hvx hwx) | (with_reducible refine all_isRB ?_; intro sx Ax kx cx tx Bx mx dx hvx hwx))
      go_simp
      exact ⟨Only.refl _ _, isV.self _ _⟩
    exact owes2_nil
  case hl =>
    repeat (refine List.forall_mem_cons.2 ⟨?_, ?_⟩; first | exact isV.lasts _ | exact isRD.lasts _ | exact isRB.lasts _ _)
    exact fun _ h => (by cases h)
  intro wx hox
  refine withs_of (by simp only [List.length, List.range, List.range.loop]; exact rfl) ?_
  simp only [withs, List.getElem?_cons_zero, List.getElem?_cons_succ, Option.bind, Option.getD]
  repeat (first | (with_reducible refine all_isV ?_) | (with_reducible refine all_isRD ?_; intro sx Ax kx cx hvx hwx) | (with_reducible refine all_isRB ?_; intro sx Ax kx cx tx Bx mx dx hvx hwx))
  go_simp
  as_aux_lemma =>
    replace HG := Lib.hid (HG.out.step hox)
    replace HI := Lib.hid (HI.out.step hox)
    replace HR := Lib.hid (HR.out.step hox)
    clear hox
    go_wp2_with fail
    go_ret
    exact ⟨rfl, HG.out.only⟩
end Go.Proofs.YtigpnopeacicpaaGreatDoor

/-
  NearNone: the walk.
-/
namespace Go.Proofs.YtigpnopeacicpaaGreatDoor
set_option linter.unusedSimpArgs false
open Go.RowKit
attribute [local go_sem] run_store_float

/-- What Of leaves, but for the ball. -/
def OfB (b : Bool) (w : World) (e : Ending) (w' : World) : Prop := ∃ s A k c x t B m d y, e = .returned (.tuple #[.agg #[.bool s, .slice A k c, .int .i64 x, .bool t, .slice B m d, .int .i64 y], .bool b]) ∧ Only [] w w'
theorem OfYes.any {x y : Dy} {w w' : World} {e : Ending} (h : OfYes x y w e w') : OfB true w e w' := by
  obtain ⟨s, A, k, c, t, B, m, d, h1, _, _, _, _, h2⟩ := h
  exact ⟨s, A, k, c, x.e, t, B, m, d, y.e, h1, h2⟩
theorem OfNo.any {w w' : World} {e : Ending} (h : OfNo w e w') : OfB false w e w' := ⟨_, _, _, _, _, _, _, _, _, _, h.1, h.2⟩
/-- The ids that have a ball in the dag of NearNone. -/
def okN (id : Int) : Bool := decide (id = 0 ∨ id = 1 ∨ id = 3)
section
variable {f h : Nat} {p : Int} (d : Nat) (v : Value) (r : Option Nat) (w : World)
theorem of5_no (hf : LeafIs f 3) (hh : LeafIs h (-3)) (hp : 1 ≤ p ∧ p ≤ 65536) (id : Nat) (hid : id = 2 ∨ id = 4) (hd : DagIs w d v r (ns5 f h)) (hT : Hid (Tab6 w)) : Calls Tryz.prog 38 #[.pointer (some ⟨d, 0, none⟩), .int .i64 (id : Int), .int .i64 p] w (OfNo w) :=
  nof_no d id p w (Lib.hid fun W ho => (ev5 hf hh hp d v r id (by omega) W (hd.only ho (by simp)) (Lib.hid (hT.out.keep ho))).mono fun e w' he => by
    rcases he with ⟨h1, _⟩ | ⟨h1, _⟩ | ⟨h1, _⟩ | ⟨_, h2⟩
    · omega
    · omega
    · omega
    · exact h2)
theorem of5_yes (hf : LeafIs f 3) (hh : LeafIs h (-3)) (hp : 1 ≤ p ∧ p ≤ 65536) (id : Nat) (hid : id = 0 ∨ id = 1 ∨ id = 3) (hd : DagIs w d v r (ns5 f h)) (hT : Hid (Tab6 w)) : Calls Tryz.prog 38 #[.pointer (some ⟨d, 0, none⟩), .int .i64 (id : Int), .int .i64 p] w (OfB true w) := by
  have hs : Hid (Small (id : Int)) := by show Small _; unfold Small; omega
  have key : ∀ x y : Dy, (∀ W : World, Only [] w W → Calls Tryz.prog 74 #[.pointer (some ⟨d, 0, none⟩), .int .i64 (id : Int), .int .i64 p, .bool false] W (EvYes (id : Int) x y W)) → Calls Tryz.prog 38 #[.pointer (some ⟨d, 0, none⟩), .int .i64 (id : Int), .int .i64 p] w (OfB true w) :=
    fun x y H => (nof_yes d id p w x y hs (Lib.hid H)).mono fun e w' he => he.any
  have E := fun (W : World) (ho : Only [] w W) => ev5 hf hh hp d v r id (by omega) W (hd.only ho (by simp)) (Lib.hid (hT.out.keep ho))
  rcases hid with rfl | rfl | rfl
  · exact key ⟨3, 0⟩ ⟨3, 0⟩ fun W ho => (E W ho).mono fun e w' he => by
      rcases he with ⟨_, h2⟩ | ⟨h1, _⟩ | ⟨h1, _⟩ | ⟨h1, _⟩ <;> first | exact h2 | omega
  · exact key ⟨0, 0⟩ ⟨0, 0⟩ fun W ho => (E W ho).mono fun e w' he => by
      rcases he with ⟨h1, _⟩ | ⟨_, h2⟩ | ⟨h1, _⟩ | ⟨h1, _⟩ <;> first | exact h2 | omega
  · exact key ⟨-3, 0⟩ ⟨-3, 0⟩ fun W ho => (E W ho).mono fun e w' he => by
      rcases he with ⟨h1, _⟩ | ⟨h1, _⟩ | ⟨_, h2⟩ | ⟨h1, _⟩ <;> first | exact h2 | omega
theorem of5_any (hf : LeafIs f 3) (hh : LeafIs h (-3)) (id p : Int) (b : Bool) (hb : (okN id && decide (1 ≤ p ∧ p ≤ 65536)) = b) (hd : DagIs w d v r (ns5 f h)) (hT : Hid (Tab6 w)) : Calls Tryz.prog 38 #[.pointer (some ⟨d, 0, none⟩), .int .i64 id, .int .i64 p] w (OfB b w) := by
  subst hb
  by_cases h1 : 0 ≤ id ∧ id < 5
  · obtain ⟨n, rfl⟩ : ∃ n : Nat, id = (n : Int) := ⟨id.toNat, by omega⟩
    have hn : n < (ns5 f h).length := by simp [ns5]; omega
    by_cases hp : 1 ≤ p ∧ p ≤ 65536
    · rw [decide_eq_true hp, Bool.and_true]
      by_cases h2 : n = 0 ∨ n = 1 ∨ n = 3
      · rw [show okN (n : Int) = true by unfold okN; exact decide_eq_true (by omega)]
        exact of5_yes d v r w hf hh hp n h2 hd hT
      · rw [show okN (n : Int) = false by unfold okN; exact decide_eq_false (by omega)]
        exact (of5_no d v r w hf hh hp n (by omega) hd hT).mono fun e w' he => he.any
    · rw [decide_eq_false hp, Bool.and_false]
      by_cases h3 : p < 1
      · exact (nof_no d n p w (Lib.hid fun W ho => nev_low p h3 d v r (ns5 f h) n W (Lib.hid (hd.only ho (by simp))) (Lib.hid hn))).mono fun e w' he => he.any
      · exact (nof_no d n p w (Lib.hid fun W ho => nev_high p h3 (by omega) d v r (ns5 f h) n W (Lib.hid (hd.only ho (by simp))) (Lib.hid hn))).mono fun e w' he => he.any
  · rw [show okN id = false by unfold okN; exact decide_eq_false (by omega), Bool.false_and]
    exact (nof_no d id p w (Lib.hid fun W ho => nev_out d v r (ns5 f h) id p W (Lib.hid (hd.only ho (by simp))) (Lib.hid (by show decide _ = false; exact decide_eq_false (by simp [ns5]; omega))))).mono fun e w' he => he.any
end
theorem LeafIs.lt {f : Nat} {z : Int} (h : LeafIs f z) : f < 2 ^ 64 := h.1
theorem LeafIs.fin {f : Nat} {z : Int} (h : LeafIs f z) : finB f = true := h.2.1
theorem takes_leaf (n : Nat) {f : Nat} (hf : finB f = true) : takesB n 0 f 0 0 = true := by simp [takesB, validB, hf]
section
variable {f h m : Nat}
theorem q5_0 (hf : finB f = true) : putId (some m) [] ⟨0, f, 0, 0⟩ = 0 ∧ putNs (some m) [] ⟨0, f, 0, 0⟩ = (ns5 f h).take 1 := by
  simp [putId, putNs, takes_leaf, hf, ns5]
theorem q5_1 : putId (some m) ((ns5 f h).take 1) ⟨2, 0, 0, 0⟩ = 1 ∧ putNs (some m) ((ns5 f h).take 1) ⟨2, 0, 0, 0⟩ = (ns5 f h).take 2 := by
  have t : takesB 1 2 0 0 0 = true := by decide
  simp [putId, putNs, t, ns5]
theorem q5_2 : putId (some m) ((ns5 f h).take 2) ⟨4, 0, 0, 1⟩ = 2 ∧ putNs (some m) ((ns5 f h).take 2) ⟨4, 0, 0, 1⟩ = (ns5 f h).take 3 := by
  have t : takesB 2 4 0 0 1 = true := by decide
  simp [putId, putNs, t, ns5]
theorem q5_3 (hh : finB h = true) (hne : h ≠ f) : putId (some m) ((ns5 f h).take 3) ⟨0, h, 0, 0⟩ = 3 ∧ putNs (some m) ((ns5 f h).take 3) ⟨0, h, 0, 0⟩ = (ns5 f h).take 4 := by
  simp [putId, putNs, takes_leaf, hh, ns5, hne]
theorem q5_4 : putId (some m) ((ns5 f h).take 4) ⟨5, 0, 3, 0⟩ = 4 ∧ putNs (some m) ((ns5 f h).take 4) ⟨5, 0, 3, 0⟩ = ns5 f h := by
  have t : takesB 4 5 0 3 0 = true := by decide
  simp [putId, putNs, t, ns5]
end
/-- The law's dag is at hand. -/
structure NOwn (w0 w : World) (d : Nat) (v : Value) (m : Nat) (ns : List Nd) : Prop where
  own : Own w0 w d v (some m) ns
theorem NOwn.put {w0 w w' : World} {d : Nat} {v : Value} {m : Nat} {ns ns' : List Nd} {n : Nd} {id : Int} {e : Ending} (h : NOwn w0 w d v m ns) (hq : putId (some m) ns n = id ∧ putNs (some m) ns n = ns') (hp : PPost d v (some m) ns n w e w') : ∃ v', e = .returned (.int .i64 id) ∧ NOwn w0 w' d v' m ns' := by
  obtain ⟨v', he, hd, hs⟩ := hp
  rw [hq.1] at he
  rw [hq.2] at hd
  exact ⟨v', he, ⟨h.own.step hs hd⟩⟩
theorem NOwn.step {w0 w w' : World} {d : Nat} {v : Value} {m : Nat} {ns : List Nd} (h : NOwn w0 w d v m ns) (ho : Only [] w w') : NOwn w0 w' d v m ns := ⟨h.own.other ho (by simp) (by simp)⟩
theorem NOwn.start {w0 w1 w2 : World} {m : Nat} (hd : DagIs w2 w1.heap.size (.slice none 0 0) (some m) []) (hm : w1.heap.size ≤ m) (ho1 : Only [] w0 w1) (ho : Only [] w1 w2) : NOwn w0 w2 w1.heap.size (.slice none 0 0) m [] := by
  have A := own_new (r := some m) hd (fun k hk => by injection hk with hk; omega) ho
  exact ⟨A.is, fun k hk => Nat.le_trans ho1.size (A.fresh k hk), ho1.nil_trans A.only⟩
set_option maxHeartbeats 16000000 in
set_option maxRecDepth 100000 in
theorem nearNone_any (id p : Int) (w : World) (_ : (Lit.int .i64 id).wf = true) (_ : (Lit.int .i64 p).wf = true) (hT : Hid (Tab6 w)) :
    Calls Tryz.prog 5 #[.int .i64 id, .int .i64 p] w fun e w' => e = .returned (.bool true) ∧ Only [] w w' := by
  obtain ⟨f, hf⟩ : ∃ f, floatOfInt .f64 3 = f := ⟨_, rfl⟩
  obtain ⟨h, hh⟩ : ∃ h, floatOfInt .f64 (-3) = h := ⟨_, rfl⟩
  have hne : h ≠ f := by rw [← hf, ← hh]; decide +kernel
  have HF3 := Lib.hid hf
  have HH3 := Lib.hid hh
  have HLf : Hid (LeafIs f 3) := hf ▸ leaf_int (z := 3) (by decide)
  have HLh : Hid (LeafIs h (-3)) := hh ▸ leaf_int (z := -3) (by decide)
  have HNe := Lib.hid hne
  clear hf hh hne
  go_enter Tryz.func5, Tryz.ntmps5
  go_wp2_with fail
  (with_reducible refine (alive13_any _ hT).mono ?_)
  rintro e w1 ⟨rfl, ho1⟩
  have HO1 := Lib.hid ho1
  clear ho1
  go_wp2_with fail
  (with_reducible refine (new_any true _).mono ?_)
  rintro e w2 ⟨r1, rfl, hd1, hr1, hm1, ho2⟩
  obtain ⟨m, rfl⟩ : ∃ m, r1 = some m := by
    cases r1 with
    | none => simp at hr1
    | some m => exact ⟨m, rfl⟩
  have HN := Lib.hid (NOwn.start hd1 (hm1 m rfl) HO1.out ho2)
  clear hd1 hr1 hm1 ho2
  generalize w1.heap.size = d at *
  go_wp2_with fail
  (with_reducible refine (dintr_any d _ (some m) [] 3 f _ HF3 (Lib.hid HLf.out.lt) (by omega) (by omega) (Lib.hid HN.out.own.is) (Lib.hid (by simp))).mono ?_)
  intro e w3 hpp
  obtain ⟨v3, rfl, hn3⟩ := HN.out.put (q5_0 (h := h) HLf.out.fin) hpp
  clear HN hpp
  have HN := Lib.hid hn3
  clear hn3
  go_wp2_with fail
  (with_reducible refine (dsub_any d _ (some m) ((ns5 f h).take 1) 0 0 _ HN.out.own.is (Lib.hid (by simp [ns5]))).mono ?_)
  intro e w4 hpp
  obtain ⟨v4, rfl, hn4⟩ := HN.out.put q5_1 hpp
  clear HN hpp
  have HN := Lib.hid hn4
  clear hn4
  go_wp2_with fail
  (with_reducible refine (ddiv_any d _ (some m) ((ns5 f h).take 2) 0 1 _ HN.out.own.is (Lib.hid (by simp [ns5]))).mono ?_)
  intro e w5 hpp
  obtain ⟨v5, rfl, hn5⟩ := HN.out.put q5_2 hpp
  clear HN hpp
  have HN := Lib.hid hn5
  clear hn5
  go_wp2_with fail
  (with_reducible refine (dintr_any d _ (some m) ((ns5 f h).take 3) (-3) h _ HH3 (Lib.hid HLh.out.lt) (by omega) (by omega) (Lib.hid HN.out.own.is) (Lib.hid (by simp [ns5]))).mono ?_)
  intro e w6 hpp
  obtain ⟨v6, rfl, hn6⟩ := HN.out.put (q5_3 HLh.out.fin HNe.out) hpp
  clear HN hpp
  have HN := Lib.hid hn6
  clear hn6
  go_wp2_with fail
  (with_reducible refine (droot_any d _ (some m) ((ns5 f h).take 4) 3 _ HN.out.own.is (Lib.hid (by simp [ns5]))).mono ?_)
  intro e w7 hpp
  obtain ⟨v7, rfl, hn7⟩ := HN.out.put q5_4 hpp
  clear HN hpp
  have HN := Lib.hid hn7
  clear hn7
  have HOf : Hid (∀ (id p : Int) (b : Bool) (W : World), (okN id && decide (1 ≤ p ∧ p ≤ 65536)) = b → NOwn w W d v7 m (ns5 f h) → Calls Tryz.prog 38 #[.pointer (some ⟨d, 0, none⟩), .int .i64 id, .int .i64 p] W (OfB b W)) := fun id p b W hb hn => of5_any d v7 (some m) W HLf.out HLh.out id p b hb hn.own.is (Lib.hid (hT.out.keep hn.own.only))
  have HCl : Hid (∀ W : World, NOwn w W d v7 m (ns5 f h) → Calls Tryz.prog 46 #[.pointer (some ⟨d, 0, none⟩), .int .i64 2, .int .i64 5, .int .i64 256] W (OfB false W)) := fun W hn =>
    (nclose_no d 2 5 W (Lib.hid fun p W' hp4 ho => of5_no d v7 (some m) W' HLf.out HLh.out (by omega) 2 (.inl rfl) (hn.own.is.only ho (by simp)) (Lib.hid (hT.out.keep (hn.own.only.nil_trans ho))))).mono fun e w' he => he.any
  clear HLf HLh HF3 HH3 HNe HO1
  go_wp2_with fail
  (with_reducible refine (HOf.out 2 64 false _ (by decide) HN.out).mono ?_)
  rintro e w9 ⟨s, A, k, c, x, t, B, l, e_, y, rfl, ho⟩
  have HN9 := Lib.hid (HN.out.step (ho.alloc (.cells #[.bool s, .slice A k c, .int .i64 x, .bool t, .slice B l e_, .int .i64 y] 34)))
  clear HN ho
  go_upto_region 10 with fail
  generalize w9.alloc _ = w10 at *
  generalize w9.heap.size = b10 at *
  clear w9
  have HN := HN9
  clear HN9
  go_wp2_with fail
  (with_reducible refine (HOf.out 4 64 false _ (by decide) HN.out).mono ?_)
  rintro e w9 ⟨s, A, k, c, x, t, B, l, e_, y, rfl, ho⟩
  have HN9 := Lib.hid (HN.out.step (ho.alloc (.cells #[.bool s, .slice A k c, .int .i64 x, .bool t, .slice B l e_, .int .i64 y] 34)))
  clear HN ho
  go_upto_region 11 with fail
  generalize w9.alloc _ = w10 at *
  generalize w9.heap.size = b10 at *
  clear w9
  have HN := HN9
  clear HN9
  go_wp2_with fail
  (with_reducible refine (HOf.out 0 0 false _ (by decide) HN.out).mono ?_)
  rintro e w9 ⟨s, A, k, c, x, t, B, l, e_, y, rfl, ho⟩
  have HN9 := Lib.hid (HN.out.step (ho.alloc (.cells #[.bool s, .slice A k c, .int .i64 x, .bool t, .slice B l e_, .int .i64 y] 34)))
  clear HN ho
  go_upto_region 12 with fail
  generalize w9.alloc _ = w10 at *
  generalize w9.heap.size = b10 at *
  clear w9
  have HN := HN9
  clear HN9
  go_wp2_with fail
  (with_reducible refine (HOf.out 0 65537 false _ (by decide) HN.out).mono ?_)
  rintro e w9 ⟨s, A, k, c, x, t, B, l, e_, y, rfl, ho⟩
  have HN9 := Lib.hid (HN.out.step (ho.alloc (.cells #[.bool s, .slice A k c, .int .i64 x, .bool t, .slice B l e_, .int .i64 y] 34)))
  clear HN ho
  go_upto_region 13 with fail
  generalize w9.alloc _ = w10 at *
  generalize w9.heap.size = b10 at *
  clear w9
  have HN := HN9
  clear HN9
  obtain ⟨ob, hob⟩ : ∃ ob, okN id = ob := ⟨_, rfl⟩
  obtain ⟨pb, hpb⟩ : ∃ pb, decide (1 ≤ p ∧ p ≤ 65536) = pb := ⟨_, rfl⟩
  have HOb := Lib.hid hob
  have HPb := Lib.hid hpb
  clear hob hpb
  go_wp2_with fail
  (with_reducible refine (HOf.out id 64 ob _ (by rw [HOb.out]; simp) HN.out).mono ?_)
  rintro e w9 ⟨s, A, k, c, x, t, B, l, e_, y, rfl, ho⟩
  have HN9 := Lib.hid (HN.out.step (ho.alloc (.cells #[.bool s, .slice A k c, .int .i64 x, .bool t, .slice B l e_, .int .i64 y] 34)))
  clear HN ho
  go_upto_region 14 with fail
  generalize w9.alloc _ = w10 at *
  generalize w9.heap.size = b10 at *
  clear w9
  have HN := HN9
  clear HN9
  go_wp2_with fail
  (with_reducible refine (HCl.out _ HN.out).mono ?_)
  rintro e w9 ⟨s, A, k, c, x, t, B, l, e_, y, rfl, ho⟩
  have HN9 := Lib.hid (HN.out.step (ho.alloc (.cells #[.bool s, .slice A k c, .int .i64 x, .bool t, .slice B l e_, .int .i64 y] 34)))
  clear HN ho
  go_upto_region 15 with fail
  generalize w9.alloc _ = w10 at *
  generalize w9.heap.size = b10 at *
  clear w9
  have HN := HN9
  clear HN9
  go_wp2_with fail
  (with_reducible refine (HOf.out 0 p pb _ (by rw [HPb.out]; simp [okN]) HN.out).mono ?_)
  rintro e w9 ⟨s, A, k, c, x, t, B, l, e_, y, rfl, ho⟩
  have HN9 := Lib.hid (HN.out.step (ho.alloc (.cells #[.bool s, .slice A k c, .int .i64 x, .bool t, .slice B l e_, .int .i64 y] 34)))
  clear HN ho
  go_upto_region 16 with fail
  generalize w9.alloc _ = w10 at *
  generalize w9.heap.size = b10 at *
  clear w9
  have HN := HN9
  clear HN9
  clear HOf HCl
  have HDl : Hid (∀ W : World, NOwn w W d v7 m (ns5 f h) → Calls Tryz.prog 47 #[.pointer (some ⟨d, 0, none⟩)] W fun e w' => e = .returned (.int .i64 5) ∧ W = w') := fun W hn => dlen_any d v7 (some m) (ns5 f h) W hn.own.is
  have hpc : p < 1 ∨ 65536 < p ∨ (1 ≤ p ∧ p ≤ 65536) := by omega
  have hic : id < 0 ∨ 5 ≤ id ∨ id = 0 ∨ id = 1 ∨ id = 2 ∨ id = 3 ∨ id = 4 := by omega
  have HPc := Lib.hid hpc
  have HIc := Lib.hid hic
  clear hpc hic
  rcases HPc.out with hp1 | hp1 | ⟨hp1, hp2⟩
  · obtain rfl : pb = false := by rw [← HPb.out]; exact decide_eq_false (by omega)
    rcases HIc.out with hi1 | hi1 | rfl | rfl | rfl | rfl | rfl
    · as_aux_lemma =>
        obtain rfl : ob = false := by rw [← HOb.out]; unfold okN; exact decide_eq_false (by omega)
        go_wp2_with (go_at_call 47; (with_reducible refine (HDl.out _ HN.out).mono ?_); rintro e w' ⟨rfl, rfl⟩)
        go_ret
        exact ⟨rfl, HN.out.own.only⟩
    · as_aux_lemma =>
            obtain rfl : ob = false := by rw [← HOb.out]; unfold okN; exact decide_eq_false (by omega)
            go_wp2_with (go_at_call 47; (with_reducible refine (HDl.out _ HN.out).mono ?_); rintro e w' ⟨rfl, rfl⟩)
            go_ret
            exact ⟨rfl, HN.out.own.only⟩
    · as_aux_lemma =>
                obtain rfl : ob = true := by rw [← HOb.out]; unfold okN; exact decide_eq_true (by omega)
                go_wp2_with (go_at_call 47; (with_reducible refine (HDl.out _ HN.out).mono ?_); rintro e w' ⟨rfl, rfl⟩)
                go_ret
                exact ⟨rfl, HN.out.own.only⟩
    · as_aux_lemma =>
                    obtain rfl : ob = true := by rw [← HOb.out]; unfold okN; exact decide_eq_true (by omega)
                    go_wp2_with (go_at_call 47; (with_reducible refine (HDl.out _ HN.out).mono ?_); rintro e w' ⟨rfl, rfl⟩)
                    go_ret
                    exact ⟨rfl, HN.out.own.only⟩
    · as_aux_lemma =>
                        obtain rfl : ob = false := by rw [← HOb.out]; unfold okN; exact decide_eq_false (by omega)
                        go_wp2_with (go_at_call 47; (with_reducible refine (HDl.out _ HN.out).mono ?_); rintro e w' ⟨rfl, rfl⟩)
                        go_ret
                        exact ⟨rfl, HN.out.own.only⟩
    · as_aux_lemma =>
                            obtain rfl : ob = true := by rw [← HOb.out]; unfold okN; exact decide_eq_true (by omega)
                            go_wp2_with (go_at_call 47; (with_reducible refine (HDl.out _ HN.out).mono ?_); rintro e w' ⟨rfl, rfl⟩)
                            go_ret
                            exact ⟨rfl, HN.out.own.only⟩
    · as_aux_lemma =>
                                obtain rfl : ob = false := by rw [← HOb.out]; unfold okN; exact decide_eq_false (by omega)
                                go_wp2_with (go_at_call 47; (with_reducible refine (HDl.out _ HN.out).mono ?_); rintro e w' ⟨rfl, rfl⟩)
                                go_ret
                                exact ⟨rfl, HN.out.own.only⟩
  · obtain rfl : pb = false := by rw [← HPb.out]; exact decide_eq_false (by omega)
    have hp2 : decide (p ≤ 65536) = false := decide_eq_false (by omega)
    rcases HIc.out with hi1 | hi1 | rfl | rfl | rfl | rfl | rfl
    · as_aux_lemma =>
        obtain rfl : ob = false := by rw [← HOb.out]; unfold okN; exact decide_eq_false (by omega)
        go_wp2_with (go_at_call 47; (with_reducible refine (HDl.out _ HN.out).mono ?_); rintro e w' ⟨rfl, rfl⟩)
        go_ret
        exact ⟨rfl, HN.out.own.only⟩
    · as_aux_lemma =>
            obtain rfl : ob = false := by rw [← HOb.out]; unfold okN; exact decide_eq_false (by omega)
            go_wp2_with (go_at_call 47; (with_reducible refine (HDl.out _ HN.out).mono ?_); rintro e w' ⟨rfl, rfl⟩)
            go_ret
            exact ⟨rfl, HN.out.own.only⟩
    · as_aux_lemma =>
                obtain rfl : ob = true := by rw [← HOb.out]; unfold okN; exact decide_eq_true (by omega)
                go_wp2_with (go_at_call 47; (with_reducible refine (HDl.out _ HN.out).mono ?_); rintro e w' ⟨rfl, rfl⟩)
                go_ret
                exact ⟨rfl, HN.out.own.only⟩
    · as_aux_lemma =>
                    obtain rfl : ob = true := by rw [← HOb.out]; unfold okN; exact decide_eq_true (by omega)
                    go_wp2_with (go_at_call 47; (with_reducible refine (HDl.out _ HN.out).mono ?_); rintro e w' ⟨rfl, rfl⟩)
                    go_ret
                    exact ⟨rfl, HN.out.own.only⟩
    · as_aux_lemma =>
                        obtain rfl : ob = false := by rw [← HOb.out]; unfold okN; exact decide_eq_false (by omega)
                        go_wp2_with (go_at_call 47; (with_reducible refine (HDl.out _ HN.out).mono ?_); rintro e w' ⟨rfl, rfl⟩)
                        go_ret
                        exact ⟨rfl, HN.out.own.only⟩
    · as_aux_lemma =>
                            obtain rfl : ob = true := by rw [← HOb.out]; unfold okN; exact decide_eq_true (by omega)
                            go_wp2_with (go_at_call 47; (with_reducible refine (HDl.out _ HN.out).mono ?_); rintro e w' ⟨rfl, rfl⟩)
                            go_ret
                            exact ⟨rfl, HN.out.own.only⟩
    · as_aux_lemma =>
                                obtain rfl : ob = false := by rw [← HOb.out]; unfold okN; exact decide_eq_false (by omega)
                                go_wp2_with (go_at_call 47; (with_reducible refine (HDl.out _ HN.out).mono ?_); rintro e w' ⟨rfl, rfl⟩)
                                go_ret
                                exact ⟨rfl, HN.out.own.only⟩
  · obtain rfl : pb = true := by rw [← HPb.out]; exact decide_eq_true (by omega)
    rcases HIc.out with hi1 | hi1 | rfl | rfl | rfl | rfl | rfl
    · as_aux_lemma =>
        obtain rfl : ob = false := by rw [← HOb.out]; unfold okN; exact decide_eq_false (by omega)
        go_wp2_with (go_at_call 47; (with_reducible refine (HDl.out _ HN.out).mono ?_); rintro e w' ⟨rfl, rfl⟩)
        go_ret
        exact ⟨rfl, HN.out.own.only⟩
    · as_aux_lemma =>
            obtain rfl : ob = false := by rw [← HOb.out]; unfold okN; exact decide_eq_false (by omega)
            go_wp2_with (go_at_call 47; (with_reducible refine (HDl.out _ HN.out).mono ?_); rintro e w' ⟨rfl, rfl⟩)
            go_ret
            exact ⟨rfl, HN.out.own.only⟩
    · as_aux_lemma =>
                obtain rfl : ob = true := by rw [← HOb.out]; unfold okN; exact decide_eq_true (by omega)
                go_wp2_with (go_at_call 47; (with_reducible refine (HDl.out _ HN.out).mono ?_); rintro e w' ⟨rfl, rfl⟩)
                go_ret
                exact ⟨rfl, HN.out.own.only⟩
    · as_aux_lemma =>
                    obtain rfl : ob = true := by rw [← HOb.out]; unfold okN; exact decide_eq_true (by omega)
                    go_wp2_with (go_at_call 47; (with_reducible refine (HDl.out _ HN.out).mono ?_); rintro e w' ⟨rfl, rfl⟩)
                    go_ret
                    exact ⟨rfl, HN.out.own.only⟩
    · as_aux_lemma =>
                        obtain rfl : ob = false := by rw [← HOb.out]; unfold okN; exact decide_eq_false (by omega)
                        go_wp2_with (go_at_call 47; (with_reducible refine (HDl.out _ HN.out).mono ?_); rintro e w' ⟨rfl, rfl⟩)
                        go_ret
                        exact ⟨rfl, HN.out.own.only⟩
    · as_aux_lemma =>
                            obtain rfl : ob = true := by rw [← HOb.out]; unfold okN; exact decide_eq_true (by omega)
                            go_wp2_with (go_at_call 47; (with_reducible refine (HDl.out _ HN.out).mono ?_); rintro e w' ⟨rfl, rfl⟩)
                            go_ret
                            exact ⟨rfl, HN.out.own.only⟩
    · as_aux_lemma =>
                                obtain rfl : ob = false := by rw [← HOb.out]; unfold okN; exact decide_eq_false (by omega)
                                go_wp2_with (go_at_call 47; (with_reducible refine (HDl.out _ HN.out).mono ?_); rintro e w' ⟨rfl, rfl⟩)
                                go_ret
                                exact ⟨rfl, HN.out.own.only⟩
end Go.Proofs.YtigpnopeacicpaaGreatDoor
