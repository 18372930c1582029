/-
  Joined texts.
-/
import Derived.Test.YtigpnopeacicpaaGreatDoorTrJ32
import Derived.Test.YtigpnopeacicpaaGreatDoorTrJ33
import Derived.Test.YtigpnopeacicpaaGreatDoorTrBlM
import Derived.Test.YtigpnopeacicpaaGreatDoorTrJ27
import Derived.Test.YtigpnopeacicpaaGreatDoorTrJ25
import Derived.Test.YtigpnopeacicpaaGreatDoorTrNrM
/-
  The first call of compasslaw13.
-/
namespace Go.Proofs.YtigpnopeacicpaaGreatDoor
set_option linter.unusedSimpArgs false
open Go.RowKit
attribute [local go_sem] run_store_float

theorem rint2 (x : Dy) (h : nrm 2 0 = x) (w : World) : Calls Tryz.prog 71 #[.int .i64 2] w (RDP x w) := h ▸ rint_d 2 w (Lib.hid (by omega))
theorem nsqrt_can (P : Nat) (up : Bool) (x : Dy) (hP : 1 ≤ P) : Can (sqrtQ P up x) := by
  unfold sqrtQ
  by_cases h1 : x.z ≤ 0
  · rw [if_pos h1]; exact .inl ⟨rfl, rfl⟩
  · rw [if_neg h1]; exact (sqrt_rd hP (by omega)).can
theorem sqrt_sq {P : Nat} {up : Bool} {x y : Dy} (hP : 1 ≤ P) (hs : Short P x) (hc : Can x) (h0 : 0 ≤ x.z) (hy : dMul x x = y) : sqrtQ P up y = x := by
  subst hy
  refine Can.ext (nsqrt_can P up _ hP) hc ?_
  rw [sqrt_exact hP hs]
  obtain ⟨z, e⟩ := x
  show (Dy.q ⟨(z.natAbs : Int), e⟩) = _
  rw [show ((z.natAbs : Nat) : Int) = z from by have : 0 ≤ z := h0; omega]
def ns13 : List Nd := [⟨0, 4616189618054758400, 0, 0⟩, ⟨5, 0, 0, 0⟩]
def g13 (x : Int) : Dy × Dy := if x = 0 then (⟨1, 2⟩, ⟨1, 2⟩) else (⟨1, 1⟩, ⟨1, 1⟩)
theorem ok13 : AllOk ns13 := by
  intro j hj
  have : j = 0 ∨ j = 1 := by simp [ns13] at hj; omega
  rcases this with rfl | rfl <;> decide +kernel
theorem bel13 : belowOf ns13 ((1 : Nat) : Int) = [0, 1] := by
  have r1 : Reach ns13 (· ∈ [((1 : Nat) : Int)]) 1 := .root _ (by simp) (by simp) (by simp [ns13])
  refine (below_is (ok_dag ok13) (fun x => decide (x = 0 ∨ x = 1)) (fun x hx => ?_) (fun x hx hS c hc y hy => ?_) (fun x hx hS => ?_)).trans rfl
  · simp; omega
  · have : x = 0 ∨ x = 1 := by simpa using hS
    rcases this with rfl | rfl <;> simp [kids, nodeAt, ns13] at hc <;> (simp; omega)
  · have : x = 0 ∨ x = 1 := by simpa using hS
    rcases this with rfl | rfl
    · exact .kid 1 _ r1 (by simp [kids, nodeAt, ns13])
    · exact r1
theorem bnd_12 : Bnd 4 ⟨1, 2⟩ := bnd_s (by decide) (by decide) (by decide)
theorem bnd_11 : Bnd 4 ⟨1, 1⟩ := bnd_s (by decide) (by decide) (by decide)
theorem nrm_12_ : nrm 1 2 = ⟨1, 2⟩ := by rw [nrm_eval 0 0 (by decide)]; rfl
theorem nrm_2 : nrm 2 0 = ⟨1, 1⟩ := by rw [nrm_eval 1 0 (by decide)]; rfl
theorem leaf_4 (W : World) (hT : Tab6 W) : Calls Tryz.prog 144 #[.float .f64 4616189618054758400] W (QDPost ⟨1, 2⟩ true W) :=
  Fl.fl_dyadV _ false ⟨1, 2⟩ (r := 4616189618054758400) (by decide) (by decide) (by
    unfold Fl.fD
    rw [show Fl.mantW 4616189618054758400 = 4503599627370496 by decide, show Fl.expoW 4616189618054758400 = 1024 by decide]
    exact nrm_eval 52 0 (by decide)) W (Lib.hid hT)
theorem sqrt_4 {P : Nat} (hP : 1 ≤ P) (up : Bool) : sqrtQ P up ⟨1, 2⟩ = ⟨1, 1⟩ :=
  sqrt_sq hP (by show (1 : Nat) < 2 ^ P; exact Nat.one_lt_two_pow (by omega)) (.inr rfl) (by decide) nrm_12_
theorem ev13 (d : Nat) (v : Value) (w : World) (hd : DagIs w d v none ns13) (hT : Hid (Tab6 w)) :
    Calls Tryz.prog 74 #[.pointer (some ⟨d, 0, none⟩), .int .i64 1, .int .i64 10, .bool false] w (EvYes 1 ⟨1, 1⟩ ⟨1, 1⟩ w) := by
  refine nev_yes d v none ns13 1 10 w [0, 1] g13 ⟨1, 1⟩ ⟨1, 1⟩ hd (ok_dag ok13) (by simp [ns13]) (by simp [ns13]) (by omega) bel13 (fun x hx => ?_) (fun x hx => ?_) (fun k hk => ?_) rfl hT
  · have : x = 0 ∨ x = 1 := by simp [ns13] at hx; omega
    unfold Small
    rcases this with rfl | rfl <;> simp [nodeAt, ns13]
  · have : x = 0 ∨ x = 1 := by simp [ns13] at hx; omega
    rcases this with rfl | rfl <;> simp [nodeAt, ns13]
  · have : k = 0 ∨ k = 1 := by simp at hk; omega
    have hP := (widthP_range 10).1
    rcases this with rfl | rfl
    · exact ⟨combN_leaf (z := ⟨1, 2⟩) 0 4616189618054758400 0 0 rfl rfl (Lib.hid leaf_4) bnd_12 (by omega) nrm_12_, by decide +kernel, by decide +kernel, bnd_12.mono (by omega), bnd_12.mono (by omega)⟩
    · exact ⟨combN_root (x := ⟨1, 2⟩) (y := ⟨1, 2⟩) 1 0 0 0 rfl rfl rfl (by decide) (sqrt_4 hP false) (sqrt_4 hP true) bnd_12 bnd_12 (by omega), by decide +kernel, by decide +kernel, bnd_11.mono (by omega), bnd_11.mono (by omega)⟩

set_option maxHeartbeats 8000000 in
set_option maxRecDepth 100000 in
theorem alive13_any (w : World) (hT : Hid (Tab6 w)) : Calls Tryz.prog 34 #[] w fun e w' => e = .returned (.bool true) ∧ Only [] w w' := by
  obtain ⟨x, hx⟩ : ∃ x : Dy, (⟨1, 1⟩ : Dy) = x := ⟨_, rfl⟩
  have HN2 : Hid (nrm 2 0 = x) := nrm_2.trans hx
  have HCx : Hid (Can x) := hx ▸ .inr rfl
  have HBx : Hid (Bnd 4 x) := hx ▸ bnd_11
  have HEv : Hid (∀ (d : Nat) (v : Value) (W : World), DagIs W d v none ns13 → Tab6 W → Calls Tryz.prog 74 #[.pointer (some ⟨d, 0, none⟩), .int .i64 1, .int .i64 10, .bool false] W (EvYes 1 x x W)) := fun d v W h1 h2 => hx ▸ ev13 d v W h1 (Lib.hid h2)
  clear hx
  go_enter Tryz.func34, Tryz.ntmps34
  go_wp2_with fail
  have HB := Lib.hid (Blk.new w 95 [.int .i64 0, .float .f64 4616189618054758400, .int .i64 0, .int .i64 0, .int .i64 5, .float .f64 0, .int .i64 0, .int .i64 0])
  have HA : Hid (NRead (w.alloc (.cells #[.int .i64 0, .float .f64 4616189618054758400, .int .i64 0, .int .i64 0, .int .i64 5, .float .f64 0, .int .i64 0, .int .i64 0] 95)) (some ⟨w.heap.size, 0, none⟩) ns13) := fun k hk => by
    refine ⟨w.heap.size, 0, rfl, ?_⟩
    have : k = 0 ∨ k = 1 := by simp [ns13] at hk; omega
    rcases this with rfl | rfl
    · exact ⟨HB.out.cell 0, HB.out.cell 1, HB.out.cell 2, HB.out.cell 3⟩
    · exact ⟨HB.out.cell 4, HB.out.cell 5, HB.out.cell 6, HB.out.cell 7⟩
  have HF : Hid (∀ k, k < ns13.length → (ns13[k]?.getD nd0).f < 2 ^ 64) := fun k hk => by
    have : k = 0 ∨ k = 1 := by simp [ns13] at hk; omega
    rcases this with rfl | rfl <;> decide
  refine (load10_any (some ⟨w.heap.size, 0, none⟩) 2 ns13 _ HA HF (by decide) (Lib.hid ok13)).mono ?_
  rintro e w1 ⟨d, v, rfl, hown⟩
  have HD := Lib.hid hown.is
  have HO1 : Hid (Only [] w w1) := ((Only.refl [] w).alloc _).nil_trans hown.only
  clear hown HA HF HB
  go_wp2_with fail
  refine (nof_yes d 1 10 w1 x x (Lib.hid (by unfold Small; omega)) (Lib.hid fun W ho => HEv.out d v W (HD.out.only ho (by simp)) (hT.out.keep (HO1.out.nil_trans ho)))).mono ?_
  rintro e w2 ⟨s5, A5, k5, c5, s6, A6, k6, c6, rfl, hc5, hv5, hc6, hv6, ho⟩
  have HC5 : Hid (Cn s5 k5 x.z) := hc5
  have HC6 : Hid (Cn s6 k6 x.z) := hc6
  have h_ := (GB.start w).step (HO1.out.nil_trans ho)
  have HG := Lib.hid (h_.new 34 [.bool s5, .slice A5 k5 c5, .int .i64 x.e, .bool s6, .slice A6 k6 c6, .int .i64 x.e] (noLimb6 _ _ _ _ _ _ _ _ _ _))
  have HI := Lib.hid ((((WL.nil w2).cons (Lib.hid hv6)).cons (Lib.hid hv5)).step ((Only.refl [] w2).alloc (.cells #[.bool s5, .slice A5 k5 c5, .int .i64 x.e, .bool s6, .slice A6 k6 c6, .int .i64 x.e] 34)))
  have HR := Lib.hid (RL.nil (w2.alloc (.cells #[.bool s5, .slice A5 k5 c5, .int .i64 x.e, .bool s6, .slice A6 k6 c6, .int .i64 x.e] 34)))
  clear h_ ho hc5 hc6 hv5 hv6 HD HO1 HEv
  go_upto_region 5 with fail
  generalize w2.heap.size = g_b at *
  generalize w2.alloc _ = w3 at *
  apply wp_region_typed2 (by kernel_rfl) [isV _, isV _, isV _, isRD x, isRD x, isRB x x, isV _, isV _, isV _] [[], [0], [1], [1], [1], [1, 3, 4], [1, 2, 5], [1, 6], [7]] (by kernel_rfl) (by kernel_rfl)
  case ho =>
    iterate 2
      refine owes2_cons (fun wx hox => ?_) ?_
      · skip
        refine withs_plain rfl ?_
        simp only [withs, List.getElem?_cons_zero, List.getElem?_cons_succ, Option.bind, Option.getD]
        repeat (first | (with_reducible refine all_isV ?_) | (with_reducible refine all_isRD ?_; intro sx Ax kx cx hvx hwx) | (with_reducible refine all_isRB ?_; intro sx Ax kx cx tx Bx mx dx hvx hwx))
        go_simp
        exact ⟨Only.refl _ _, isV.self _ _⟩
    refine owes2_cons (fun wx hox => ?_) ?_
    · skip
      have hg := Lib.hid (HG.out.step hox)
      have hi := Lib.hid (HI.out.step hox)
      have hr := Lib.hid (HR.out.step hox)
      obtain ⟨x1_0, x1_1, x1_2, x1_3, x1_4, x1_5⟩ := GB.c6 hg 0 rfl
      clear hg hi hr
      refine withs_guard rfl rfl ?_
      simp only [withs, List.getElem?_cons_zero, List.getElem?_cons_succ, Option.bind, Option.getD]
      repeat (first | (with_reducible refine all_isV ?_) | (with_reducible refine all_isRD ?_; intro sx Ax kx cx hvx hwx) | (with_reducible refine all_isRB ?_; intro sx Ax kx cx tx Bx mx dx hvx hwx))
      refine ⟨by kernel_rfl, ?_⟩
      go_simp
      exact ⟨Only.refl _ _, isV.self _ _⟩
    iterate 2
      refine owes2_cons (fun wx hox => ?_) ?_
      · skip
        refine withs_guard rfl rfl ?_
        simp only [withs, List.getElem?_cons_zero, List.getElem?_cons_succ, Option.bind, Option.getD]
        repeat (first | (with_reducible refine all_isV ?_) | (with_reducible refine all_isRD ?_; intro sx Ax kx cx hvx hwx) | (with_reducible refine all_isRB ?_; intro sx Ax kx cx tx Bx mx dx hvx hwx))
        refine ⟨by kernel_rfl, ?_⟩
        go_simp
        (with_reducible exact grow_rd (rint2 x HN2.out _))
    refine owes2_cons (fun wx hox => ?_) ?_
    · skip
      refine withs_guard rfl rfl ?_
      simp only [withs, List.getElem?_cons_zero, List.getElem?_cons_succ, Option.bind, Option.getD]
      repeat (first | (with_reducible refine all_isV ?_) | (with_reducible refine all_isRD ?_; intro sx Ax kx cx hvx hwx) | (with_reducible refine all_isRB ?_; intro sx Ax kx cx tx Bx mx dx hvx hwx))
      refine ⟨by kernel_rfl, ?_⟩
      go_simp
      (exact ⟨Only.refl _ _, (RBV.of (by assumption) (by assumption) (by assumption) (by assumption)).out⟩)
    refine owes2_cons (fun wx hox => ?_) ?_
    · skip
      have hg := Lib.hid (HG.out.step hox)
      have hi := Lib.hid (HI.out.step hox)
      have hr := Lib.hid (HR.out.step hox)
      have iv_bh := (WL.at (z := x.z) hi 1 rfl)
      have iv_bl := (WL.at (z := x.z) hi 0 rfl)
      clear hg hi hr
      refine withs_guard rfl rfl ?_
      simp only [withs, List.getElem?_cons_zero, List.getElem?_cons_succ, Option.bind, Option.getD]
      repeat (first | (with_reducible refine all_isV ?_) | (with_reducible refine all_isRD ?_; intro sx Ax kx cx hvx hwx) | (with_reducible refine all_isRB ?_; intro sx Ax kx cx tx Bx mx dx hvx hwx))
      refine ⟨by kernel_rfl, ?_⟩
      go_simp
      (with_reducible exact grow_of (is5_b (x := x) (y := x) (isBC.mk (Lib.hid (isD.of (x := x) iv_bl HC5)) (Lib.hid (isD.of (x := x) iv_bh HC6))) (RBV.mk (by assumption) (by assumption)) HCx HCx HBx HBx (by omega)))
    iterate 2
      refine owes2_cons (fun wx hox => ?_) ?_
      · skip
        refine withs_plain rfl ?_
        simp only [withs, List.getElem?_cons_zero, List.getElem?_cons_succ, Option.bind, Option.getD]
        repeat (first | (with_reducible refine all_isV ?_) | (with_reducible refine all_isRD ?_; intro sx Ax kx cx hvx hwx) | (with_reducible refine all_isRB ?_; intro sx Ax kx cx tx Bx mx dx hvx hwx))
        go_simp
        exact ⟨Only.refl _ _, isV.self _ _⟩
    exact owes2_nil
  case hl =>
    repeat (refine List.forall_mem_cons.2 ⟨?_, ?_⟩; first | exact isV.lasts _ | exact isRD.lasts _ | exact isRB.lasts _ _)
    exact fun _ h => (by cases h)
  intro wx hox
  refine withs_of (by simp only [List.length, List.range, List.range.loop]; exact rfl) ?_
  simp only [withs, List.getElem?_cons_zero, List.getElem?_cons_succ, Option.bind, Option.getD]
  repeat (first | (with_reducible refine all_isV ?_) | (with_reducible refine all_isRD ?_; intro sx Ax kx cx hvx hwx) | (with_reducible refine all_isRB ?_; intro sx Ax kx cx tx Bx mx dx hvx hwx))
  go_simp
  as_aux_lemma =>
    replace HG := Lib.hid (HG.out.step hox)
    replace HI := Lib.hid (HI.out.step hox)
    replace HR := Lib.hid (HR.out.step hox)
    clear hox
    go_wp2_with fail
    go_ret
    exact ⟨rfl, HG.out.only⟩
end Go.Proofs.YtigpnopeacicpaaGreatDoor

/-
  NearNone: the walk.
-/
namespace Go.Proofs.YtigpnopeacicpaaGreatDoor
set_option linter.unusedSimpArgs false
open Go.RowKit
attribute [local go_sem] run_store_float

def OfB (b : Bool) (w : World) (e : Ending) (w' : World) : Prop := ∃ s A k c x t B m d y, e = .returned (.tuple #[.agg #[.bool s, .slice A k c, .int .i64 x, .bool t, .slice B m d, .int .i64 y], .bool b]) ∧ Only [] w w'
theorem OfYes.any {x y : Dy} {w w' : World} {e : Ending} (h : OfYes x y w e w') : OfB true w e w' := by
  obtain ⟨s, A, k, c, t, B, m, d, h1, _, _, _, _, h2⟩ := h
  exact ⟨s, A, k, c, x.e, t, B, m, d, y.e, h1, h2⟩
theorem OfNo.any {w w' : World} {e : Ending} (h : OfNo w e w') : OfB false w e w' := ⟨_, _, _, _, _, _, _, _, _, _, h.1, h.2⟩
section
variable {f h : Nat} {p : Int} (d : Nat) (v : Value) (r : Option Nat) (w : World)
end
theorem LeafIs.lt {f : Nat} {z : Int} (h : LeafIs f z) : f < 2 ^ 64 := h.1
theorem LeafIs.fin {f : Nat} {z : Int} (h : LeafIs f z) : finB f = true := h.2.1
theorem takes_leaf (n : Nat) {f : Nat} (hf : finB f = true) : takesB n 0 f 0 0 = true := by simp [takesB, validB, hf]
section
variable {f h m : Nat}
end
structure NOwn (w0 w : World) (d : Nat) (v : Value) (m : Nat) (ns : List Nd) : Prop where
  own : Own w0 w d v (some m) ns
theorem NOwn.put {w0 w w' : World} {d : Nat} {v : Value} {m : Nat} {ns ns' : List Nd} {n : Nd} {id : Int} {e : Ending} (h : NOwn w0 w d v m ns) (hq : putId (some m) ns n = id ∧ putNs (some m) ns n = ns') (hp : PPost d v (some m) ns n w e w') : ∃ v', e = .returned (.int .i64 id) ∧ NOwn w0 w' d v' m ns' := by
  obtain ⟨v', he, hd, hs⟩ := hp
  rw [hq.1] at he
  rw [hq.2] at hd
  exact ⟨v', he, ⟨h.own.step hs hd⟩⟩
theorem NOwn.step {w0 w w' : World} {d : Nat} {v : Value} {m : Nat} {ns : List Nd} (h : NOwn w0 w d v m ns) (ho : Only [] w w') : NOwn w0 w' d v m ns := ⟨h.own.other ho (by simp) (by simp)⟩
theorem NOwn.start {w0 w1 w2 : World} {m : Nat} (hd : DagIs w2 w1.heap.size (.slice none 0 0) (some m) []) (hm : w1.heap.size ≤ m) (ho1 : Only [] w0 w1) (ho : Only [] w1 w2) : NOwn w0 w2 w1.heap.size (.slice none 0 0) m [] := by
  have A := own_new (r := some m) hd (fun k hk => by injection hk with hk; omega) ho
  exact ⟨A.is, fun k hk => Nat.le_trans ho1.size (A.fresh k hk), ho1.nil_trans A.only⟩
end Go.Proofs.YtigpnopeacicpaaGreatDoor

/-
  The dag of the law beside boxes and numbers at hand; the dags of NearRoots; plain facts on roots of whole numbers.
-/
namespace Go.Proofs.YtigpnopeacicpaaGreatDoor
set_option linter.unusedSimpArgs false
open Go.RowKit
attribute [local go_sem] run_store_float

theorem IV.far_nu {w : World} {s : Bool} {A : Option Addr} {k c g : Nat} {z : Int} (h : IV w (.agg #[.bool s, .slice A k c]) z) (hn : NU w g) : Far g A k := fun hk p hp hc => by
  obtain ⟨A1, c1, xs, e, h2, h3, h4, h5⟩ := h.mag
  injection e with e1 e2 e3
  subst e1 e2
  obtain ⟨b, o, e2, hcell⟩ := h2.read 0 hk
  rw [hp] at e2
  injection e2 with e2
  subst e2
  simp only at hc
  subst hc
  exact hn _ _ hcell _ rfl
theorem IV.far_dag {w : World} {s : Bool} {A : Option Addr} {k c d m : Nat} {z : Int} {v : Value} {ns : List Nd} (h : IV w (.agg #[.bool s, .slice A k c]) z) (hd : DagIs w d v (some m) ns) (hn : NUd w d) : ∀ g ∈ foot d v (some m), Far g A k := by
  obtain ⟨Av, cv, rfl⟩ := hd.shape
  intro g hg
  simp only [foot, List.mem_cons, List.mem_append, Option.mem_toList, Option.some.injEq] at hg
  rcases hg with rfl | hg | hg
  · exact h.far_blk hd.blk (fun o n hc => by rcases o with _ | _ | o <;> simp at hc)
  · have hv : (Value.slice Av ns.length cv).ownBlock = some g := by simpa using hg
    exact h.far_nu (hn _ g (hd.blk.cell 0) hv)
  · subst hg
    obtain ⟨es, clock, h1, _⟩ := hd.map m rfl
    exact h.far_map ⟨es, clock, h1⟩
structure NB (w0 w : World) (d : Nat) (v : Value) (m : Nat) (ns : List Nd) (L : List EB) (I : List WX) : Prop where
  own : Own w0 w d v (some m) ns
  gb : GB w0 w L
  wl : WL w I
  apL : ∀ (i : Nat) (y : EB), L[i]? = some y → y.g ∉ foot d v (some m)
  apI : ∀ (i : Nat) (y : WX), I[i]? = some y → ∀ g ∈ foot d v (some m), Far g y.a y.k
section
variable {w0 w w' : World} {d m : Nat} {v : Value} {ns ns' : List Nd} {L : List EB} {I : List WX}
theorem NB.start (h : Own w0 w d v (some m) ns) : NB w0 w d v m ns [] [] := ⟨h, (GB.start w0).step h.only, WL.nil w, fun i y hy => by simp at hy, fun i y hy => by simp at hy⟩
theorem NB.step (h : NB w0 w d v m ns L I) (ho : Only [] w w') : NB w0 w' d v m ns L I := ⟨h.own.other ho (by simp) (by simp), h.gb.step ho, h.wl.step ho, h.apL, h.apI⟩
theorem NB.new (h : NB w0 w d v m ns L I) (t : TypeId) (cs : List Value) (hn : NoLimb cs) : NB w0 (w.alloc (.cells cs.toArray t)) d v m ns (⟨w.heap.size, t, cs⟩ :: L) I :=
  ⟨h.own.other ((Only.refl [] w).alloc _) (by simp) (by simp), h.gb.new t cs hn, h.wl.step ((Only.refl [] w).alloc _), fun i y hy => by
    rcases i with _ | i
    · obtain rfl := (Option.some.inj hy).symm
      intro hc
      have := h.own.is.lt _ hc
      simp only at this
      omega
    · exact h.apL i y hy, h.apI⟩
theorem NB.num (h : NB w0 w d v m ns L I) {s : Bool} {A : Option Addr} {k c : Nat} {z : Int} (hv : Hid (IV w (.agg #[.bool s, .slice A k c]) z)) (hn : NUd w d) : NB w0 w d v m ns L (⟨s, A, k, c, z⟩ :: I) :=
  ⟨h.own, h.gb, h.wl.cons hv, h.apL, fun i y hy => by
    rcases i with _ | i
    · obtain rfl := (Option.some.inj hy).symm
      exact hv.out.far_dag h.own.is hn
    · exact h.apI i y hy⟩
theorem NB.turn {v' : Value} (h : NB w0 w d v m ns L I) (hd : DagIs w' d v' (some m) ns') (hs : Step d v (some m) w v' w') : NB w0 w' d v' m ns' L I := by
  have key : ∀ k ∈ foot d v' (some m), k ∈ foot d v (some m) ∨ w.heap.size ≤ k := hs.foot
  refine ⟨h.own.step hs hd, ⟨h.gb.only.trans hs.2 (fun k hk => .inr (h.own.fresh k hk)), fun i x hx => ⟨(h.gb.all i x hx).1.only hs.2 (h.apL i x hx), (h.gb.all i x hx).2⟩, h.gb.base, h.gb.ne⟩, fun i y hy => (h.wl i y hy).farS hs.2 (fun g hg => h.apI i y hy g hg), fun i y hy hc => ?_, fun i y hy g hg => ?_⟩
  · rcases key _ hc with h1 | h1
    · exact h.apL i y hy h1
    · have := (h.gb.all i y hy).1.lt
      omega
  · rcases key _ hg with h1 | h1
    · exact h.apI i y hy g h1
    · intro hk p hp hc
      have := (h.wl i y hy).mag.addr_lt hk hp
      omega
theorem NB.put {n : Nd} {id : Int} {e : Ending} (h : NB w0 w d v m ns L I) (hq : putId (some m) ns n = id ∧ putNs (some m) ns n = ns') (hp : PPost d v (some m) ns n w e w') : ∃ v', e = .returned (.int .i64 id) ∧ NB w0 w' d v' m ns' L I := by
  obtain ⟨v', he, hd, hs⟩ := hp
  rw [hq.1] at he
  rw [hq.2] at hd
  exact ⟨v', he, h.turn hd hs⟩
theorem NB.fold {p : List Nd × Int} {id : Int} {e : Ending} (h : NB w0 w d v m ns L I) (hq : p = (ns', id)) (hp : FPost d v (some m) p w e w') : ∃ v', e = .returned (.int .i64 id) ∧ NB w0 w' d v' m ns' L I := by
  obtain ⟨v', he, hd, hs⟩ := hp
  subst hq
  exact ⟨v', he, h.turn hd hs⟩
end

def nsS (f : Nat) : List Nd := [⟨0, f, 0, 0⟩, ⟨5, 0, 0, 0⟩, ⟨3, 0, 0, 0⟩, ⟨5, 0, 2, 0⟩]
def nsR (f : Nat) : List Nd := [⟨0, f, 0, 0⟩, ⟨5, 0, 0, 0⟩]
section
variable (f : Nat)
theorem okdS : OkDag (nsS f) := by
  intro x h0 h1 c hc
  have : x = 0 ∨ x = 1 ∨ x = 2 ∨ x = 3 := by simp [nsS] at h1; omega
  rcases this with rfl | rfl | rfl | rfl <;> simp [kids, nodeAt, nsS] at hc <;> omega
theorem kindsS : Hid (∀ x : Nat, x < (nsS f).length → 0 ≤ (nodeAt (nsS f) (x : Int)).k ∧ (nodeAt (nsS f) (x : Int)).k ≤ 5) := by
  intro x hx
  have : x = 0 ∨ x = 1 ∨ x = 2 ∨ x = 3 := by simp [nsS] at hx; omega
  rcases this with rfl | rfl | rfl | rfl <;> simp [nodeAt, nsS]
theorem smallS : Hid (∀ x : Nat, x < (nsS f).length → Small (nodeAt (nsS f) (x : Int)).a ∧ Small (nodeAt (nsS f) (x : Int)).b) := by
  intro x hx
  have : x = 0 ∨ x = 1 ∨ x = 2 ∨ x = 3 := by simp [nsS] at hx; omega
  unfold Small
  rcases this with rfl | rfl | rfl | rfl <;> simp [nodeAt, nsS]
theorem okdR : OkDag (nsR f) := by
  intro x h0 h1 c hc
  have : x = 0 ∨ x = 1 := by simp [nsR] at h1; omega
  rcases this with rfl | rfl <;> simp [kids, nodeAt, nsR] at hc <;> omega
theorem kindsR : Hid (∀ x : Nat, x < (nsR f).length → 0 ≤ (nodeAt (nsR f) (x : Int)).k ∧ (nodeAt (nsR f) (x : Int)).k ≤ 5) := by
  intro x hx
  have : x = 0 ∨ x = 1 := by simp [nsR] at hx; omega
  rcases this with rfl | rfl <;> simp [nodeAt, nsR]
theorem smallR : Hid (∀ x : Nat, x < (nsR f).length → Small (nodeAt (nsR f) (x : Int)).a ∧ Small (nodeAt (nsR f) (x : Int)).b) := by
  intro x hx
  have : x = 0 ∨ x = 1 := by simp [nsR] at hx; omega
  unfold Small
  rcases this with rfl | rfl <;> simp [nodeAt, nsR]
theorem belR : belowOf (nsR f) ((1 : Nat) : Int) = [0, 1] := by
  have r1 : Reach (nsR f) (· ∈ [((1 : Nat) : Int)]) 1 := .root _ (by simp) (by simp) (by simp [nsR])
  refine (below_is (okdR f) (fun x => decide (x = 0 ∨ x = 1)) (fun x hx => ?_) (fun x hx hS c hc y hy => ?_) (fun x hx hS => ?_)).trans rfl
  · simp; omega
  · have : x = 0 ∨ x = 1 := by simpa using hS
    rcases this with rfl | rfl <;> simp [kids, nodeAt, nsR] at hc <;> (simp; omega)
  · have : x = 0 ∨ x = 1 := by simpa using hS
    rcases this with rfl | rfl
    · exact .kid 1 _ r1 (by simp [kids, nodeAt, nsR])
    · exact r1
theorem belS : belowOf (nsS f) ((3 : Nat) : Int) = [0, 2, 3] := by
  have r3 : Reach (nsS f) (· ∈ [((3 : Nat) : Int)]) 3 := .root _ (by simp) (by simp) (by simp [nsS])
  have r2 : Reach (nsS f) (· ∈ [((3 : Nat) : Int)]) 2 := .kid 3 _ r3 (by simp [kids, nodeAt, nsS])
  refine (below_is (okdS f) (fun x => decide (x = 0 ∨ x = 2 ∨ x = 3)) (fun x hx => ?_) (fun x hx hS c hc y hy => ?_) (fun x hx hS => ?_)).trans rfl
  · simp; omega
  · have : x = 0 ∨ x = 2 ∨ x = 3 := by simpa using hS
    rcases this with rfl | rfl | rfl <;> simp [kids, nodeAt, nsS] at hc <;> (simp; omega)
  · have : x = 0 ∨ x = 2 ∨ x = 3 := by simpa using hS
    rcases this with rfl | rfl | rfl
    · exact .kid 2 _ r2 (by simp [kids, nodeAt, nsS])
    · exact r2
    · exact r3
end
section
variable {f m : Nat}
theorem qS_0 (hf : finB f = true) : putId (some m) [] ⟨0, f, 0, 0⟩ = 0 ∧ putNs (some m) [] ⟨0, f, 0, 0⟩ = (nsS f).take 1 := by
  simp [putId, putNs, takes_leaf, hf, nsS]
theorem qS_1 : putId (some m) ((nsS f).take 1) ⟨5, 0, 0, 0⟩ = 1 ∧ putNs (some m) ((nsS f).take 1) ⟨5, 0, 0, 0⟩ = nsR f := by
  have t : takesB 1 5 0 0 0 = true := by decide
  simp [putId, putNs, t, nsS, nsR]
theorem qS_2 (hf : finB f = true) : putId (some m) (nsR f) ⟨0, f, 0, 0⟩ = 0 ∧ putNs (some m) (nsR f) ⟨0, f, 0, 0⟩ = nsR f := by
  simp [putId, putNs, takes_leaf, hf, nsR]
theorem qS_3 : foldS (some m) 3 (nsR f) [0, 0] = ((nsS f).take 3, 2) := by
  have t : takesB 2 3 0 0 0 = true := by decide
  have hh : hasB 2 0 = true := by decide
  simp [foldS, foldRun, putNs, putId, t, hh, nsR, nsS]
theorem qS_4 : putId (some m) ((nsS f).take 3) ⟨5, 0, 2, 0⟩ = 3 ∧ putNs (some m) ((nsS f).take 3) ⟨5, 0, 2, 0⟩ = nsS f := by
  have t : takesB 3 5 0 2 0 = true := by decide
  simp [putId, putNs, t, nsS]
end

/-! ### Roots, plain -/
theorem fits_bnd {N : Nat} {x : Dy} (h : Bnd N x) (hN : N ≤ 1000000) : fitsP x = true := by
  apply fits_s
  by_cases hz : x.z = 0
  · exact .inl hz
  · right
    have h1 := bitsN_le h.z
    have h2 := h.lo
    have h3 := h.hi
    unfold topD
    rw [if_neg hz]
    omega
theorem nfits_bnd {N : Nat} {x y : Dy} (hx : Bnd N x) (hy : Bnd N y) (hN : N ≤ 1000000) : NFits (x, y) := ⟨fits_bnd hx hN, fits_bnd hy hN, hx.mono (by omega), hy.mono (by omega)⟩
theorem rnd_can {P : Nat} {up : Bool} {x : Dy} (hc : Can x) (hs : Short P x) : rndD P up x = x := by
  unfold rndD
  rw [hc.nrm_self, if_pos (short_bits.1 hs)]
theorem mulLo_same (x : Dy) : mulLo x x x x = dMul x x := by unfold mulLo minD; simp
theorem mulHi_same (x : Dy) : mulHi x x x x = dMul x x := by unfold mulHi maxD; simp
theorem root_dn {P : Nat} {x : Dy} (hP : 1 ≤ P) (h0 : 0 ≤ x.z) : (sqrtQ P false x).q * (sqrtQ P false x).q ≤ x.q := by
  unfold sqrtQ
  by_cases h1 : x.z ≤ 0
  · rw [if_pos h1, zero_q, q_zero.2 (show x.z = 0 by omega)]
    simp
  · rw [if_neg h1]
    have hr := (sqrt_rd (P := P) (up := false) hP (show 0 < x.z by omega)).dn rfl
    rcases hr.1 with h2 | h2
    · have h3 := hr.2 ⟨0, 0⟩ (show (0 : Nat) < 2 ^ P from Nat.pow_pos (by omega)) (.inl (by rw [zero_q]; exact Rat.le_refl))
      rw [zero_q] at h3
      have h4 : (sqrtD P false x).q = 0 := rat_le_antisymm h2 h3
      rw [h4]
      have h5 : 0 < x.q := q_pos.2 (by omega)
      simp
      exact Rat.le_of_lt h5
    · exact h2
theorem root_up {P : Nat} {x : Dy} (hP : 1 ≤ P) (h0 : 0 ≤ x.z) : x.q ≤ (sqrtQ P true x).q * (sqrtQ P true x).q := by
  unfold sqrtQ
  by_cases h1 : x.z ≤ 0
  · rw [if_pos h1, zero_q, q_zero.2 (show x.z = 0 by omega)]
    simp
  · rw [if_neg h1]
    exact ((sqrt_rd (P := P) (up := true) hP (show 0 < x.z by omega)).upw rfl).1.2
theorem cmp_le0 {a b : Rat} (h : a ≤ b) : cmpQ a b ≤ 0 := by
  rcases rat_tri a b with h1 | h1 | h1
  · rw [cmpQ_lt h1]; decide
  · rw [cmpQ_eq h1]; decide
  · exact absurd h (Rat.not_le.2 h1)
theorem cmp_ge0 {a b : Rat} (h : b ≤ a) : 0 ≤ cmpQ a b := by
  rcases rat_tri a b with h1 | h1 | h1
  · exact absurd h (Rat.not_le.2 h1)
  · rw [cmpQ_eq h1]; decide
  · rw [cmpQ_gt h1]; decide
end Go.Proofs.YtigpnopeacicpaaGreatDoor
