/-
  Joined texts.
-/
import Derived.Test.YtigpnopeacicpaaDoorTbJ5
import Derived.Test.YtigpnopeacicpaaDoorTbJ7
import Derived.Test.YtigpnopeacicpaaDoorTbGTyp
import Derived.Test.YtigpnopeacicpaaDoorTbJ3
/-
  Dyads: what a struct reads as; shifts.
-/
namespace Go.Proofs.YtigpnopeacicpaaDoor
set_option linter.unusedSimpArgs false
open Go.RowKit

/-- A value that reads as a dyad. -/
def DV (w : World) (v : Value) (x : Dy) : Prop := ∃ s A k c, v = .agg #[.bool s, .slice A k c, .int .i64 x.e] ∧ IV w (.agg #[.bool s, .slice A k c]) x.z

theorem DV.only {w w' : World} {v : Value} {x : Dy} (h : DV w v x) (ho : Only [] w w') : DV w' v x := by
  obtain ⟨s, A, k, c, h1, h2⟩ := h
  exact ⟨s, A, k, c, h1, h2.only ho⟩

/-- As a function tells it: limbs without zeros at the end, no sign at 0. -/
def isD (x : Dy) : VP := fun u w => ∃ s A k c, u = .agg #[.bool s, .slice A k c, .int .i64 x.e] ∧ s = decide (x.z < 0) ∧ k = (limbsOf x.z.natAbs).length ∧ IV w (.agg #[.bool s, .slice A k c]) x.z

theorem isD.lasts (x : Dy) : Lasts (isD x) := fun _ _ _ ⟨s, A, k, c, h1, h2, h3, h4⟩ ho => ⟨s, A, k, c, h1, h2, h3, h4.only ho⟩

/-- What a function leaves that tells a dyad. -/
def DPost (x : Dy) (w : World) (e : Ending) (w' : World) : Prop := ∃ s A k c, e = .returned (.agg #[.bool s, .slice A k c, .int .i64 x.e]) ∧ s = decide (x.z < 0) ∧ k = (limbsOf x.z.natAbs).length ∧ IV w' (.agg #[.bool s, .slice A k c]) x.z ∧ Only [] w w'

/-- Sign and length of what a function tells. -/
def Cn (s : Bool) (k : Nat) (z : Int) : Prop := s = decide (z < 0) ∧ k = (limbsOf z.natAbs).length

theorem all_isD {x : Dy} {w : World} {K : Value → Prop} (h : ∀ s A k c, Hid (IV w (.agg #[.bool s, .slice A k c]) x.z) → Hid (Cn s k x.z) → K (.agg #[.bool s, .slice A k c, .int .i64 x.e])) : ∀ v, isD x v w → K v := fun v ⟨s, A, k, c, h1, h2, h3, h4⟩ => by
  subst h1
  exact h s A k c h4 ⟨h2, h3⟩

theorem isD.of {x : Dy} {w : World} {s : Bool} {A : Option Addr} {k c : Nat} (h : Hid (IV w (.agg #[.bool s, .slice A k c]) x.z)) (hc : Hid (Cn s k x.z)) : isD x (.agg #[.bool s, .slice A k c, .int .i64 x.e]) w := ⟨s, A, k, c, rfl, hc.out.1, hc.out.2, h.out⟩

/-- A whole number, as a function tells it. -/
def isWC (z : Int) : VP := fun u w => ∃ s A k c, u = .agg #[.bool s, .slice A k c] ∧ Cn s k z ∧ IV w u z

theorem isWC.lasts (z : Int) : Lasts (isWC z) := fun _ _ _ ⟨s, A, k, c, h1, h2, h4⟩ ho => ⟨s, A, k, c, h1, h2, h4.only ho⟩

theorem all_isWC {z : Int} {w : World} {K : Value → Prop} (h : ∀ s A k c, Hid (IV w (.agg #[.bool s, .slice A k c]) z) → Hid (Cn s k z) → K (.agg #[.bool s, .slice A k c])) : ∀ v, isWC z v w → K v := fun v ⟨s, A, k, c, h1, h2, h4⟩ => by
  subst h1
  exact h s A k c h4 h2

theorem grow_wc {f : FuncId} {args : Array Value} {w0 w : World} {z : Int} (h : Calls Tryd.prog f args w (WPost z w0 w)) :
    Calls Tryd.prog f args w fun e w'' => ∃ u, e = .returned u ∧ Only [] w w'' ∧ isWC z u w'' :=
  h.mono fun _ _ ⟨s, A, k, c, he, hs, hr, hv, ho2⟩ => ⟨_, he, ho2, s, A, k, c, rfl, ⟨hs, hr.len⟩, hv⟩

theorem all_isNR {w0 : World} {n : Nat} {w : World} {K : Value → Prop} (h : ∀ A k c, Hid (NV w (.slice A k c) n) → K (.slice A k c)) : ∀ v, isNR w0 n v w → K v := fun v ⟨A, k, c, h1, h2, h3⟩ => by
  subst h1
  exact h A k c h3

/-- A number that is read. -/
def isNV (n : Nat) : VP := fun u w => ∃ A k c, u = .slice A k c ∧ NV w u n

theorem isNV.lasts (n : Nat) : Lasts (isNV n) := fun _ _ _ ⟨A, k, c, h1, h3⟩ ho => ⟨A, k, c, h1, h3.only ho⟩

theorem all_isNV {n : Nat} {w : World} {K : Value → Prop} (h : ∀ A k c, Hid (NV w (.slice A k c) n) → K (.slice A k c)) : ∀ v, isNV n v w → K v := fun v ⟨A, k, c, h1, h3⟩ => by
  subst h1
  exact h A k c h3

/-- A dyad that is read. -/
def isDV (x : Dy) : VP := fun u w => DV w u x

theorem isDV.lasts (x : Dy) : Lasts (isDV x) := fun _ _ _ h ho => h.only ho

theorem all_isDV {x : Dy} {w : World} {K : Value → Prop} (h : ∀ s A k c, Hid (IV w (.agg #[.bool s, .slice A k c]) x.z) → K (.agg #[.bool s, .slice A k c, .int .i64 x.e])) : ∀ v, isDV x v w → K v := fun v ⟨s, A, k, c, h1, h4⟩ => by
  subst h1
  exact h s A k c h4

/-- A block without limbs. -/
def NoLimb (cs : List Value) : Prop := ∀ (o : Nat) (n : Int), cs[o]? ≠ some (.int .u64 n)

theorem IV.far_blk {w : World} {s : Bool} {A : Option Addr} {k c g : Nat} {z : Int} {t : TypeId} {cs : List Value} (h : IV w (.agg #[.bool s, .slice A k c]) z) (hb : Blk w g t cs) (hn : NoLimb cs) : Far g A k := fun hk p hp hc => by
  obtain ⟨A1, c1, xs, e, h2, h3, h4, h5⟩ := h.mag
  injection e with e1 e2 e3
  subst e1 e2
  obtain ⟨b, o, e2, hcell⟩ := h2.read 0 hk
  rw [hp] at e2
  injection e2 with e2
  subst e2
  simp only at hc
  subst hc
  rw [hb.cell] at hcell
  exact hn _ _ hcell

theorem noLimb3 (s : Bool) (A : Option Addr) (k c : Nat) (e : Int) : NoLimb [.bool s, .slice A k c, .int .i64 e] := fun o n h => by
  rcases o with _ | _ | _ | o <;> simp at h

/-! ### Known blocks -/

structure EB where
  g : Nat
  t : TypeId
  cs : List Value

structure KB (w0 w : World) (L : List EB) : Prop where
  only : Only [] w0 w
  all : ∀ (i : Nat) (x : EB), L[i]? = some x → Blk w x.g x.t x.cs

theorem KB.start (w : World) : KB w w [] := ⟨Only.refl _ _, fun i x h => by simp at h⟩

theorem KB.step {w0 w w' : World} {L : List EB} (h : KB w0 w L) (ho : Only [] w w') : KB w0 w' L := ⟨h.only.nil_trans ho, fun i x hx => (h.all i x hx).only ho (by simp)⟩

theorem KB.new {w0 w : World} {L : List EB} (h : KB w0 w L) (t : TypeId) (cs : List Value) : KB w0 (w.alloc (.cells cs.toArray t)) (⟨w.heap.size, t, cs⟩ :: L) :=
  ⟨h.only.alloc _, fun i x hx => by
    rcases i with _ | i
    · obtain rfl := Option.some.inj hx
      exact Blk.new w t cs
    · exact (h.all i x hx).alloc _⟩

theorem KB.blk {w0 w : World} {L : List EB} (h : KB w0 w L) (i : Nat) {g : Nat} {t : TypeId} {cs : List Value} (hi : L[i]? = some ⟨g, t, cs⟩) : Blk w g t cs := h.all i _ hi

/-- A box's cells. -/
theorem KB.c2 {w0 w : World} {L : List EB} (h : KB w0 w L) (i : Nat) {g : Nat} {t : TypeId} {u v : Value} (hi : L[i]? = some ⟨g, t, [u, v]⟩) :
    w.cell? ⟨g, 0, none⟩ = some u ∧ w.cell? ⟨g, 1, none⟩ = some v ∧ w.frozen? ⟨g, 0, none⟩ = false ∧ w.frozen? ⟨g, 1, none⟩ = false :=
  ⟨(h.blk i hi).cell 0, (h.blk i hi).cell 1, (h.blk i hi).frozen 0, (h.blk i hi).frozen 1⟩

theorem KB.c3 {w0 w : World} {L : List EB} (h : KB w0 w L) (i : Nat) {g : Nat} {t : TypeId} {u v x : Value} (hi : L[i]? = some ⟨g, t, [u, v, x]⟩) :
    w.cell? ⟨g, 0, none⟩ = some u ∧ w.cell? ⟨g, 1, none⟩ = some v ∧ w.cell? ⟨g, 2, none⟩ = some x ∧ w.frozen? ⟨g, 0, none⟩ = false ∧ w.frozen? ⟨g, 1, none⟩ = false ∧ w.frozen? ⟨g, 2, none⟩ = false :=
  ⟨(h.blk i hi).cell 0, (h.blk i hi).cell 1, (h.blk i hi).cell 2, (h.blk i hi).frozen 0, (h.blk i hi).frozen 1, (h.blk i hi).frozen 2⟩

theorem only_set3 (w : World) (b : Nat) (x y u : Value) : Only [b] w (((w.setCell ⟨b, 0, none⟩ x).setCell ⟨b, 1, none⟩ y).setCell ⟨b, 2, none⟩ u) := (((Only.refl [b] w).setCell (.inl (by simp)) x).setCell (.inl (by simp)) y).setCell (.inl (by simp)) u

/-- A struct's three cells, written behind a result. -/
theorem dfin {x : Dy} {w w1 w2 : World} {b : Nat} {t : TypeId} {cs : List Value} {s : Bool} {A : Option Addr} {k c : Nat} (hc : Hid (Cn s k x.z)) (hv : Hid (IV w1 (.agg #[.bool s, .slice A k c]) x.z)) (hb : w.heap.size ≤ b) (hB : Blk w1 b t cs) (hn : NoLimb cs) (ho : Only [] w w1) (ho2 : Only [b] w1 w2) :
    DPost x w (.returned (.agg #[.bool s, .slice A k c, .int .i64 x.e])) w2 :=
  ⟨s, A, k, c, rfl, hc.out.1, hc.out.2, hv.out.farS ho2 (fun g hg => by rw [List.mem_singleton] at hg; subst hg; exact hv.out.far_blk hB hn), ho.trans ho2 (fun k hk => .inr (by simp at hk; omega))⟩

set_option maxHeartbeats 800000 in
theorem right_d {w : World} {a : Value} {n : Nat} (k : Nat) (hk : (k : Int) ≤ 16777216) (ha : Hid (NV w a n)) : Calls Tryd.prog 164 #[a, .int .i64 (k : Int)] w (NPostV (n / 2 ^ k) w w) := by
  have hf : Hid (Few (shlN n (-(k : Int)))) := by show Few _; rw [shlN_down n k hk]; exact ha.out.few.le (Nat.div_le_self _ _)
  have HS := Lib.hid (shlN_down n k hk)
  go_enter Tryd.func164, Tryd.ntmps164
  go_wp2_with fail
  refine wp_loop_rounds 1 ?_
  rw [rounds_succ]
  go_wp2_with fail
  (with_reducible refine (shr_v _ ha hf).mono ?_)
  rintro e w1 ⟨A1, k1, c1, rfl, hr, hv, ho⟩
  rw [HS.out] at hr hv
  have HR := Lib.hid hr
  have HV := Lib.hid hv
  have HO := Lib.hid ho
  clear hr hv ho
  go_wp2_with fail
  go_ret
  exact ⟨A1, k1, c1, rfl, HR.out, HV.out, HO.out⟩

end Go.Proofs.YtigpnopeacicpaaDoor
/-
  Dyads: Make, Of, Sign, Top.
-/
namespace Go.Proofs.YtigpnopeacicpaaDoor
set_option linter.unusedSimpArgs false
open Go.RowKit

theorem Tab6.keep {w w' : World} (h : Tab6 w) (ho : Only [] w w') : Tab6 w' := by
  unfold Tab6 at *
  exact tabis_only h ho

theorem IV.zero (w : World) : IV w (.agg #[.bool false, .slice none 0 0]) 0 := ⟨false, none, 0, 0, 0, rfl, NV.nil w, rfl⟩

set_option maxHeartbeats 1600000 in
set_option maxRecDepth 100000 in
theorem make_d {w : World} {m : Value} {z e : Int} (ha : Hid (IV w m z)) (hb : Hid (bitsN z.natAbs ≤ 16777216)) (h1 : -4000000000000000000 ≤ e) (h2 : e ≤ 4000000000000000000) (hT : Hid (Tab6 w)) : Calls Tryd.prog 151 #[m, .int .i64 e] w (DPost (nrm z e) w) := by
  obtain ⟨s, A, k, c, rfl, hs⟩ := ha.out.form
  have hk := ((KB.start w).new 44 [.bool s, .slice A k c]).new 181 [.bool false, .slice none 0 0, .int .i64 0]
  simp only [World.size_alloc] at hk
  have HX := Lib.hid (ha.out.only hk.only)
  have HM := Lib.hid HX.out.mag
  have HT := Lib.hid (hT.out.keep hk.only)
  have HK := Lib.hid hk
  have hsg := sign_of z
  clear ha hk hT
  by_cases hz : z = 0
  · subst hz
    clear hsg
    go_enter Tryd.func151, Tryd.ntmps151
    go_wp2_with fail
    (with_reducible refine (sign_w HX).mono ?_)
    rintro e1 w2 ⟨rfl, ho⟩
    rw [Int.sign_zero]
    have hk := HK.out.step ho
    obtain ⟨c0, c1', c2, f0, f1, f2⟩ := hk.c3 0 rfl
    replace hk := Lib.hid hk
    clear ho
    go_wp2_with fail
    refine bodyPost_ret (v := .agg #[.bool false, .slice none 0 0, .int .i64 (0)]) (by simp [results, Tryd.results151, go_sem, c0, c1', c2]) rfl ?_
    rw [nrm_zero]
    exact dfin (x := ⟨0, 0⟩) ⟨by decide, by show 0 = (limbsOf 0).length; rw [limbsOf_zero]; rfl⟩ (IV.zero _) (by omega) (hk.out.blk 0 rfl) (noLimb3 _ _ _ _ _) hk.out.only (only_set3 _ _ _ _ _)
  · obtain ⟨p, hp⟩ : ∃ p, z.sign = p := ⟨_, rfl⟩
    have hp0 : (p == 0) = false := by rw [beq_eq_false_iff_ne]; omega
    have hlo : (lowN z.natAbs : Int) ≤ 16777216 := by have := lowN_le_bits z.natAbs; have := hb.out; omega
    clear hb
    have hN := nrm_nz e hz
    obtain rfl : s = decide (z < 0) := by cases s <;> simp only [sg_false, sg_true] at hs <;> simp <;> omega
    obtain ⟨l, hq⟩ : ∃ l, lowN z.natAbs = l := ⟨_, rfl⟩
    rw [hq] at hN hlo
    have HQ := Lib.hid hq
    rw [hN]
    clear hq
    generalize decide (z < 0) = s at *
    have hsum : IntKind.i64.wrap (e + (l : Int)) = e + (l : Int) := wrap_i64 (by omega)
    replace hp := Lib.hid hp
    clear hsg hz hN hs
    go_enter Tryd.func151, Tryd.ntmps151
    go_wp2_with fail
    (with_reducible refine (sign_w HX).mono ?_)
    rintro e1 w2 ⟨rfl, ho⟩
    rw [hp.out]
    have hk := HK.out.step ho
    obtain ⟨c0, c1', f0, f1⟩ := hk.c2 1 rfl
    have HM2 := Lib.hid (HM.out.only ho)
    have HT2 := Lib.hid (HT.out.keep ho)
    replace HK := Lib.hid hk
    clear ho hk HM HT
    go_wp2_with fail
    (with_reducible refine (low_v HM2 HT2).mono ?_)
    rintro e2 w3 ⟨rfl, rfl⟩
    rw [HQ.out]
    go_upto_region 4 with fail
    clear HX c0 c1' f0 f1 hp0
    apply wp_region_typed_tail2 11 (by kernel_rfl) [isV _, isV _, isV _, isV _, isV _, isNR w2 (z.natAbs / 2 ^ l), isWC (sg s (z.natAbs / 2 ^ l)), isV _, isV _, isV _, isD ⟨sg s (z.natAbs / 2 ^ l), e + (l : Int)⟩] [[], [0], [], [2], [], [3, 4], [1, 5], [], [], [7, 8], [6, 9]] (by kernel_rfl) (by kernel_rfl) (by kernel_rfl)
    case ho =>
      simp only [List.take_succ_cons, List.take_zero]
      refine owes2_cons (fun wx hox => ?_) ?_
      · skip
        skip
        refine withs_plain rfl ?_
        simp only [withs, List.getElem?_cons_zero, List.getElem?_cons_succ, Option.bind, Option.getD]
        repeat (first | (with_reducible refine all_isV ?_) | (with_reducible refine all_isWC ?_; intro sx Ax kx cx hvx hwx) | (with_reducible refine all_isNR ?_; intro Ax kx cx hvx) | (with_reducible refine all_isD ?_; intro sx Ax kx cx hvx hwx))
        go_simp
        exact ⟨Only.refl _ _, isV.self _ _⟩
      refine owes2_cons (fun wx hox => ?_) ?_
      · skip
        have hk := HK.out.step hox
        obtain ⟨b0, b1, -, -⟩ := hk.c2 1 rfl
        clear hk
        refine withs_plain rfl ?_
        simp only [withs, List.getElem?_cons_zero, List.getElem?_cons_succ, Option.bind, Option.getD]
        repeat (first | (with_reducible refine all_isV ?_) | (with_reducible refine all_isWC ?_; intro sx Ax kx cx hvx hwx) | (with_reducible refine all_isNR ?_; intro Ax kx cx hvx) | (with_reducible refine all_isD ?_; intro sx Ax kx cx hvx hwx))
        go_simp
        exact ⟨Only.refl _ _, isV.self _ _⟩
      refine owes2_cons (fun wx hox => ?_) ?_
      · skip
        skip
        refine withs_plain rfl ?_
        simp only [withs, List.getElem?_cons_zero, List.getElem?_cons_succ, Option.bind, Option.getD]
        repeat (first | (with_reducible refine all_isV ?_) | (with_reducible refine all_isWC ?_; intro sx Ax kx cx hvx hwx) | (with_reducible refine all_isNR ?_; intro Ax kx cx hvx) | (with_reducible refine all_isD ?_; intro sx Ax kx cx hvx hwx))
        go_simp
        exact ⟨Only.refl _ _, isV.self _ _⟩
      refine owes2_cons (fun wx hox => ?_) ?_
      · skip
        have hk := HK.out.step hox
        obtain ⟨b0, b1, -, -⟩ := hk.c2 1 rfl
        clear hk
        refine withs_plain rfl ?_
        simp only [withs, List.getElem?_cons_zero, List.getElem?_cons_succ, Option.bind, Option.getD]
        repeat (first | (with_reducible refine all_isV ?_) | (with_reducible refine all_isWC ?_; intro sx Ax kx cx hvx hwx) | (with_reducible refine all_isNR ?_; intro Ax kx cx hvx) | (with_reducible refine all_isD ?_; intro sx Ax kx cx hvx hwx))
        go_simp
        exact ⟨Only.refl _ _, isV.self _ _⟩
      refine owes2_cons (fun wx hox => ?_) ?_
      · skip
        skip
        refine withs_plain rfl ?_
        simp only [withs, List.getElem?_cons_zero, List.getElem?_cons_succ, Option.bind, Option.getD]
        repeat (first | (with_reducible refine all_isV ?_) | (with_reducible refine all_isWC ?_; intro sx Ax kx cx hvx hwx) | (with_reducible refine all_isNR ?_; intro Ax kx cx hvx) | (with_reducible refine all_isD ?_; intro sx Ax kx cx hvx hwx))
        go_simp
        exact ⟨Only.refl _ _, isV.self _ _⟩
      refine owes2_cons (fun wx hox => ?_) ?_
      · skip
        have hk := HK.out.step hox
        obtain ⟨b0, b1, -, -⟩ := hk.c2 1 rfl
        clear hk
        refine withs_plain rfl ?_
        simp only [withs, List.getElem?_cons_zero, List.getElem?_cons_succ, Option.bind, Option.getD]
        repeat (first | (with_reducible refine all_isV ?_) | (with_reducible refine all_isWC ?_; intro sx Ax kx cx hvx hwx) | (with_reducible refine all_isNR ?_; intro Ax kx cx hvx) | (with_reducible refine all_isD ?_; intro sx Ax kx cx hvx hwx))
        go_simp
        (with_reducible exact grow_n (right_d l hlo (Lib.hid (HM2.out.only hox))) hox)
      refine owes2_cons (fun wx hox => ?_) ?_
      · skip
        have hk := HK.out.step hox
        obtain ⟨b0, b1, -, -⟩ := hk.c2 1 rfl
        clear hk
        refine withs_plain rfl ?_
        simp only [withs, List.getElem?_cons_zero, List.getElem?_cons_succ, Option.bind, Option.getD]
        repeat (first | (with_reducible refine all_isV ?_) | (with_reducible refine all_isWC ?_; intro sx Ax kx cx hvx hwx) | (with_reducible refine all_isNR ?_; intro Ax kx cx hvx) | (with_reducible refine all_isD ?_; intro sx Ax kx cx hvx hwx))
        go_simp
        (with_reducible exact grow_wc (make_w s (by assumption)))
      refine owes2_cons (fun wx hox => ?_) ?_
      · skip
        skip
        refine withs_plain rfl ?_
        simp only [withs, List.getElem?_cons_zero, List.getElem?_cons_succ, Option.bind, Option.getD]
        repeat (first | (with_reducible refine all_isV ?_) | (with_reducible refine all_isWC ?_; intro sx Ax kx cx hvx hwx) | (with_reducible refine all_isNR ?_; intro Ax kx cx hvx) | (with_reducible refine all_isD ?_; intro sx Ax kx cx hvx hwx))
        go_simp
        exact ⟨Only.refl _ _, isV.self _ _⟩
      refine owes2_cons (fun wx hox => ?_) ?_
      · skip
        skip
        refine withs_plain rfl ?_
        simp only [withs, List.getElem?_cons_zero, List.getElem?_cons_succ, Option.bind, Option.getD]
        repeat (first | (with_reducible refine all_isV ?_) | (with_reducible refine all_isWC ?_; intro sx Ax kx cx hvx hwx) | (with_reducible refine all_isNR ?_; intro Ax kx cx hvx) | (with_reducible refine all_isD ?_; intro sx Ax kx cx hvx hwx))
        go_simp
        exact ⟨Only.refl _ _, isV.self _ _⟩
      refine owes2_cons (fun wx hox => ?_) ?_
      · skip
        skip
        refine withs_plain rfl ?_
        simp only [withs, List.getElem?_cons_zero, List.getElem?_cons_succ, Option.bind, Option.getD]
        repeat (first | (with_reducible refine all_isV ?_) | (with_reducible refine all_isWC ?_; intro sx Ax kx cx hvx hwx) | (with_reducible refine all_isNR ?_; intro Ax kx cx hvx) | (with_reducible refine all_isD ?_; intro sx Ax kx cx hvx hwx))
        go_simp
        exact ⟨Only.refl _ _, isV.self _ _⟩
      refine owes2_cons (fun wx hox => ?_) ?_
      · skip
        skip
        refine withs_plain rfl ?_
        simp only [withs, List.getElem?_cons_zero, List.getElem?_cons_succ, Option.bind, Option.getD]
        repeat (first | (with_reducible refine all_isV ?_) | (with_reducible refine all_isWC ?_; intro sx Ax kx cx hvx hwx) | (with_reducible refine all_isNR ?_; intro Ax kx cx hvx) | (with_reducible refine all_isD ?_; intro sx Ax kx cx hvx hwx))
        go_simp
        (exact ⟨Only.refl _ _, isD.of (x := ⟨sg s (z.natAbs / 2 ^ l), e + (l : Int)⟩) (by assumption) (by assumption)⟩)
      exact owes2_nil
    case he =>
      simp only [List.drop_succ_cons, List.drop_zero]
      intro wx hox
      refine withs_of (by simp only [List.length, List.range, List.range.loop]; exact rfl) ?_
      simp only [withs, List.getElem?_cons_zero, List.getElem?_cons_succ, Option.bind, Option.getD]
      repeat (first | (with_reducible refine all_isV ?_) | (with_reducible refine all_isWC ?_; intro sx Ax kx cx hvx hwx) | (with_reducible refine all_isNR ?_; intro Ax kx cx hvx) | (with_reducible refine all_isD ?_; intro sx Ax kx cx hvx hwx))
      go_simp
      have hk := HK.out.step hox
      obtain ⟨c0, c1', c2, f0, f1, f2⟩ := hk.c3 0 rfl
      replace hk := Lib.hid hk
      clear hox
      go_wp2_with fail
      refine bodyPost_ret (v := .agg #[.bool sx, .slice Ax kx cx, .int .i64 (e + (l : Int))]) (by simp [results, Tryd.results151, go_sem, c0, c1', c2]) rfl ?_
      exact dfin (x := ⟨sg s (z.natAbs / 2 ^ l), e + (l : Int)⟩) (by assumption) (by assumption) (by omega) (hk.out.blk 0 rfl) (noLimb3 _ _ _ _ _) hk.out.only (only_set3 _ _ _ _ _)
    case hl =>
      repeat (refine List.forall_mem_cons.2 ⟨?_, ?_⟩; first | exact isV.lasts _ | exact isD.lasts _ | exact isWC.lasts _ | exact isNR.lasts _ _)
      exact fun _ h => (by cases h)

theorem DV.of {w : World} {s : Bool} {A : Option Addr} {k c : Nat} {x : Dy} (h : Hid (IV w (.agg #[.bool s, .slice A k c]) x.z)) : Hid (DV w (.agg #[.bool s, .slice A k c, .int .i64 x.e]) x) := ⟨s, A, k, c, rfl, h.out⟩

theorem DV.form {w : World} {v : Value} {x : Dy} (h : DV w v x) : ∃ s A k c, v = .agg #[.bool s, .slice A k c, .int .i64 x.e] ∧ IV w (.agg #[.bool s, .slice A k c]) x.z := h

set_option maxHeartbeats 800000 in
theorem sign_d {w : World} {a : Value} {x : Dy} (ha : Hid (DV w a x)) : Calls Tryd.prog 129 #[a] w fun e w' => e = .returned (.int .i64 x.z.sign) ∧ Only [] w w' := by
  obtain ⟨s, A, k, c, rfl, hv⟩ := ha.out.form
  have hk := (KB.start w).new 181 [.bool s, .slice A k c, .int .i64 x.e]
  have HX := Lib.hid (hv.only hk.only)
  have HK := Lib.hid hk
  clear hk hv ha
  go_enter Tryd.func129, Tryd.ntmps129
  go_wp2_with fail
  (with_reducible refine (sign_w HX).mono ?_)
  rintro e1 w2 ⟨rfl, ho⟩
  have HO := Lib.hid (HK.out.step ho).only
  clear ho
  go_wp2_with fail
  go_ret
  exact ⟨rfl, HO.out⟩

end Go.Proofs.YtigpnopeacicpaaDoor
/-
  Dyads: Top, Not, Mul.
-/
namespace Go.Proofs.YtigpnopeacicpaaDoor
set_option linter.unusedSimpArgs false
open Go.RowKit

end Go.Proofs.YtigpnopeacicpaaDoor
/-
  Dyads: align.
-/
namespace Go.Proofs.YtigpnopeacicpaaDoor
set_option linter.unusedSimpArgs false
open Go.RowKit

end Go.Proofs.YtigpnopeacicpaaDoor

/-
  Dyads: quotients.
-/
namespace Go.Proofs.YtigpnopeacicpaaDoor
set_option linter.unusedSimpArgs false
open Go.RowKit

/-- A quotient, a root: the number, and whether there is one. -/
def QDPost (x : Dy) (ok : Bool) (w : World) (e : Ending) (w' : World) : Prop := ∃ s A k c, e = .returned (.tuple #[.agg #[.bool s, .slice A k c, .int .i64 x.e], .bool ok]) ∧ s = decide (x.z < 0) ∧ k = (limbsOf x.z.natAbs).length ∧ IV w' (.agg #[.bool s, .slice A k c]) x.z ∧ Only [] w w'

theorem QDPost.of {x : Dy} {ok : Bool} {w w' : World} {s : Bool} {A : Option Addr} {k c : Nat} (h : DPost x w (.returned (.agg #[.bool s, .slice A k c, .int .i64 x.e])) w') : QDPost x ok w (.returned (.tuple #[.agg #[.bool s, .slice A k c, .int .i64 x.e], .bool ok])) w' := by
  obtain ⟨s', A', k', c', he, h1, h2, h3, h4⟩ := h
  injection he with he
  simp only [Value.agg.injEq, Array.mk.injEq, List.cons.injEq, Value.bool.injEq, Value.slice.injEq, and_true] at he
  obtain ⟨rfl, rfl, rfl, rfl⟩ := he
  exact ⟨s, A, k, c, rfl, h1, h2, h3, h4⟩

end Go.Proofs.YtigpnopeacicpaaDoor

/-
  Dyads in boxes; a first call whose answer is known (compasslaw3.alive).
-/
namespace Go.Proofs.YtigpnopeacicpaaDoor
set_option linter.unusedSimpArgs false
open Go.RowKit

/-! ### Boxes of dyads -/

structure DX where
  g : Nat
  s : Bool
  a : Option Addr
  k : Nat
  c : Nat
  x : Dy

def DX.ok (w : World) (b : DX) : Prop := Blk w b.g 181 [.bool b.s, .slice b.a b.k b.c, .int .i64 b.x.e] ∧ IV w (.agg #[.bool b.s, .slice b.a b.k b.c]) b.x.z

structure DB (w0 w : World) (L : List DX) : Prop where
  only : Only [] w0 w
  all : ∀ (i : Nat) (x : DX), L[i]? = some x → DX.ok w x
  base : ∀ (i : Nat) (x : DX), L[i]? = some x → w0.heap.size ≤ x.g
  ne : ∀ (i j : Nat) (x y : DX), i ≠ j → L[i]? = some x → L[j]? = some y → x.g ≠ y.g

theorem DB.step {w0 w w' : World} {L : List DX} (h : DB w0 w L) (ho : Only [] w w') : DB w0 w' L := ⟨h.only.nil_trans ho, fun i x hx => ⟨(h.all i x hx).1.only ho (by simp), (h.all i x hx).2.only ho⟩, h.base, h.ne⟩

theorem DB.new {w0 w : World} {L : List DX} (h : DB w0 w L) {s : Bool} {A : Option Addr} {k c : Nat} {x : Dy} (hv : IV w (.agg #[.bool s, .slice A k c]) x.z) :
    DB w0 (w.alloc (.cells #[.bool s, .slice A k c, .int .i64 x.e] 181)) (⟨w.heap.size, s, A, k, c, x⟩ :: L) := by
  have ho : Only [] w (w.alloc (.cells #[.bool s, .slice A k c, .int .i64 x.e] 181)) := (Only.refl [] w).alloc _
  have h' := h.step ho
  refine ⟨h'.only, fun i y hy => ?_, fun i y hy => ?_, fun i j y z hij hy hz => ?_⟩
  · rcases i with _ | i
    · obtain rfl := (Option.some.inj hy).symm
      exact ⟨Blk.new w _ _, hv.only ho⟩
    · exact h'.all i y hy
  · rcases i with _ | i
    · obtain rfl := (Option.some.inj hy).symm
      exact h.only.size
    · exact h.base i y hy
  · rcases i with _ | i
    · rcases j with _ | j
      · omega
      · obtain rfl := (Option.some.inj hy).symm
        have := (h.all j z hz).1.lt
        show w.heap.size ≠ z.g
        omega
    · rcases j with _ | j
      · obtain rfl := (Option.some.inj hz).symm
        have := (h.all i y hy).1.lt
        show y.g ≠ w.heap.size
        omega
      · exact h.ne i j y z (by omega) hy hz

theorem DB.cells {w0 w : World} {L : List DX} (h : Hid (DB w0 w L)) (i : Nat) {g : Nat} {s : Bool} {A : Option Addr} {k c : Nat} {x : Dy} (hi : L[i]? = some ⟨g, s, A, k, c, x⟩) :
    w.cell? ⟨g, 0, none⟩ = some (.bool s) ∧ w.cell? ⟨g, 1, none⟩ = some (.slice A k c) ∧ w.cell? ⟨g, 2, none⟩ = some (.int .i64 x.e) ∧ w.frozen? ⟨g, 0, none⟩ = false ∧ w.frozen? ⟨g, 1, none⟩ = false ∧ w.frozen? ⟨g, 2, none⟩ = false :=
  have hb := (h.out.all i _ hi).1
  ⟨hb.cell 0, hb.cell 1, hb.cell 2, hb.frozen 0, hb.frozen 1, hb.frozen 2⟩

theorem DB.iv {w0 w : World} {L : List DX} (h : Hid (DB w0 w L)) (i : Nat) {g : Nat} {s : Bool} {A : Option Addr} {k c : Nat} {x : Dy} (hi : L[i]? = some ⟨g, s, A, k, c, x⟩) : Hid (IV w (.agg #[.bool s, .slice A k c]) x.z) := (h.out.all i _ hi).2

/-- Another number in a box. -/
theorem DB.put {w0 w : World} {L : List DX} (h : DB w0 w L) (i : Nat) {g : Nat} {s0 s : Bool} {A0 A : Option Addr} {k0 k c0 c : Nat} {x0 x : Dy} (hi : L[i]? = some ⟨g, s0, A0, k0, c0, x0⟩) (hv : IV w (.agg #[.bool s, .slice A k c]) x.z) :
    DB w0 (((w.setCell ⟨g, 0, none⟩ (.bool s)).setCell ⟨g, 1, none⟩ (.slice A k c)).setCell ⟨g, 2, none⟩ (.int .i64 x.e)) (L.set i ⟨g, s, A, k, c, x⟩) := by
  have hb := h.all i _ hi
  have ho := only_set3 w g (.bool s) (.slice A k c) (.int .i64 x.e)
  have hg : w0.heap.size ≤ g := h.base i _ hi
  have hlen : i < L.length := (List.getElem?_eq_some_iff.1 hi).1
  have far : ∀ {r : Bool} {C : Option Addr} {j l : Nat} {z : Int}, IV w (.agg #[.bool r, .slice C j l]) z → IV (((w.setCell ⟨g, 0, none⟩ (.bool s)).setCell ⟨g, 1, none⟩ (.slice A k c)).setCell ⟨g, 2, none⟩ (.int .i64 x.e)) (.agg #[.bool r, .slice C j l]) z := fun hiv =>
    hiv.farS ho (fun g' hg' => by rw [List.mem_singleton] at hg'; subst hg'; exact hiv.far_blk hb.1 (noLimb3 _ _ _ _ _))
  have hne : ∀ (j : Nat) (y : DX), L[j]? = some y → j ≠ i → y.g ≠ g := fun j y hy hj => h.ne j i y _ hj hy hi
  have key : ∀ (j : Nat) (y : DX), (L.set i ⟨g, s, A, k, c, x⟩)[j]? = some y → (j = i ∧ y = ⟨g, s, A, k, c, x⟩) ∨ (j ≠ i ∧ L[j]? = some y) := fun j y hy => by
    by_cases hij : i = j
    · subst hij
      rw [List.getElem?_set_self hlen] at hy
      exact .inl ⟨rfl, (Option.some.inj hy).symm⟩
    · rw [List.getElem?_set_ne hij] at hy
      exact .inr ⟨Ne.symm hij, hy⟩
  have gk : ∀ (j : Nat) (y : DX), (L.set i ⟨g, s, A, k, c, x⟩)[j]? = some y → ∃ y', L[j]? = some y' ∧ y'.g = y.g := fun j y hy => by
    rcases key j y hy with ⟨rfl, rfl⟩ | ⟨_, h2⟩
    · exact ⟨_, hi, rfl⟩
    · exact ⟨_, h2, rfl⟩
  refine ⟨h.only.trans ho (fun k hk => .inr (by simp at hk; omega)), fun j y hy => ?_, fun j y hy => ?_, fun j l y z hjl hy hz => ?_⟩
  · rcases key j y hy with ⟨rfl, rfl⟩ | ⟨h1, h2⟩
    · exact ⟨((hb.1.set_ 0 (.bool s)).set_ 1 (.slice A k c)).set_ 2 (.int .i64 x.e), far hv⟩
    · obtain ⟨h3, h4⟩ := h.all j y h2
      exact ⟨h3.only ho (by simp; exact hne j y h2 h1), far h4⟩
  · obtain ⟨y', h1, h2⟩ := gk j y hy
    have := h.base j y' h1; omega
  · obtain ⟨y', h1, h2⟩ := gk j y hy
    obtain ⟨z', h3, h4⟩ := gk l z hz
    have := h.ne j l y' z' hjl h1 h3; omega

/-! ### Small numbers -/

theorem nrm_eval {z e : Int} (k m : Nat) (h : z.natAbs = 2 ^ k * (2 * m + 1)) : nrm z e = ⟨sg (decide (z < 0)) (2 * m + 1), e + (k : Int)⟩ := by
  have h0 : z ≠ 0 := by
    intro hc
    rw [hc] at h
    have h1 : 0 < 2 ^ k := Nat.pow_pos (by omega)
    have h2 := Nat.mul_le_mul_left (2 ^ k) (show 1 ≤ 2 * m + 1 by omega)
    rw [← h] at h2
    have h3 : Int.natAbs 0 = 0 := rfl
    omega
  rw [nrm_nz e h0, h, lowN_is, Nat.mul_div_cancel_left _ (Nat.pow_pos (by omega))]

end Go.Proofs.YtigpnopeacicpaaDoor

/-
  Numbers as they are handed in: Of, Light; short.
-/
namespace Go.Proofs.YtigpnopeacicpaaDoor
set_option linter.unusedSimpArgs false
open Go.RowKit

/-- A whole number that is read. -/
def isWV (z : Int) : VP := fun u w => ∃ s A k c, u = .agg #[.bool s, .slice A k c] ∧ IV w u z

theorem isWV.lasts (z : Int) : Lasts (isWV z) := fun _ _ _ ⟨s, A, k, c, h1, h4⟩ ho => ⟨s, A, k, c, h1, h4.only ho⟩

theorem all_isWV {z : Int} {w : World} {K : Value → Prop} (h : ∀ s A k c, Hid (IV w (.agg #[.bool s, .slice A k c]) z) → K (.agg #[.bool s, .slice A k c])) : ∀ v, isWV z v w → K v := fun v ⟨s, A, k, c, h1, h4⟩ => by
  subst h1
  exact h s A k c h4

/-- A number as it is handed in. -/
structure NR where
  s : Bool
  a : Option Addr
  n : Nat
  c : Nat
  e : Int

def NR.v (x : NR) : Value := .agg #[.bool x.s, .slice x.a x.n x.c, .int .i64 x.e]

def NR.ok (x : NR) : Bool := decide (x.n ≤ 40) && decide (-3000 ≤ x.e) && decide (x.e ≤ 3000)

end Go.Proofs.YtigpnopeacicpaaDoor

/-
  Package flo by value: Dyad, beyond, within, exact, Float.
-/
namespace Go.Proofs.YtigpnopeacicpaaDoor
set_option linter.unusedSimpArgs false
open Go.RowKit

namespace Fl

theorem word_parts_bits (s : Bool) {r : Nat} (h : r < 9223372036854775808) : bits .and .u64 ((wordB s r : Nat) : Int) 4503599627370495 = ((r % 4503599627370496 : Nat) : Int) ∧ bits .and .u64 ((wordB s r : Nat) : Int) 9223372036854775808 = (if s then 9223372036854775808 else 0) ∧ bits .and .u64 (((wordB s r : Nat) : Int) / 4503599627370496) 2047 = ((r / 4503599627370496 : Nat) : Int) := by
  have hv := word_lt s h
  refine ⟨?_, ?_, ?_⟩
  · have h1 := bits_and_u64_nat (wordB s r) 4503599627370495 hv (by omega)
    rw [show (4503599627370495 : Int) = ((4503599627370495 : Nat) : Int) from rfl, h1, show (4503599627370495 : Nat) = 2 ^ 52 - 1 by decide, Nat.and_two_pow_sub_one_eq_mod]
    cases s <;> simp only [wordB, Bool.false_eq_true, if_false, if_true] <;> congr 1 <;> omega
  · have h1 := bits_and_u64_nat (wordB s r) 9223372036854775808 hv (by omega)
    rw [show (9223372036854775808 : Int) = ((9223372036854775808 : Nat) : Int) from rfl, h1]
    cases s
    · simp only [wordB, Bool.false_eq_true, if_false]
      have h0 : r &&& 9223372036854775808 = 0 := by
        apply Nat.eq_of_testBit_eq
        intro i
        rw [Nat.testBit_and, show (9223372036854775808 : Nat) = 2 ^ 63 by decide, Nat.testBit_two_pow, Nat.zero_testBit]
        by_cases hi : 63 = i
        · subst hi; rw [Nat.testBit_lt_two_pow (by omega)]; rfl
        · rw [decide_eq_false hi, Bool.and_false]
      rw [h0]
      rfl
    · simp only [wordB, if_true]
      have h0 : (9223372036854775808 + r) &&& 9223372036854775808 = 9223372036854775808 := by
        apply Nat.eq_of_testBit_eq
        intro i
        rw [Nat.testBit_and, show (9223372036854775808 : Nat) = 2 ^ 63 by decide, Nat.testBit_two_pow]
        by_cases hi : 63 = i
        · subst hi; rw [Nat.testBit_two_pow_add_eq, Nat.testBit_lt_two_pow (by omega)]; rfl
        · rw [decide_eq_false hi, Bool.and_false]
      rw [h0]
  · have e1 : (((wordB s r : Nat) : Int) / 4503599627370496) = ((wordB s r / 4503599627370496 : Nat) : Int) := by omega
    have h1 := bits_and_u64_nat (wordB s r / 4503599627370496) 2047 (by omega) (by omega)
    rw [e1, show (2047 : Int) = ((2047 : Nat) : Int) from rfl, h1, show (2047 : Nat) = 2 ^ 11 - 1 by decide, Nat.and_two_pow_sub_one_eq_mod]
    cases s <;> simp only [wordB, Bool.false_eq_true, if_false, if_true] <;> congr 1 <;> omega

theorem or_b52 {m : Nat} (h : m < 4503599627370496) : bits .or .u64 (m : Int) 4503599627370496 = ((4503599627370496 + m : Nat) : Int) := by
  have h1 := bits_or_u64_nat m 4503599627370496 (by omega) (by omega)
  rw [show (4503599627370496 : Int) = ((4503599627370496 : Nat) : Int) from rfl, h1]
  congr 1
  rw [Nat.or_comm, show (4503599627370496 : Nat) = 2 ^ 52 * 1 by decide, ← Nat.two_pow_add_eq_or_of_lt (by omega)]

theorem mant_lt (r : Nat) : mantW r < 9007199254740992 := by unfold mantW; split <;> omega

theorem finN (s : Bool) {r : Nat} (h : r < INF) : finB (wordB s r) = true := by rw [fin_word s (by unfold INF at h; omega)]; simpa using h

set_option maxHeartbeats 1600000 in
set_option maxRecDepth 100000 in
theorem fl_dyad_core (s : Bool) (v m0 e0 m1 : Nat) (x : Dy) (w : World) (hT : Hid (Tab6 w)) (hv : v < 18446744073709551616) (hf : finB v = true) (hA : bits .and .u64 (v : Int) 4503599627370495 = (m0 : Int)) (hS : bits .and .u64 (v : Int) 9223372036854775808 = (if s then 9223372036854775808 else 0)) (hE : bits .and .u64 ((v : Int) / 4503599627370496) 2047 = (e0 : Int)) (he : e0 < 2048)
    (hO : e0 ≠ 0 → bits .or .u64 (m0 : Int) 4503599627370496 = (m1 : Int)) (hm1 : (m1 : Int) < 9007199254740992) (h0 : e0 = 0 → m0 = m1) (hx : nrm (sg s m1) ((if e0 = 0 then 1 else (e0 : Int)) - 1 + -1074) = x) : Calls Tryd.prog 128 #[.float .f64 v] w (QDPost x true w) := by
  have hk := (KB.start w).new 181 [.bool false, .slice none 0 0, .int .i64 0]
  have HT := Lib.hid (hT.out.keep hk.only)
  have HK := Lib.hid hk
  have HV := Lib.hid hv
  have HM : Hid (m1 < BB) := by show _ < _; rw [BB_val]; omega
  have HB : Hid (bitsN (sg s m1).natAbs ≤ 16777216) := by
    show _ ≤ _
    rw [sg_abs]
    exact Nat.le_trans (bitsN_le (show m1 < 2 ^ 53 by omega)) (by decide)
  have hbr := bits_run v
  clear hk hT hv
  by_cases hz : e0 = 0
  · subst hz
    have h01 := h0 rfl
    subst h01
    rw [if_pos rfl] at hx
    have HX : Hid (nrm (sg s m0) (-1074) = x) := hx
    clear hx h0 hO he hm1
    cases s
    · simp only [Bool.false_eq_true, if_false] at hS
      go_enter Tryd.func128, Tryd.ntmps128
      go_wp2_with (go_at_call 127; (with_reducible refine (finite_any v HV.out _).mono ?_); rw [hf]; rintro e w' ⟨rfl, rfl⟩)
      have hol := of_lit m0 ((m0 : Nat) : Int) (w.alloc (.cells #[.bool false, .slice none 0 0, .int .i64 0] 181)) HM (Lib.hid rfl)
      simp only [World.size_alloc] at hol
      (with_reducible refine hol.mono ?_)
      clear hol
      rintro e w2 ⟨A2, k2, c2, rfl, hr2, hv2, ho2⟩
      replace HK := Lib.hid (HK.out.step ho2)
      replace HT := Lib.hid (HT.out.keep ho2)
      have HV2 := Lib.hid hv2
      clear hr2 hv2 ho2
      go_wp2_with fail
      (with_reducible refine (make_w false HV2).mono ?_)
      rintro e w3 ⟨s3, A3, k3, c3, rfl, -, -, hv3, ho3⟩
      replace HK := Lib.hid (HK.out.step ho3)
      replace HT := Lib.hid (HT.out.keep ho3)
      have HV3 := Lib.hid hv3
      clear hv3 ho3
      go_wp2_with fail
      (with_reducible refine (make_d HV3 HB (by omega) (by omega) HT).mono ?_)
      rintro e w4 ⟨s4, A4, k4, c4, rfl, hs4, hk4, hv4, ho4⟩
      replace HK := Lib.hid (HK.out.step ho4)
      have HC : Hid (Cn s4 k4 (nrm (sg false m0) _).z) := ⟨hs4, hk4⟩
      have HV4 := Lib.hid hv4
      obtain ⟨c0, c1', c2', f0, f1, f2⟩ := HK.out.c3 0 rfl
      clear ho4 hs4 hk4 hv4
      rw [HX.out] at HC HV4
      rw [HX.out]
      go_wp2_with fail
      refine bodyPost_ret (v := .tuple #[.agg #[.bool s4, .slice A4 k4 c4, .int .i64 (x.e)], .bool true]) (by simp [results, Tryd.results128, go_sem, c0, c1', c2']) rfl ?_
      exact QDPost.of (dfin HC HV4 (by omega) (HK.out.blk 0 rfl) (noLimb3 _ _ _ _ _) HK.out.only (only_set3 _ _ _ _ _))
    · simp only [if_true] at hS
      go_enter Tryd.func128, Tryd.ntmps128
      go_wp2_with (go_at_call 127; (with_reducible refine (finite_any v HV.out _).mono ?_); rw [hf]; rintro e w' ⟨rfl, rfl⟩)
      have hol := of_lit m0 ((m0 : Nat) : Int) (w.alloc (.cells #[.bool false, .slice none 0 0, .int .i64 0] 181)) HM (Lib.hid rfl)
      simp only [World.size_alloc] at hol
      (with_reducible refine hol.mono ?_)
      clear hol
      rintro e w2 ⟨A2, k2, c2, rfl, hr2, hv2, ho2⟩
      replace HK := Lib.hid (HK.out.step ho2)
      replace HT := Lib.hid (HT.out.keep ho2)
      have HV2 := Lib.hid hv2
      clear hr2 hv2 ho2
      go_wp2_with fail
      (with_reducible refine (make_w true HV2).mono ?_)
      rintro e w3 ⟨s3, A3, k3, c3, rfl, -, -, hv3, ho3⟩
      replace HK := Lib.hid (HK.out.step ho3)
      replace HT := Lib.hid (HT.out.keep ho3)
      have HV3 := Lib.hid hv3
      clear hv3 ho3
      go_wp2_with fail
      (with_reducible refine (make_d HV3 HB (by omega) (by omega) HT).mono ?_)
      rintro e w4 ⟨s4, A4, k4, c4, rfl, hs4, hk4, hv4, ho4⟩
      replace HK := Lib.hid (HK.out.step ho4)
      have HC : Hid (Cn s4 k4 (nrm (sg true m0) _).z) := ⟨hs4, hk4⟩
      have HV4 := Lib.hid hv4
      obtain ⟨c0, c1', c2', f0, f1, f2⟩ := HK.out.c3 0 rfl
      clear ho4 hs4 hk4 hv4
      rw [HX.out] at HC HV4
      rw [HX.out]
      go_wp2_with fail
      refine bodyPost_ret (v := .tuple #[.agg #[.bool s4, .slice A4 k4 c4, .int .i64 (x.e)], .bool true]) (by simp [results, Tryd.results128, go_sem, c0, c1', c2']) rfl ?_
      exact QDPost.of (dfin HC HV4 (by omega) (HK.out.blk 0 rfl) (noLimb3 _ _ _ _ _) HK.out.only (only_set3 _ _ _ _ _))
  · rw [if_neg hz] at hx
    have HX := Lib.hid hx
    have hO' := hO hz
    have hz' : ((e0 : Int) == 0) = false := by rw [beq_eq_false_iff_ne]; omega
    have he' : (e0 : Int) < 2048 := by omega
    have hz2 : ¬ (e0 : Int) = 0 := by omega
    clear hx h0 he hm1 hz hO
    cases s
    · simp only [Bool.false_eq_true, if_false] at hS
      go_enter Tryd.func128, Tryd.ntmps128
      go_wp2_with (go_at_call 127; (with_reducible refine (finite_any v HV.out _).mono ?_); rw [hf]; rintro e w' ⟨rfl, rfl⟩)
      have hol := of_lit m1 ((m1 : Nat) : Int) (w.alloc (.cells #[.bool false, .slice none 0 0, .int .i64 0] 181)) HM (Lib.hid rfl)
      simp only [World.size_alloc] at hol
      (with_reducible refine hol.mono ?_)
      clear hol
      rintro e w2 ⟨A2, k2, c2, rfl, hr2, hv2, ho2⟩
      replace HK := Lib.hid (HK.out.step ho2)
      replace HT := Lib.hid (HT.out.keep ho2)
      have HV2 := Lib.hid hv2
      clear hr2 hv2 ho2
      go_wp2_with fail
      (with_reducible refine (make_w false HV2).mono ?_)
      rintro e w3 ⟨s3, A3, k3, c3, rfl, -, -, hv3, ho3⟩
      replace HK := Lib.hid (HK.out.step ho3)
      replace HT := Lib.hid (HT.out.keep ho3)
      have HV3 := Lib.hid hv3
      clear hv3 ho3
      go_wp2_with fail
      (with_reducible refine (make_d HV3 HB (by omega) (by omega) HT).mono ?_)
      rintro e w4 ⟨s4, A4, k4, c4, rfl, hs4, hk4, hv4, ho4⟩
      replace HK := Lib.hid (HK.out.step ho4)
      have HC : Hid (Cn s4 k4 (nrm (sg false m1) _).z) := ⟨hs4, hk4⟩
      have HV4 := Lib.hid hv4
      obtain ⟨c0, c1', c2', f0, f1, f2⟩ := HK.out.c3 0 rfl
      clear ho4 hs4 hk4 hv4
      rw [HX.out] at HC HV4
      rw [HX.out]
      go_wp2_with fail
      refine bodyPost_ret (v := .tuple #[.agg #[.bool s4, .slice A4 k4 c4, .int .i64 (x.e)], .bool true]) (by simp [results, Tryd.results128, go_sem, c0, c1', c2']) rfl ?_
      exact QDPost.of (dfin HC HV4 (by omega) (HK.out.blk 0 rfl) (noLimb3 _ _ _ _ _) HK.out.only (only_set3 _ _ _ _ _))
    · simp only [if_true] at hS
      go_enter Tryd.func128, Tryd.ntmps128
      go_wp2_with (go_at_call 127; (with_reducible refine (finite_any v HV.out _).mono ?_); rw [hf]; rintro e w' ⟨rfl, rfl⟩)
      have hol := of_lit m1 ((m1 : Nat) : Int) (w.alloc (.cells #[.bool false, .slice none 0 0, .int .i64 0] 181)) HM (Lib.hid rfl)
      simp only [World.size_alloc] at hol
      (with_reducible refine hol.mono ?_)
      clear hol
      rintro e w2 ⟨A2, k2, c2, rfl, hr2, hv2, ho2⟩
      replace HK := Lib.hid (HK.out.step ho2)
      replace HT := Lib.hid (HT.out.keep ho2)
      have HV2 := Lib.hid hv2
      clear hr2 hv2 ho2
      go_wp2_with fail
      (with_reducible refine (make_w true HV2).mono ?_)
      rintro e w3 ⟨s3, A3, k3, c3, rfl, -, -, hv3, ho3⟩
      replace HK := Lib.hid (HK.out.step ho3)
      replace HT := Lib.hid (HT.out.keep ho3)
      have HV3 := Lib.hid hv3
      clear hv3 ho3
      go_wp2_with fail
      (with_reducible refine (make_d HV3 HB (by omega) (by omega) HT).mono ?_)
      rintro e w4 ⟨s4, A4, k4, c4, rfl, hs4, hk4, hv4, ho4⟩
      replace HK := Lib.hid (HK.out.step ho4)
      have HC : Hid (Cn s4 k4 (nrm (sg true m1) _).z) := ⟨hs4, hk4⟩
      have HV4 := Lib.hid hv4
      obtain ⟨c0, c1', c2', f0, f1, f2⟩ := HK.out.c3 0 rfl
      clear ho4 hs4 hk4 hv4
      rw [HX.out] at HC HV4
      rw [HX.out]
      go_wp2_with fail
      refine bodyPost_ret (v := .tuple #[.agg #[.bool s4, .slice A4 k4 c4, .int .i64 (x.e)], .bool true]) (by simp [results, Tryd.results128, go_sem, c0, c1', c2']) rfl ?_
      exact QDPost.of (dfin HC HV4 (by omega) (HK.out.blk 0 rfl) (noLimb3 _ _ _ _ _) HK.out.only (only_set3 _ _ _ _ _))

theorem fl_dyad (s : Bool) {r : Nat} (h : r < INF) (w : World) (hT : Hid (Tab6 w)) : Calls Tryd.prog 128 #[.float .f64 (wordB s r)] w (QDPost (fD s r) true w) := by
  have h2 : r < 9223372036854775808 := by unfold INF at h; omega
  obtain ⟨h1, h3, h4⟩ := word_parts_bits s h2
  refine fl_dyad_core s (wordB s r) (r % 4503599627370496) (r / 4503599627370496) (mantW r) _ w hT (word_lt s h2) (finN s h) h1 h3 h4 (by omega) (fun h0 => ?_) (by have := mant_lt r; omega) (fun h0 => ?_) ?_
  · rw [or_b52 (Nat.mod_lt _ (by omega))]
    unfold mantW
    rw [if_neg (by omega)]
  · unfold mantW
    rw [if_pos (by omega)]
    omega
  · unfold fD expoW
    congr 1
    split <;> omega

end Fl

end Go.Proofs.YtigpnopeacicpaaDoor

/-
  compasslaw4.alive: a first call whose answer is known.
-/
namespace Go.Proofs.YtigpnopeacicpaaDoor
set_option linter.unusedSimpArgs false
open Go.RowKit

namespace Fl

theorem fl_dyadV (v : Nat) (s : Bool) {r : Nat} (x : Dy) (h : r < INF) (hv : wordB s r = v) (hx : fD s r = x) (w : World) (hT : Hid (Tab6 w)) : Calls Tryd.prog 128 #[.float .f64 v] w (QDPost x true w) := by
  subst hv hx
  exact fl_dyad s h w hT

end Fl

end Go.Proofs.YtigpnopeacicpaaDoor
