/-
  GapHolds: numbers that are none; numbers brought into gaps.
-/
import Derived.Test.YtkibkmdgibemkaaDoorTbLawGh
import Derived.Test.YtkibkmdgibemkaaDoorTbZGp
import Derived.Test.YtkibkmdgibemkaaDoorTbTyu
namespace Go.Proofs.YtkibkmdgibemkaaDoor
set_option linter.unusedSimpArgs false
open Go.RowKit
namespace Fl
attribute [local go_sem] run_store_float

/-- Words that are no numbers. -/
def NaNW (n : Nat) : Prop := ∃ s r, n = wordB s r ∧ INF < r ∧ r < 9223372036854775808
theorem NaNW.lt {n : Nat} (h : NaNW n) : n < 18446744073709551616 := by
  obtain ⟨s, r, rfl, _, h2⟩ := h
  exact word_lt s h2
theorem NaNW.fin {n : Nat} (h : NaNW n) : finB n = false := by
  obtain ⟨s, r, rfl, h1, h2⟩ := h
  exact finF s (by omega) h2
theorem NaNW.ord {n : Nat} (h : NaNW n) (m : Nat) : FloatKind.f64.format.order n m = none := by
  obtain ⟨s, r, rfl, h1, h2⟩ := h
  exact (ord_nan s h1 h2 m).1
theorem nan_cut (b : Bool) (x y t : Nat) : NaNW ((Question.nanMinMax .f64 b x y).cut t) := by
  refine ⟨decide (t % 2 = 1), 9218868437227405312 + 1 + (t / 2) % (2 ^ 52 - 1), ?_, ?_, ?_⟩
  · show (t % 2) * 2 ^ 63 + 0x7ff0000000000000 + 1 + (t / 2) % (2 ^ 52 - 1) = _
    have h : t % 2 = 0 ∨ t % 2 = 1 := by omega
    rcases h with h | h
    · rw [h]; simp only [wordB]; simp
    · rw [h]; simp only [wordB]; simp; omega
  · rw [inf_val]; omega
  · have := Nat.mod_lt (t / 2) (show 0 < 2 ^ 52 - 1 by decide)
    omega
theorem nan_max (P : Program) (x y : Nat) (h : FloatKind.f64.format.order x y = none) (ts : Array TypeId) (t : TypeId) (w : World) : ∃ n, (Builtin.max_ ts t #[.float .f64 x, .float .f64 y]).run P w = .ok (.float .f64 n) w.drew ∧ NaNW n := by
  refine ⟨_, ?_, nan_cut true x y (w.tape w.drawn (.nanMinMax .f64 true x y))⟩
  simp only [Builtin.max_, List.foldlM, Sem.run_bind, Builtin.max2, h, run_choose_drew, Question.forced]
  rfl
theorem nan_min (P : Program) (x y : Nat) (h : FloatKind.f64.format.order x y = none) (ts : Array TypeId) (t : TypeId) (w : World) : ∃ n, (Builtin.min_ ts t #[.float .f64 x, .float .f64 y]).run P w = .ok (.float .f64 n) w.drew ∧ NaNW n := by
  refine ⟨_, ?_, nan_cut false x y (w.tape w.drawn (.nanMinMax .f64 false x y))⟩
  simp only [Builtin.min_, List.foldlM, Sem.run_bind, Builtin.min2, h, run_choose_drew, Question.forced]
  rfl

def isNN : VP := fun u _ => ∃ n, u = .float .f64 n ∧ NaNW n
theorem isNN.lasts : Lasts isNN := fun _ _ _ h _ => h
theorem all_isNN {w : World} {K : Value → Prop} (h : ∀ n, Hid (NaNW n) → K (.float .f64 n)) : ∀ v, isNN v w → K v := fun v ⟨n, h1, h2⟩ => by
  subst h1
  exact h n (Lib.hid h2)
def isFA : VP := fun u _ => ∃ n, u = .float .f64 n ∧ n < 18446744073709551616
theorem isFA.lasts : Lasts isFA := fun _ _ _ h _ => h
theorem all_isFA {w : World} {K : Value → Prop} (h : ∀ n, Hid (n < 18446744073709551616) → K (.float .f64 n)) : ∀ v, isFA v w → K v := fun v ⟨n, h1, h2⟩ => by
  subst h1
  exact h n (Lib.hid h2)
theorem any_max (P : Program) (x y : Nat) (hx : x < 18446744073709551616) (hy : y < 18446744073709551616) (ts : Array TypeId) (t : TypeId) (w : World) : ∃ n w', (Builtin.max_ ts t #[.float .f64 x, .float .f64 y]).run P w = .ok (.float .f64 n) w' ∧ n < 18446744073709551616 ∧ Only [] w w' := by
  cases h : FloatKind.f64.format.order x y with
  | none =>
    obtain ⟨n, h1, h2⟩ := nan_max P x y h ts t w
    exact ⟨n, _, h1, h2.lt, (Only.refl _ _).drew⟩
  | some o =>
    cases o with
    | lt => exact ⟨y, w, by simp only [Builtin.max_, List.foldlM, Sem.run_bind, Builtin.max2, h]; rfl, hy, Only.refl _ _⟩
    | gt => exact ⟨x, w, by simp only [Builtin.max_, List.foldlM, Sem.run_bind, Builtin.max2, h]; rfl, hx, Only.refl _ _⟩
    | eq => exact ⟨if (FloatKind.f64.decode x).neg then y else x, w, by simp only [Builtin.max_, List.foldlM, Sem.run_bind, Builtin.max2, h]; rfl, by split <;> assumption, Only.refl _ _⟩
theorem any_min (P : Program) (x y : Nat) (hx : x < 18446744073709551616) (hy : y < 18446744073709551616) (ts : Array TypeId) (t : TypeId) (w : World) : ∃ n w', (Builtin.min_ ts t #[.float .f64 x, .float .f64 y]).run P w = .ok (.float .f64 n) w' ∧ n < 18446744073709551616 ∧ Only [] w w' := by
  cases h : FloatKind.f64.format.order x y with
  | none =>
    obtain ⟨n, h1, h2⟩ := nan_min P x y h ts t w
    exact ⟨n, _, h1, h2.lt, (Only.refl _ _).drew⟩
  | some o =>
    cases o with
    | lt => exact ⟨x, w, by simp only [Builtin.min_, List.foldlM, Sem.run_bind, Builtin.min2, h]; rfl, hx, Only.refl _ _⟩
    | gt => exact ⟨y, w, by simp only [Builtin.min_, List.foldlM, Sem.run_bind, Builtin.min2, h]; rfl, hy, Only.refl _ _⟩
    | eq => exact ⟨if (FloatKind.f64.decode x).neg then x else y, w, by simp only [Builtin.min_, List.foldlM, Sem.run_bind, Builtin.min2, h]; rfl, by split <;> assumption, Only.refl _ _⟩
set_option maxHeartbeats 8000000 in
set_option maxRecDepth 100000 in
theorem gh_nan1 (a1 a2 b1 b2 x y : Nat) (w : World) (ha1 : Hid (a1 < 18446744073709551616)) (ha2 : Hid (a2 < 18446744073709551616)) (hb1 : Hid (b1 < 18446744073709551616)) (hb2 : Hid (b2 < 18446744073709551616)) (hka : kn a1 a2 = true) (hkb : kn b1 b2 = true) (hoxx : Hid (FloatKind.f64.format.order x a1 = none)) (hy64 : Hid (y < 18446744073709551616)) : Calls Tryd.prog 3 #[.agg #[.float .f64 a1, .float .f64 a2], .agg #[.float .f64 b1, .float .f64 b2], .float .f64 x, .float .f64 y] w fun e w' => e = .returned (.bool true) ∧ Only [] w w' := by
  have hk := ((GB.start w).new 24 [.float .f64 a1, .float .f64 a2] (noLimb2f _ _)).new 24 [.float .f64 b1, .float .f64 b2] (noLimb2f _ _)
  simp only [World.size_alloc] at hk
  have HG := Lib.hid hk
  have HI := Lib.hid (WL.nil ((w.alloc (.cells #[.float .f64 a1, .float .f64 a2] 24)).alloc (.cells #[.float .f64 b1, .float .f64 b2] 24)))
  have HR := Lib.hid (RL.nil ((w.alloc (.cells #[.float .f64 a1, .float .f64 a2] 24)).alloc (.cells #[.float .f64 b1, .float .f64 b2] 24)))
  clear hk
  go_enter Tryd.func3, Tryd.ntmps3
  obtain ⟨x1_0, x1_1⟩ := GB.c2 HG 1 rfl
  obtain ⟨x2_0, x2_1⟩ := GB.c2 HG 0 rfl
  go_wp2_with fail
  (with_reducible refine (lknownV a1 a2 true ha1.out ha2.out hka _).mono ?_)
  rintro e w101 ⟨rfl, ho⟩
  replace HG := Lib.hid (HG.out.step ho)
  replace HI := Lib.hid (HI.out.step ho)
  replace HR := Lib.hid (HR.out.step ho)
  clear ho
  clear x1_0 x1_1 x2_0 x2_1
  obtain ⟨x3_0, x3_1⟩ := GB.c2 HG 0 rfl
  go_wp2_with fail
  (with_reducible refine (lknownV b1 b2 true hb1.out hb2.out hkb _).mono ?_)
  rintro e w102 ⟨rfl, ho⟩
  replace HG := Lib.hid (HG.out.step ho)
  replace HI := Lib.hid (HI.out.step ho)
  replace HR := Lib.hid (HR.out.step ho)
  clear ho
  clear x3_0 x3_1
  go_wp2_with fail
  (with_reducible refine (alive7_any _).mono ?_)
  rintro e w103 ⟨rfl, ho⟩
  replace HG := Lib.hid (HG.out.step ho)
  replace HI := Lib.hid (HI.out.step ho)
  replace HR := Lib.hid (HR.out.step ho)
  clear ho
  go_upto_region 3 with fail
  apply wp_region_typedU (by kernel_rfl) [isV _, isV _, isV _, isNN, isV _, isV _, isNN, isV _, isV _, isV _, isFA, isV _, isV _, isFA, isNN, isFA] [[], [], [1], [0, 2], [], [4], [3, 5], [], [], [8], [7, 9], [], [11], [10, 12], [6], [13]] (by kernel_rfl) (by kernel_rfl)
  case ho =>
    refine owes2_cons (fun wx hox => ?_) ?_
    · skip
      skip
      refine withs_plain rfl ?_
      simp only [withs, List.getElem?_cons_zero, List.getElem?_cons_succ, Option.bind, Option.getD]
      repeat (first | (with_reducible refine all_isV ?_) | (with_reducible refine all_isNN ?_; intro nx hnx) | (with_reducible refine all_isFA ?_; intro fx hfx))
      go_simp
      exact ⟨Only.refl _ _, isV.self _ _⟩
    refine owes2_cons (fun wx hox => ?_) ?_
    · skip
      skip
      refine withs_plain rfl ?_
      simp only [withs, List.getElem?_cons_zero, List.getElem?_cons_succ, Option.bind, Option.getD]
      repeat (first | (with_reducible refine all_isV ?_) | (with_reducible refine all_isNN ?_; intro nx hnx) | (with_reducible refine all_isFA ?_; intro fx hfx))
      go_simp
      exact ⟨Only.refl _ _, isV.self _ _⟩
    refine owes2_cons (fun wx hox => ?_) ?_
    · skip
      have hg := Lib.hid (HG.out.step hox)
      have hi := Lib.hid (HI.out.step hox)
      have hr := Lib.hid (HR.out.step hox)
      obtain ⟨x4_0, x4_1⟩ := GB.c2 hg 1 rfl
      clear hg hi hr
      refine withs_plain rfl ?_
      simp only [withs, List.getElem?_cons_zero, List.getElem?_cons_succ, Option.bind, Option.getD]
      repeat (first | (with_reducible refine all_isV ?_) | (with_reducible refine all_isNN ?_; intro nx hnx) | (with_reducible refine all_isFA ?_; intro fx hfx))
      go_simp
      exact ⟨Only.refl _ _, isV.self _ _⟩
    refine owes2_cons (fun wx hox => ?_) ?_
    · skip
      skip
      refine withs_plain rfl ?_
      simp only [withs, List.getElem?_cons_zero, List.getElem?_cons_succ, Option.bind, Option.getD]
      repeat (first | (with_reducible refine all_isV ?_) | (with_reducible refine all_isNN ?_; intro nx hnx) | (with_reducible refine all_isFA ?_; intro fx hfx))
      go_simp
      (obtain ⟨n, hr, hn⟩ := nan_max Tryd.prog x a1 (hoxx.out) #[22, 22] 22 wx; rw [hr]; exact ⟨(Only.refl _ _).drew, n, rfl, hn⟩)
    refine owes2_cons (fun wx hox => ?_) ?_
    · skip
      skip
      refine withs_plain rfl ?_
      simp only [withs, List.getElem?_cons_zero, List.getElem?_cons_succ, Option.bind, Option.getD]
      repeat (first | (with_reducible refine all_isV ?_) | (with_reducible refine all_isNN ?_; intro nx hnx) | (with_reducible refine all_isFA ?_; intro fx hfx))
      go_simp
      exact ⟨Only.refl _ _, isV.self _ _⟩
    refine owes2_cons (fun wx hox => ?_) ?_
    · skip
      have hg := Lib.hid (HG.out.step hox)
      have hi := Lib.hid (HI.out.step hox)
      have hr := Lib.hid (HR.out.step hox)
      obtain ⟨x5_0, x5_1⟩ := GB.c2 hg 1 rfl
      clear hg hi hr
      refine withs_plain rfl ?_
      simp only [withs, List.getElem?_cons_zero, List.getElem?_cons_succ, Option.bind, Option.getD]
      repeat (first | (with_reducible refine all_isV ?_) | (with_reducible refine all_isNN ?_; intro nx hnx) | (with_reducible refine all_isFA ?_; intro fx hfx))
      go_simp
      exact ⟨Only.refl _ _, isV.self _ _⟩
    refine owes2_cons (fun wx hox => ?_) ?_
    · skip
      skip
      refine withs_plain rfl ?_
      simp only [withs, List.getElem?_cons_zero, List.getElem?_cons_succ, Option.bind, Option.getD]
      repeat (first | (with_reducible refine all_isV ?_) | (with_reducible refine all_isNN ?_; intro nx hnx) | (with_reducible refine all_isFA ?_; intro fx hfx))
      go_simp
      (obtain ⟨n, hr, hn⟩ := nan_min Tryd.prog nx a2 (hnx.out.ord _) #[22, 22] 22 wx; rw [hr]; exact ⟨(Only.refl _ _).drew, n, rfl, hn⟩)
    refine owes2_cons (fun wx hox => ?_) ?_
    · skip
      skip
      refine withs_plain rfl ?_
      simp only [withs, List.getElem?_cons_zero, List.getElem?_cons_succ, Option.bind, Option.getD]
      repeat (first | (with_reducible refine all_isV ?_) | (with_reducible refine all_isNN ?_; intro nx hnx) | (with_reducible refine all_isFA ?_; intro fx hfx))
      go_simp
      exact ⟨Only.refl _ _, isV.self _ _⟩
    refine owes2_cons (fun wx hox => ?_) ?_
    · skip
      skip
      refine withs_plain rfl ?_
      simp only [withs, List.getElem?_cons_zero, List.getElem?_cons_succ, Option.bind, Option.getD]
      repeat (first | (with_reducible refine all_isV ?_) | (with_reducible refine all_isNN ?_; intro nx hnx) | (with_reducible refine all_isFA ?_; intro fx hfx))
      go_simp
      exact ⟨Only.refl _ _, isV.self _ _⟩
    refine owes2_cons (fun wx hox => ?_) ?_
    · skip
      have hg := Lib.hid (HG.out.step hox)
      have hi := Lib.hid (HI.out.step hox)
      have hr := Lib.hid (HR.out.step hox)
      obtain ⟨x6_0, x6_1⟩ := GB.c2 hg 0 rfl
      clear hg hi hr
      refine withs_plain rfl ?_
      simp only [withs, List.getElem?_cons_zero, List.getElem?_cons_succ, Option.bind, Option.getD]
      repeat (first | (with_reducible refine all_isV ?_) | (with_reducible refine all_isNN ?_; intro nx hnx) | (with_reducible refine all_isFA ?_; intro fx hfx))
      go_simp
      exact ⟨Only.refl _ _, isV.self _ _⟩
    refine owes2_cons (fun wx hox => ?_) ?_
    · skip
      skip
      refine withs_plain rfl ?_
      simp only [withs, List.getElem?_cons_zero, List.getElem?_cons_succ, Option.bind, Option.getD]
      repeat (first | (with_reducible refine all_isV ?_) | (with_reducible refine all_isNN ?_; intro nx hnx) | (with_reducible refine all_isFA ?_; intro fx hfx))
      go_simp
      (obtain ⟨n, w', hr, hn, ho⟩ := any_max Tryd.prog y b1 hy64.out hb1.out #[22, 22] 22 wx; rw [hr]; exact ⟨ho, n, rfl, hn⟩)
    refine owes2_cons (fun wx hox => ?_) ?_
    · skip
      skip
      refine withs_plain rfl ?_
      simp only [withs, List.getElem?_cons_zero, List.getElem?_cons_succ, Option.bind, Option.getD]
      repeat (first | (with_reducible refine all_isV ?_) | (with_reducible refine all_isNN ?_; intro nx hnx) | (with_reducible refine all_isFA ?_; intro fx hfx))
      go_simp
      exact ⟨Only.refl _ _, isV.self _ _⟩
    refine owes2_cons (fun wx hox => ?_) ?_
    · skip
      have hg := Lib.hid (HG.out.step hox)
      have hi := Lib.hid (HI.out.step hox)
      have hr := Lib.hid (HR.out.step hox)
      obtain ⟨x7_0, x7_1⟩ := GB.c2 hg 0 rfl
      clear hg hi hr
      refine withs_plain rfl ?_
      simp only [withs, List.getElem?_cons_zero, List.getElem?_cons_succ, Option.bind, Option.getD]
      repeat (first | (with_reducible refine all_isV ?_) | (with_reducible refine all_isNN ?_; intro nx hnx) | (with_reducible refine all_isFA ?_; intro fx hfx))
      go_simp
      exact ⟨Only.refl _ _, isV.self _ _⟩
    refine owes2_cons (fun wx hox => ?_) ?_
    · skip
      skip
      refine withs_plain rfl ?_
      simp only [withs, List.getElem?_cons_zero, List.getElem?_cons_succ, Option.bind, Option.getD]
      repeat (first | (with_reducible refine all_isV ?_) | (with_reducible refine all_isNN ?_; intro nx hnx) | (with_reducible refine all_isFA ?_; intro fx hfx))
      go_simp
      (obtain ⟨n, w', hr, hn, ho⟩ := any_min Tryd.prog fx b2 hfx.out hb2.out #[22, 22] 22 wx; rw [hr]; exact ⟨ho, n, rfl, hn⟩)
    refine owes2_cons (fun wx hox => ?_) ?_
    · skip
      skip
      refine withs_plain rfl ?_
      simp only [withs, List.getElem?_cons_zero, List.getElem?_cons_succ, Option.bind, Option.getD]
      repeat (first | (with_reducible refine all_isV ?_) | (with_reducible refine all_isNN ?_; intro nx hnx) | (with_reducible refine all_isFA ?_; intro fx hfx))
      go_simp
      (exact ⟨Only.refl _ _, nx, rfl, hnx.out⟩)
    refine owes2_cons (fun wx hox => ?_) ?_
    · skip
      skip
      refine withs_plain rfl ?_
      simp only [withs, List.getElem?_cons_zero, List.getElem?_cons_succ, Option.bind, Option.getD]
      repeat (first | (with_reducible refine all_isV ?_) | (with_reducible refine all_isNN ?_; intro nx hnx) | (with_reducible refine all_isFA ?_; intro fx hfx))
      go_simp
      (exact ⟨Only.refl _ _, fx, rfl, hfx.out⟩)
    exact owes2_nil
  case hl =>
    repeat (refine List.forall_mem_cons.2 ⟨?_, ?_⟩; first | exact isV.lasts _ | exact isNN.lasts | exact isFA.lasts)
    exact fun _ h => (by cases h)
  intro wx hox
  refine withs_of (by simp only [List.length, List.range, List.range.loop]; exact rfl) ?_
  simp only [withs, List.getElem?_cons_zero, List.getElem?_cons_succ, Option.bind, Option.getD]
  repeat (first | (with_reducible refine all_isV ?_) | (with_reducible refine all_isNN ?_; intro nx hnx) | (with_reducible refine all_isFA ?_; intro fx hfx))
  go_simp
  as_aux_lemma =>
    replace HG := Lib.hid (HG.out.step hox)
    replace HI := Lib.hid (HI.out.step hox)
    replace HR := Lib.hid (HR.out.step hox)
    clear hox
    go_wp2_with fail
    (with_reducible refine (finiteV nx false hnx.out.lt hnx.out.fin _).mono ?_)
    rintro e w' ⟨rfl, rfl⟩
    go_wp2_with fail
    go_ret
    exact ⟨rfl, HG.out.only⟩
set_option maxHeartbeats 8000000 in
set_option maxRecDepth 100000 in
theorem gh_nan2 (a1 a2 b1 b2 x y : Nat) (w : World) (ha1 : Hid (a1 < 18446744073709551616)) (ha2 : Hid (a2 < 18446744073709551616)) (hb1 : Hid (b1 < 18446744073709551616)) (hb2 : Hid (b2 < 18446744073709551616)) (hka : kn a1 a2 = true) (hkb : kn b1 b2 = true) (mx cx : Nat) (hfx0 : finB cx = true) (hcx64 : Hid (cx < 18446744073709551616)) (hm1 : (∀ w : World, (Builtin.max_ #[22, 22] 22 #[.float .f64 x, .float .f64 a1]).run Tryd.prog w = .ok (.float .f64 mx) w)) (hm2 : (∀ w : World, (Builtin.min_ #[22, 22] 22 #[.float .f64 mx, .float .f64 a2]).run Tryd.prog w = .ok (.float .f64 cx) w)) (hoy : Hid (FloatKind.f64.format.order y b1 = none)) : Calls Tryd.prog 3 #[.agg #[.float .f64 a1, .float .f64 a2], .agg #[.float .f64 b1, .float .f64 b2], .float .f64 x, .float .f64 y] w fun e w' => e = .returned (.bool true) ∧ Only [] w w' := by
  have hk := ((GB.start w).new 24 [.float .f64 a1, .float .f64 a2] (noLimb2f _ _)).new 24 [.float .f64 b1, .float .f64 b2] (noLimb2f _ _)
  simp only [World.size_alloc] at hk
  have HG := Lib.hid hk
  have HI := Lib.hid (WL.nil ((w.alloc (.cells #[.float .f64 a1, .float .f64 a2] 24)).alloc (.cells #[.float .f64 b1, .float .f64 b2] 24)))
  have HR := Lib.hid (RL.nil ((w.alloc (.cells #[.float .f64 a1, .float .f64 a2] 24)).alloc (.cells #[.float .f64 b1, .float .f64 b2] 24)))
  clear hk
  go_enter Tryd.func3, Tryd.ntmps3
  obtain ⟨x1_0, x1_1⟩ := GB.c2 HG 1 rfl
  obtain ⟨x2_0, x2_1⟩ := GB.c2 HG 0 rfl
  go_wp2_with fail
  (with_reducible refine (lknownV a1 a2 true ha1.out ha2.out hka _).mono ?_)
  rintro e w101 ⟨rfl, ho⟩
  replace HG := Lib.hid (HG.out.step ho)
  replace HI := Lib.hid (HI.out.step ho)
  replace HR := Lib.hid (HR.out.step ho)
  clear ho
  clear x1_0 x1_1 x2_0 x2_1
  obtain ⟨x3_0, x3_1⟩ := GB.c2 HG 0 rfl
  go_wp2_with fail
  (with_reducible refine (lknownV b1 b2 true hb1.out hb2.out hkb _).mono ?_)
  rintro e w102 ⟨rfl, ho⟩
  replace HG := Lib.hid (HG.out.step ho)
  replace HI := Lib.hid (HI.out.step ho)
  replace HR := Lib.hid (HR.out.step ho)
  clear ho
  clear x3_0 x3_1
  go_wp2_with fail
  (with_reducible refine (alive7_any _).mono ?_)
  rintro e w103 ⟨rfl, ho⟩
  replace HG := Lib.hid (HG.out.step ho)
  replace HI := Lib.hid (HI.out.step ho)
  replace HR := Lib.hid (HR.out.step ho)
  clear ho
  go_upto_region 3 with fail
  apply wp_region_typedU (by kernel_rfl) [isV _, isV _, isV _, isV _, isV _, isV _, isV _, isV _, isV _, isV _, isNN, isV _, isV _, isNN, isV _, isNN] [[], [], [1], [0, 2], [], [4], [3, 5], [], [], [8], [7, 9], [], [11], [10, 12], [6], [13]] (by kernel_rfl) (by kernel_rfl)
  case ho =>
    refine owes2_cons (fun wx hox => ?_) ?_
    · skip
      skip
      refine withs_plain rfl ?_
      simp only [withs, List.getElem?_cons_zero, List.getElem?_cons_succ, Option.bind, Option.getD]
      repeat (first | (with_reducible refine all_isV ?_) | (with_reducible refine all_isNN ?_; intro nx hnx))
      go_simp
      exact ⟨Only.refl _ _, isV.self _ _⟩
    refine owes2_cons (fun wx hox => ?_) ?_
    · skip
      skip
      refine withs_plain rfl ?_
      simp only [withs, List.getElem?_cons_zero, List.getElem?_cons_succ, Option.bind, Option.getD]
      repeat (first | (with_reducible refine all_isV ?_) | (with_reducible refine all_isNN ?_; intro nx hnx))
      go_simp
      exact ⟨Only.refl _ _, isV.self _ _⟩
    refine owes2_cons (fun wx hox => ?_) ?_
    · skip
      have hg := Lib.hid (HG.out.step hox)
      have hi := Lib.hid (HI.out.step hox)
      have hr := Lib.hid (HR.out.step hox)
      obtain ⟨x4_0, x4_1⟩ := GB.c2 hg 1 rfl
      clear hg hi hr
      refine withs_plain rfl ?_
      simp only [withs, List.getElem?_cons_zero, List.getElem?_cons_succ, Option.bind, Option.getD]
      repeat (first | (with_reducible refine all_isV ?_) | (with_reducible refine all_isNN ?_; intro nx hnx))
      go_simp
      exact ⟨Only.refl _ _, isV.self _ _⟩
    refine owes2_cons (fun wx hox => ?_) ?_
    · skip
      skip
      refine withs_plain rfl ?_
      simp only [withs, List.getElem?_cons_zero, List.getElem?_cons_succ, Option.bind, Option.getD]
      repeat (first | (with_reducible refine all_isV ?_) | (with_reducible refine all_isNN ?_; intro nx hnx))
      go_simp
      exact ⟨Only.refl _ _, isV.self _ _⟩
    refine owes2_cons (fun wx hox => ?_) ?_
    · skip
      skip
      refine withs_plain rfl ?_
      simp only [withs, List.getElem?_cons_zero, List.getElem?_cons_succ, Option.bind, Option.getD]
      repeat (first | (with_reducible refine all_isV ?_) | (with_reducible refine all_isNN ?_; intro nx hnx))
      go_simp
      exact ⟨Only.refl _ _, isV.self _ _⟩
    refine owes2_cons (fun wx hox => ?_) ?_
    · skip
      have hg := Lib.hid (HG.out.step hox)
      have hi := Lib.hid (HI.out.step hox)
      have hr := Lib.hid (HR.out.step hox)
      obtain ⟨x5_0, x5_1⟩ := GB.c2 hg 1 rfl
      clear hg hi hr
      refine withs_plain rfl ?_
      simp only [withs, List.getElem?_cons_zero, List.getElem?_cons_succ, Option.bind, Option.getD]
      repeat (first | (with_reducible refine all_isV ?_) | (with_reducible refine all_isNN ?_; intro nx hnx))
      go_simp
      exact ⟨Only.refl _ _, isV.self _ _⟩
    refine owes2_cons (fun wx hox => ?_) ?_
    · skip
      skip
      refine withs_plain rfl ?_
      simp only [withs, List.getElem?_cons_zero, List.getElem?_cons_succ, Option.bind, Option.getD]
      repeat (first | (with_reducible refine all_isV ?_) | (with_reducible refine all_isNN ?_; intro nx hnx))
      go_simp
      exact ⟨Only.refl _ _, isV.self _ _⟩
    refine owes2_cons (fun wx hox => ?_) ?_
    · skip
      skip
      refine withs_plain rfl ?_
      simp only [withs, List.getElem?_cons_zero, List.getElem?_cons_succ, Option.bind, Option.getD]
      repeat (first | (with_reducible refine all_isV ?_) | (with_reducible refine all_isNN ?_; intro nx hnx))
      go_simp
      exact ⟨Only.refl _ _, isV.self _ _⟩
    refine owes2_cons (fun wx hox => ?_) ?_
    · skip
      skip
      refine withs_plain rfl ?_
      simp only [withs, List.getElem?_cons_zero, List.getElem?_cons_succ, Option.bind, Option.getD]
      repeat (first | (with_reducible refine all_isV ?_) | (with_reducible refine all_isNN ?_; intro nx hnx))
      go_simp
      exact ⟨Only.refl _ _, isV.self _ _⟩
    refine owes2_cons (fun wx hox => ?_) ?_
    · skip
      have hg := Lib.hid (HG.out.step hox)
      have hi := Lib.hid (HI.out.step hox)
      have hr := Lib.hid (HR.out.step hox)
      obtain ⟨x6_0, x6_1⟩ := GB.c2 hg 0 rfl
      clear hg hi hr
      refine withs_plain rfl ?_
      simp only [withs, List.getElem?_cons_zero, List.getElem?_cons_succ, Option.bind, Option.getD]
      repeat (first | (with_reducible refine all_isV ?_) | (with_reducible refine all_isNN ?_; intro nx hnx))
      go_simp
      exact ⟨Only.refl _ _, isV.self _ _⟩
    refine owes2_cons (fun wx hox => ?_) ?_
    · skip
      skip
      refine withs_plain rfl ?_
      simp only [withs, List.getElem?_cons_zero, List.getElem?_cons_succ, Option.bind, Option.getD]
      repeat (first | (with_reducible refine all_isV ?_) | (with_reducible refine all_isNN ?_; intro nx hnx))
      go_simp
      (obtain ⟨n, hr, hn⟩ := nan_max Tryd.prog y b1 (hoy.out) #[22, 22] 22 wx; rw [hr]; exact ⟨(Only.refl _ _).drew, n, rfl, hn⟩)
    refine owes2_cons (fun wx hox => ?_) ?_
    · skip
      skip
      refine withs_plain rfl ?_
      simp only [withs, List.getElem?_cons_zero, List.getElem?_cons_succ, Option.bind, Option.getD]
      repeat (first | (with_reducible refine all_isV ?_) | (with_reducible refine all_isNN ?_; intro nx hnx))
      go_simp
      exact ⟨Only.refl _ _, isV.self _ _⟩
    refine owes2_cons (fun wx hox => ?_) ?_
    · skip
      have hg := Lib.hid (HG.out.step hox)
      have hi := Lib.hid (HI.out.step hox)
      have hr := Lib.hid (HR.out.step hox)
      obtain ⟨x7_0, x7_1⟩ := GB.c2 hg 0 rfl
      clear hg hi hr
      refine withs_plain rfl ?_
      simp only [withs, List.getElem?_cons_zero, List.getElem?_cons_succ, Option.bind, Option.getD]
      repeat (first | (with_reducible refine all_isV ?_) | (with_reducible refine all_isNN ?_; intro nx hnx))
      go_simp
      exact ⟨Only.refl _ _, isV.self _ _⟩
    refine owes2_cons (fun wx hox => ?_) ?_
    · skip
      skip
      refine withs_plain rfl ?_
      simp only [withs, List.getElem?_cons_zero, List.getElem?_cons_succ, Option.bind, Option.getD]
      repeat (first | (with_reducible refine all_isV ?_) | (with_reducible refine all_isNN ?_; intro nx hnx))
      go_simp
      (obtain ⟨n, hr, hn⟩ := nan_min Tryd.prog nx b2 (hnx.out.ord _) #[22, 22] 22 wx; rw [hr]; exact ⟨(Only.refl _ _).drew, n, rfl, hn⟩)
    refine owes2_cons (fun wx hox => ?_) ?_
    · skip
      skip
      refine withs_plain rfl ?_
      simp only [withs, List.getElem?_cons_zero, List.getElem?_cons_succ, Option.bind, Option.getD]
      repeat (first | (with_reducible refine all_isV ?_) | (with_reducible refine all_isNN ?_; intro nx hnx))
      go_simp
      exact ⟨Only.refl _ _, isV.self _ _⟩
    refine owes2_cons (fun wx hox => ?_) ?_
    · skip
      skip
      refine withs_plain rfl ?_
      simp only [withs, List.getElem?_cons_zero, List.getElem?_cons_succ, Option.bind, Option.getD]
      repeat (first | (with_reducible refine all_isV ?_) | (with_reducible refine all_isNN ?_; intro nx hnx))
      go_simp
      (exact ⟨Only.refl _ _, nx, rfl, hnx.out⟩)
    exact owes2_nil
  case hl =>
    repeat (refine List.forall_mem_cons.2 ⟨?_, ?_⟩; first | exact isV.lasts _ | exact isNN.lasts)
    exact fun _ h => (by cases h)
  intro wx hox
  refine withs_of (by simp only [List.length, List.range, List.range.loop]; exact rfl) ?_
  simp only [withs, List.getElem?_cons_zero, List.getElem?_cons_succ, Option.bind, Option.getD]
  repeat (first | (with_reducible refine all_isV ?_) | (with_reducible refine all_isNN ?_; intro nx hnx))
  go_simp
  as_aux_lemma =>
    replace HG := Lib.hid (HG.out.step hox)
    replace HI := Lib.hid (HI.out.step hox)
    replace HR := Lib.hid (HR.out.step hox)
    clear hox
    go_wp2_with fail
    (with_reducible refine (finiteV cx true hcx64.out hfx0 _).mono ?_)
    rintro e w' ⟨rfl, rfl⟩
    go_wp2_with fail
    (with_reducible refine (finiteV nx false hnx.out.lt hnx.out.fin _).mono ?_)
    rintro e w' ⟨rfl, rfl⟩
    go_wp2_with fail
    go_ret
    exact ⟨rfl, HG.out.only⟩

theorem bnd_wordG (s : Bool) (r : Nat) {N : Nat} (hN : 4000 ≤ N) (h : r ≤ INF) : Bnd N (fD s r) := by
  have h2 := inf_val
  unfold fD
  exact bnd_nrm (K := 53) (M := 2000) (by rw [sg_abs]; have := mant_lt r; omega) (by unfold expoW; omega) (by unfold expoW; omega) (by omega)
theorem kn_words {a b : Nat} (ha : a < 18446744073709551616) (hb : b < 18446744073709551616) (h : kn a b = true) : ∃ s r t q, a = wordB s r ∧ b = wordB t q ∧ r < INF ∧ q < INF ∧ sg s r ≤ sg t q := by
  obtain ⟨s, r, rfl, hr⟩ := word_split ha
  obtain ⟨t, q, rfl, hq⟩ := word_split hb
  have h1 := h
  unfold kn at h1
  rw [Bool.and_eq_true, Bool.and_eq_true, fin_word s hr, fin_word t hq, decide_eq_true_eq, decide_eq_true_eq] at h1
  exact ⟨s, r, t, q, rfl, rfl, h1.1.1, h1.1.2, kn_le (by omega) (by omega) h⟩
/-- A number brought between the ends of a known gap. -/
theorem clip {s1 s2 s : Bool} {r1 r2 r : Nat} (h1 : r1 < INF) (h2 : r2 < INF) (hle : sg s1 r1 ≤ sg s2 r2) (hr : r ≤ INF) : ∃ mx b j, ((∀ w : World, (Builtin.max_ #[22, 22] 22 #[.float .f64 (wordB s r), .float .f64 (wordB s1 r1)]).run Tryd.prog w = .ok (.float .f64 mx) w)) ∧ ((∀ w : World, (Builtin.min_ #[22, 22] 22 #[.float .f64 mx, .float .f64 (wordB s2 r2)]).run Tryd.prog w = .ok (.float .f64 (wordB b j)) w)) ∧ InG s1 r1 s2 r2 (fD b j).q ∧ j < INF := by
  obtain ⟨a, i, hi, m1, l1, l2, c1⟩ := max2_word Tryd.prog s s1 hr (Nat.le_of_lt h1)
  obtain ⟨b, j, hj, m2, l3, l4, c2⟩ := min2_word Tryd.prog a s2 hi (Nat.le_of_lt h2)
  have hlo : sg s1 r1 ≤ sg b j := by
    rcases c2 with ⟨rfl, rfl⟩ | ⟨rfl, rfl⟩
    · exact l2
    · exact hle
  have hjf : j < INF := by
    have k1 := (sg_fin (s := s1)).1 h1
    have k2 := (sg_fin (s := s2)).1 h2
    rw [sg_fin (s := b)]
    omega
  refine ⟨wordB a i, b, j, fun w => ?_, fun w => ?_, ⟨h1, h2, fD_order hlo, fD_order l4⟩, hjf⟩
  · simp only [Builtin.max_, List.foldlM, Sem.run_bind, m1, Result.andThen]
    rfl
  · simp only [Builtin.min_, List.foldlM, Sem.run_bind, m2, Result.andThen]
    rfl
/-- What a gap is told to have. -/
theorem has_res {f : FuncId} {us : Array Value} {t : Rat} {X Y : Nat} {z : Dy} {N : Nat} (h : GR f us (· ≤ t) (t ≤ ·) X Y) (hz : z.q = t) (bz : Bnd N z) (hN : 4000 ≤ N) (hN2 : N ≤ 2000000) (w : World) (b : Value) (hb : Hid (DV w b z)) (hT : Hid (Tab6 w)) :
    Calls Tryd.prog 14 #[.agg #[.float .f64 X, .float .f64 Y], b] w fun e w' => e = .returned (.bool true) ∧ Only [] w w' := by
  cases hk : kn X Y
  · exact ghas_no X Y (Lib.hid h.hx) (Lib.hid h.hy) hk hb
  · obtain ⟨s, r, u, q, rfl, rfl, e3, e4, e5, e6⟩ := h.enc hk
    refine ghas_yes s u e3 e4 (Lib.hid h.hx) (Lib.hid h.hy) hk (N := N) true ?_ hT hb (Lib.hid (bnd_wordG s r hN (by omega))) (Lib.hid (bnd_wordG u q hN (by omega))) (Lib.hid bz) hN2
    rw [Bool.and_eq_true, decide_eq_true_eq, decide_eq_true_eq, hz]
    exact ⟨e5, e6⟩

end Fl
end Go.Proofs.YtkibkmdgibemkaaDoor
