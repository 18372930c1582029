/-
  Dyads: what a struct reads as; shifts.
-/
import Derived.Test.YtcknigodcjjahaaDoorGWhB
import Derived.Test.YtcknigodcjjahaaDoorDyW
import Derived.Test.YtcknigodcjjahaaDoorGTyp
namespace Go.Proofs.YtcknigodcjjahaaDoor
set_option linter.unusedSimpArgs false
open Go.RowKit

/-- A value that reads as a dyad. -/
def DV (w : World) (v : Value) (x : Dy) : Prop := ∃ s A k c, v = .agg #[.bool s, .slice A k c, .int .i64 x.e] ∧ IV w (.agg #[.bool s, .slice A k c]) x.z
theorem DV.only {w w' : World} {v : Value} {x : Dy} (h : DV w v x) (ho : Only [] w w') : DV w' v x := by
  obtain ⟨s, A, k, c, h1, h2⟩ := h
  exact ⟨s, A, k, c, h1, h2.only ho⟩
/-- As a function tells it: limbs without zeros at the end, no sign at 0. -/
def isD (x : Dy) : VP := fun u w => ∃ s A k c, u = .agg #[.bool s, .slice A k c, .int .i64 x.e] ∧ s = decide (x.z < 0) ∧ k = (limbsOf x.z.natAbs).length ∧ IV w (.agg #[.bool s, .slice A k c]) x.z
theorem isD.lasts (x : Dy) : Lasts (isD x) := fun _ _ _ ⟨s, A, k, c, h1, h2, h3, h4⟩ ho => ⟨s, A, k, c, h1, h2, h3, h4.only ho⟩
theorem isD.dv {w : World} {v : Value} {x : Dy} (h : isD x v w) : DV w v x := by
  obtain ⟨s, A, k, c, h1, _, _, h4⟩ := h
  exact ⟨s, A, k, c, h1, h4⟩
/-- What a function leaves that tells a dyad. -/
def DPost (x : Dy) (w : World) (e : Ending) (w' : World) : Prop := ∃ s A k c, e = .returned (.agg #[.bool s, .slice A k c, .int .i64 x.e]) ∧ s = decide (x.z < 0) ∧ k = (limbsOf x.z.natAbs).length ∧ IV w' (.agg #[.bool s, .slice A k c]) x.z ∧ Only [] w w'
theorem grow_d {f : FuncId} {args : Array Value} {w : World} {x : Dy} (h : Calls Tryd.prog f args w (DPost x w)) :
    Calls Tryd.prog f args w fun e w'' => ∃ u, e = .returned u ∧ Only [] w w'' ∧ isD x u w'' :=
  h.mono fun _ _ ⟨s, A, k, c, he, hs, hk, hv, ho2⟩ => ⟨_, he, ho2, s, A, k, c, rfl, hs, hk, hv⟩
/-- Sign and length of what a function tells. -/
def Cn (s : Bool) (k : Nat) (z : Int) : Prop := s = decide (z < 0) ∧ k = (limbsOf z.natAbs).length
theorem all_isD {x : Dy} {w : World} {K : Value → Prop} (h : ∀ s A k c, Hid (IV w (.agg #[.bool s, .slice A k c]) x.z) → Hid (Cn s k x.z) → K (.agg #[.bool s, .slice A k c, .int .i64 x.e])) : ∀ v, isD x v w → K v := fun v ⟨s, A, k, c, h1, h2, h3, h4⟩ => by
  subst h1
  exact h s A k c h4 ⟨h2, h3⟩
theorem isD.of {x : Dy} {w : World} {s : Bool} {A : Option Addr} {k c : Nat} (h : Hid (IV w (.agg #[.bool s, .slice A k c]) x.z)) (hc : Hid (Cn s k x.z)) : isD x (.agg #[.bool s, .slice A k c, .int .i64 x.e]) w := ⟨s, A, k, c, rfl, hc.out.1, hc.out.2, h.out⟩
/-- A whole number, as a function tells it. -/
def isWC (z : Int) : VP := fun u w => ∃ s A k c, u = .agg #[.bool s, .slice A k c] ∧ Cn s k z ∧ IV w u z
theorem isWC.lasts (z : Int) : Lasts (isWC z) := fun _ _ _ ⟨s, A, k, c, h1, h2, h4⟩ ho => ⟨s, A, k, c, h1, h2, h4.only ho⟩
theorem all_isWC {z : Int} {w : World} {K : Value → Prop} (h : ∀ s A k c, Hid (IV w (.agg #[.bool s, .slice A k c]) z) → Hid (Cn s k z) → K (.agg #[.bool s, .slice A k c])) : ∀ v, isWC z v w → K v := fun v ⟨s, A, k, c, h1, h2, h4⟩ => by
  subst h1
  exact h s A k c h4 h2
theorem grow_wc {f : FuncId} {args : Array Value} {w0 w : World} {z : Int} (h : Calls Tryd.prog f args w (WPost z w0 w)) :
    Calls Tryd.prog f args w fun e w'' => ∃ u, e = .returned u ∧ Only [] w w'' ∧ isWC z u w'' :=
  h.mono fun _ _ ⟨s, A, k, c, he, hs, hr, hv, ho2⟩ => ⟨_, he, ho2, s, A, k, c, rfl, ⟨hs, hr.len⟩, hv⟩
theorem all_isNR {w0 : World} {n : Nat} {w : World} {K : Value → Prop} (h : ∀ A k c, Hid (NV w (.slice A k c) n) → K (.slice A k c)) : ∀ v, isNR w0 n v w → K v := fun v ⟨A, k, c, h1, h2, h3⟩ => by
  subst h1
  exact h A k c h3
/-- A number that is read. -/
def isNV (n : Nat) : VP := fun u w => ∃ A k c, u = .slice A k c ∧ NV w u n
theorem isNV.lasts (n : Nat) : Lasts (isNV n) := fun _ _ _ ⟨A, k, c, h1, h3⟩ ho => ⟨A, k, c, h1, h3.only ho⟩
theorem all_isNV {n : Nat} {w : World} {K : Value → Prop} (h : ∀ A k c, Hid (NV w (.slice A k c) n) → K (.slice A k c)) : ∀ v, isNV n v w → K v := fun v ⟨A, k, c, h1, h3⟩ => by
  subst h1
  exact h A k c h3
/-- A dyad that is read. -/
def isDV (x : Dy) : VP := fun u w => DV w u x
theorem isDV.lasts (x : Dy) : Lasts (isDV x) := fun _ _ _ h ho => h.only ho
theorem all_isDV {x : Dy} {w : World} {K : Value → Prop} (h : ∀ s A k c, Hid (IV w (.agg #[.bool s, .slice A k c]) x.z) → K (.agg #[.bool s, .slice A k c, .int .i64 x.e])) : ∀ v, isDV x v w → K v := fun v ⟨s, A, k, c, h1, h4⟩ => by
  subst h1
  exact h s A k c h4
/-- A block without limbs. -/
def NoLimb (cs : List Value) : Prop := ∀ (o : Nat) (n : Int), cs[o]? ≠ some (.int .u64 n)
theorem IV.far_blk {w : World} {s : Bool} {A : Option Addr} {k c g : Nat} {z : Int} {t : TypeId} {cs : List Value} (h : IV w (.agg #[.bool s, .slice A k c]) z) (hb : Blk w g t cs) (hn : NoLimb cs) : Far g A k := fun hk p hp hc => by
  obtain ⟨A1, c1, xs, e, h2, h3, h4, h5⟩ := h.mag
  injection e with e1 e2 e3
  subst e1 e2
  obtain ⟨b, o, e2, hcell⟩ := h2.read 0 hk
  rw [hp] at e2
  injection e2 with e2
  subst e2
  simp only at hc
  subst hc
  rw [hb.cell] at hcell
  exact hn _ _ hcell
theorem noLimb3 (s : Bool) (A : Option Addr) (k c : Nat) (e : Int) : NoLimb [.bool s, .slice A k c, .int .i64 e] := fun o n h => by
  rcases o with _ | _ | _ | o <;> simp at h
theorem noLimb2 (s : Bool) (A : Option Addr) (k c : Nat) : NoLimb [.bool s, .slice A k c] := fun o n h => by
  rcases o with _ | _ | o <;> simp at h

/-! ### Known blocks -/
structure EB where
  g : Nat
  t : TypeId
  cs : List Value
structure KB (w0 w : World) (L : List EB) : Prop where
  only : Only [] w0 w
  all : ∀ (i : Nat) (x : EB), L[i]? = some x → Blk w x.g x.t x.cs
theorem KB.start (w : World) : KB w w [] := ⟨Only.refl _ _, fun i x h => by simp at h⟩
theorem KB.step {w0 w w' : World} {L : List EB} (h : KB w0 w L) (ho : Only [] w w') : KB w0 w' L := ⟨h.only.nil_trans ho, fun i x hx => (h.all i x hx).only ho (by simp)⟩
theorem KB.new {w0 w : World} {L : List EB} (h : KB w0 w L) (t : TypeId) (cs : List Value) : KB w0 (w.alloc (.cells cs.toArray t)) (⟨w.heap.size, t, cs⟩ :: L) :=
  ⟨h.only.alloc _, fun i x hx => by
    rcases i with _ | i
    · obtain rfl := Option.some.inj hx
      exact Blk.new w t cs
    · exact (h.all i x hx).alloc _⟩
theorem KB.blk {w0 w : World} {L : List EB} (h : KB w0 w L) (i : Nat) {g : Nat} {t : TypeId} {cs : List Value} (hi : L[i]? = some ⟨g, t, cs⟩) : Blk w g t cs := h.all i _ hi
/-- A box's cells. -/
theorem KB.c2 {w0 w : World} {L : List EB} (h : KB w0 w L) (i : Nat) {g : Nat} {t : TypeId} {u v : Value} (hi : L[i]? = some ⟨g, t, [u, v]⟩) :
    w.cell? ⟨g, 0, none⟩ = some u ∧ w.cell? ⟨g, 1, none⟩ = some v ∧ w.frozen? ⟨g, 0, none⟩ = false ∧ w.frozen? ⟨g, 1, none⟩ = false :=
  ⟨(h.blk i hi).cell 0, (h.blk i hi).cell 1, (h.blk i hi).frozen 0, (h.blk i hi).frozen 1⟩
theorem KB.c3 {w0 w : World} {L : List EB} (h : KB w0 w L) (i : Nat) {g : Nat} {t : TypeId} {u v x : Value} (hi : L[i]? = some ⟨g, t, [u, v, x]⟩) :
    w.cell? ⟨g, 0, none⟩ = some u ∧ w.cell? ⟨g, 1, none⟩ = some v ∧ w.cell? ⟨g, 2, none⟩ = some x ∧ w.frozen? ⟨g, 0, none⟩ = false ∧ w.frozen? ⟨g, 1, none⟩ = false ∧ w.frozen? ⟨g, 2, none⟩ = false :=
  ⟨(h.blk i hi).cell 0, (h.blk i hi).cell 1, (h.blk i hi).cell 2, (h.blk i hi).frozen 0, (h.blk i hi).frozen 1, (h.blk i hi).frozen 2⟩
theorem only_set3 (w : World) (b : Nat) (x y u : Value) : Only [b] w (((w.setCell ⟨b, 0, none⟩ x).setCell ⟨b, 1, none⟩ y).setCell ⟨b, 2, none⟩ u) := (((Only.refl [b] w).setCell (.inl (by simp)) x).setCell (.inl (by simp)) y).setCell (.inl (by simp)) u
/-- A struct's three cells, written behind a result. -/
theorem dfin {x : Dy} {w w1 w2 : World} {b : Nat} {t : TypeId} {cs : List Value} {s : Bool} {A : Option Addr} {k c : Nat} (hc : Hid (Cn s k x.z)) (hv : Hid (IV w1 (.agg #[.bool s, .slice A k c]) x.z)) (hb : w.heap.size ≤ b) (hB : Blk w1 b t cs) (hn : NoLimb cs) (ho : Only [] w w1) (ho2 : Only [b] w1 w2) :
    DPost x w (.returned (.agg #[.bool s, .slice A k c, .int .i64 x.e])) w2 :=
  ⟨s, A, k, c, rfl, hc.out.1, hc.out.2, hv.out.farS ho2 (fun g hg => by rw [List.mem_singleton] at hg; subst hg; exact hv.out.far_blk hB hn), ho.trans ho2 (fun k hk => .inr (by simp at hk; omega))⟩

set_option maxHeartbeats 800000 in
theorem right_d {w : World} {a : Value} {n : Nat} (k : Nat) (hk : (k : Int) ≤ 16777216) (ha : Hid (NV w a n)) : Calls Tryd.prog 96 #[a, .int .i64 (k : Int)] w (NPostV (n / 2 ^ k) w w) := by
  have hf : Hid (Few (shlN n (-(k : Int)))) := by show Few _; rw [shlN_down n k hk]; exact ha.out.few.le (Nat.div_le_self _ _)
  have HS := Lib.hid (shlN_down n k hk)
  go_enter Tryd.func96, Tryd.ntmps96
  go_wp2_with fail
  refine wp_loop_rounds 1 ?_
  rw [rounds_succ]
  go_wp2_with fail
  (with_reducible refine (shr_v _ ha hf).mono ?_)
  rintro e w1 ⟨A1, k1, c1, rfl, hr, hv, ho⟩
  rw [HS.out] at hr hv
  have HR := Lib.hid hr
  have HV := Lib.hid hv
  have HO := Lib.hid ho
  clear hr hv ho
  go_wp2_with fail
  go_ret
  exact ⟨A1, k1, c1, rfl, HR.out, HV.out, HO.out⟩
set_option maxHeartbeats 800000 in
theorem left_d {w : World} {a : Value} {n : Nat} (k : Nat) (hk : (k : Int) ≤ 16777216) (ha : Hid (NV w a n)) (hf : Hid (Few (n * 2 ^ k))) : Calls Tryd.prog 114 #[a, .int .i64 (k : Int)] w (NPostV (n * 2 ^ k) w w) := by
  have hf2 : Hid (Few (shlN n (k : Int))) := by show Few _; rw [shlN_up n k hk]; exact hf.out
  have HS := Lib.hid (shlN_up n k hk)
  go_enter Tryd.func114, Tryd.ntmps114
  go_wp2_with fail
  refine wp_loop_rounds 1 ?_
  rw [rounds_succ]
  go_wp2_with fail
  (with_reducible refine (shl_v _ ha hf2).mono ?_)
  rintro e w1 ⟨A1, k1, c1, rfl, hr, hv, ho⟩
  rw [HS.out] at hr hv
  have HR := Lib.hid hr
  have HV := Lib.hid hv
  have HO := Lib.hid ho
  clear hr hv ho
  go_wp2_with fail
  go_ret
  exact ⟨A1, k1, c1, rfl, HR.out, HV.out, HO.out⟩
end Go.Proofs.YtcknigodcjjahaaDoor
