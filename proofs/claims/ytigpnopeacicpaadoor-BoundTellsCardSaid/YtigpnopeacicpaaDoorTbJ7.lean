/-
  Joined texts.
-/
import Derived.Test.YtigpnopeacicpaaDoorTbJ6
import Derived.Test.YtigpnopeacicpaaDoorTbJ0
import Derived.ProofKit
import Derived.OpenShut
import Derived.ShutString
import Derived.ChangeOld
import Derived.Below
import Derived.Deep.Slices
import Derived.Deep.Fields
import Derived.ChangeSame
import Derived.Test.YtigpnopeacicpaaDoorTbJ5
import Derived.Test.YtigpnopeacicpaaDoorProg
import Derived.WalkLawsBesides
/-
  Add and Mul; a dag that the law itself has made ('Own'), two of them side by side ('Two'); alive.
-/
namespace Go.Proofs.YtigpnopeacicpaaDoor
open Go.RowKit

/-- What a call leaves that hands back an id. -/
def QDagP (d : Nat) (v : Value) (r : Option Nat) (id : Int) (ns' : List Nd) (w : World) (e : Ending) (w' : World) : Prop :=
  ∃ v', e = .returned (.int .i64 id) ∧ DagIs w' d v' r ns' ∧ Step d v r w v' w'

theorem PPost.q {d : Nat} {v : Value} {r : Option Nat} {ns : List Nd} {n : Nd} {id : Int} {ns' : List Nd} (h1 : putId r ns n = id) (h2 : putNs r ns n = ns') {w : World} : ∀ e w', PPost d v r ns n w e w' → QDagP d v r id ns' w e w' :=
  fun _ _ ⟨v', he, hd, hs⟩ => ⟨v', by rw [he, h1], by rw [← h2]; exact hd, hs⟩

theorem FPost.q {d : Nat} {v : Value} {r : Option Nat} {p : List Nd × Int} {id : Int} {ns' : List Nd} (h : p = (ns', id)) {w : World} : ∀ e w', FPost d v r p w e w' → QDagP d v r id ns' w e w' :=
  fun _ _ ⟨v', he, hd, hs⟩ => ⟨v', by rw [he, h], by rw [h] at hd; exact hd, hs⟩

/-- A dag of the law's own: all its blocks are new since w0. -/
structure Own (w0 w : World) (d : Nat) (v : Value) (r : Option Nat) (ns : List Nd) : Prop where
  is : DagIs w d v r ns
  fresh : ∀ k ∈ foot d v r, w0.heap.size ≤ k
  only : Only [] w0 w

theorem Step.foot {d : Nat} {v v' : Value} {r : Option Nat} {w w' : World} (h : Step d v r w v' w') : ∀ k ∈ foot d v' r, k ∈ foot d v r ∨ w.heap.size ≤ k := by
  intro k hk
  simp only [Proofs.YtigpnopeacicpaaDoor.foot, List.mem_cons, List.mem_append, Option.mem_toList] at hk ⊢
  rcases hk with hk | hk | hk
  · exact .inl (.inl hk)
  · rcases h.1 with e | ⟨g, hg, e⟩
    · exact .inl (.inr (.inl (by rw [← e]; exact hk)))
    · right
      have : g = k := by simpa using e.symm.trans hk
      omega
  · exact .inl (.inr (.inr hk))

theorem Own.step {w0 w w' : World} {d : Nat} {v v' : Value} {r : Option Nat} {ns ns' : List Nd} (h : Own w0 w d v r ns) (hs : Step d v r w v' w') (hd : DagIs w' d v' r ns') : Own w0 w' d v' r ns' :=
  ⟨hd, fun k hk => by
    rcases hs.foot k hk with h1 | h1
    · exact h.fresh k h1
    · exact Nat.le_trans h.only.size h1, h.only.trans hs.2 (fun k hk => .inr (h.fresh k hk))⟩

theorem Own.other {w0 w w' : World} {d : Nat} {v : Value} {r : Option Nat} {ns : List Nd} {S : List Nat} (h : Own w0 w d v r ns) (ho : Only S w w') (hS : ∀ k ∈ S, w0.heap.size ≤ k) (hn : ∀ k ∈ foot d v r, k ∉ S) : Own w0 w' d v r ns :=
  ⟨h.is.only ho hn, h.fresh, h.only.trans ho (fun k hk => .inr (hS k hk))⟩

theorem own_new {w w' : World} {r : Option Nat} (hd : DagIs w' w.heap.size (.slice none 0 0) r []) (hr : ∀ m, r = some m → w.heap.size ≤ m) (ho : Only [] w w') : Own w w' w.heap.size (.slice none 0 0) r [] :=
  ⟨hd, fun k hk => by
    simp only [Proofs.YtigpnopeacicpaaDoor.foot, List.mem_cons, List.mem_append, Option.mem_toList] at hk
    rcases hk with hk | hk | hk
    · omega
    · simp [Value.ownBlock] at hk
    · exact hr k hk, ho⟩

def one64 : Nat := 4607182418800017408

def ndOne : Nd := ⟨0, one64, 0, 0⟩

theorem takes_one (n : Nat) : takesB n 0 one64 0 0 = true := by
  have h : finB one64 = true := by decide
  simp [takesB, validB, h]

end Go.Proofs.YtigpnopeacicpaaDoor

/-
  Nodes in memory: four cells each, slices of them; what Put makes of nodes.
-/
namespace Go.Proofs.YtigpnopeacicpaaDoor
open Go.RowKit

/-- Four cells that hold a node. -/
def Cells4 (w : World) (b o : Nat) (n : Nd) : Prop :=
  w.cell? ⟨b, o, none⟩ = some (.int .i64 n.k) ∧ w.cell? ⟨b, o + 1, none⟩ = some (.float .f64 n.f) ∧ w.cell? ⟨b, o + 2, none⟩ = some (.int .i64 n.a) ∧ w.cell? ⟨b, o + 3, none⟩ = some (.int .i64 n.b)
theorem Cells4.only {w w' : World} {b o : Nat} {n : Nd} {S : List Nat} (h : Cells4 w b o n) (ho : Only S w w') (hn : b ∉ S) : Cells4 w' b o n :=
  ⟨ho.cell h.1 hn, ho.cell h.2.1 hn, ho.cell h.2.2.1 hn, ho.cell h.2.2.2 hn⟩

def nd0 : Nd := ⟨0, 0, 0, 0⟩

theorem flat_get : ∀ (ns : List Nd) (k j : Nat), k < ns.length → j < 4 → (flat ns)[k * 4 + j]? = ((ns[k]?.getD nd0).cells)[j]?
  | [], k, j, h, _ => by simp at h
  | n :: r, 0, j, _, hj => by
    have e : flat (n :: r) = n.cells ++ flat r := rfl
    rw [e, Nat.zero_mul, Nat.zero_add, List.getElem?_append_left (by simpa [Nd.cells] using hj)]
    rfl
  | n :: r, k + 1, j, h, hj => by
    have e : flat (n :: r) = n.cells ++ flat r := rfl
    have hl : n.cells.length = 4 := rfl
    rw [e, List.getElem?_append_right (by omega), hl, show (k + 1) * 4 + j - 4 = k * 4 + j by omega, flat_get r k j (by simpa using h) hj]
    simp

theorem NodesAt.shape {w : World} {u : Value} {ns : List Nd} (h : NodesAt w u ns) : ∃ A c, u = .slice A ns.length c ∧ ns.length ≤ c ∧ c ≤ maxLen ∧
    (∀ k, k < ns.length → ∃ g, A = some ⟨g, 0, none⟩ ∧ Cells4 w g (k * 4) (ns[k]?.getD nd0)) := by
  rcases h.2 with ⟨rfl, h0⟩ | ⟨g, cap, cur, rfl, _, hg, hn, hm, _⟩
  · refine ⟨none, 0, by rw [h0], by omega, by simp [maxLen], fun k hk => by omega⟩
  · refine ⟨_, cap, rfl, hn, hm, fun k hk => ⟨g, rfl, ?_⟩⟩
    have hc := World.ownsRow.cells h (g := g) rfl
    have at_ : ∀ j v, j < 4 → ((ns[k]?.getD nd0).cells)[j]? = some v → w.cell? ⟨g, k * 4 + j, none⟩ = some v := by
      intro j v hj hv
      have h1 := hc (k * 4 + j) v (by rw [flat_get ns k j hk hj, hv])
      have h2 : (⟨g, 0, none⟩ : Addr).add (k * 4 + j) = ⟨g, k * 4 + j, none⟩ := by unfold Addr.add; split <;> simp_all
      rwa [h2] at h1
    exact ⟨at_ 0 _ (by omega) rfl, at_ 1 _ (by omega) rfl, at_ 2 _ (by omega) rfl, at_ 3 _ (by omega) rfl⟩

theorem NodesAt.only {w w' : World} {u : Value} {ns : List Nd} {S : List Nat} (h : NodesAt w u ns) (ho : Only S w w') (hn : ∀ g, u.ownBlock = some g → g ∉ S) : NodesAt w' u ns := ownsRow_only h ho hn

def Fine (len : Nat) (k : Int) (f : Nat) (a b : Int) : Prop :=
  (validB k f a b = true ∧ k = 0 ∧ finB f = true) ∨ (validB k f a b = true ∧ k = 5 ∧ ¬ (len : Int) ≤ a) ∨ (validB k f a b = true ∧ k ≠ 0 ∧ k ≠ 5 ∧ ¬ (len : Int) ≤ a ∧ ¬ (len : Int) ≤ b)
theorem fine_of (len : Nat) (k : Int) (f : Nat) (a b : Int) (h : takesB len k f a b = true) : Fine len k f a b := by
  unfold takesB at h
  unfold Fine
  simp only [Bool.and_eq_true] at h
  obtain ⟨hv, h⟩ := h
  simp only [hv, true_and]
  by_cases h0 : k = 0
  · rw [if_pos h0] at h
    exact .inl ⟨h0, h⟩
  · rw [if_neg h0] at h
    right
    by_cases h5 : k = 5
    · rw [if_pos h5] at h
      left
      simp [hasB] at h
      exact ⟨h5, by omega⟩
    · rw [if_neg h5] at h
      right
      simp [hasB] at h
      exact ⟨h0, h5, by omega, by omega⟩

end Go.Proofs.YtigpnopeacicpaaDoor

/-
  An argument that is a slice of nodes, opened.
-/
namespace Go.Proofs.YtigpnopeacicpaaDoor
open Go.ChangeShapes Go.WideShapes Go.ChangeAt Go.RowKit Go.Deep

section
variable {H : Type} {enc : TypeId × Value → H} {P : Program} {w : World} {base : Nat} {spare : Nat → Bool} {held : Bool}
theorem trod_float {k : FloatKind} {t : TypeId} {fuel : Nat} {cs : List Value} {x : DataW H × List MemPlace} (ht : P.underlying t = some (.float k)) (h : DataW.trod enc P w base spare held fuel t cs = some x) :
    ∃ b, cs = [.float k b] ∧ (Lit.float k b).wf = true := by
  cases fuel with
  | zero => simp [DataW.trod] at h
  | succ n =>
    unfold DataW.trod at h
    rw [ht] at h
    split at h <;> simp_all
end

end Go.Proofs.YtigpnopeacicpaaDoor

/-
  An argument that is a slice of floats, opened (beside limbs): it reads as L.
-/
namespace Go.Proofs.YtigpnopeacicpaaDoor
open Go.ChangeShapes Go.WideShapes Go.ChangeAt Go.RowKit Go.Deep

def FloatsIn (w : World) (A : Option Addr) (L : List Nat) : Prop := ∀ j, j < L.length → ∃ b o, A = some ⟨b, o, none⟩ ∧ ∀ i, i < L.length → w.cell? ⟨b, o + i, none⟩ = some (.float .f64 (L[i]?.getD 0)) ∧ L[i]?.getD 0 < 2 ^ 64

theorem floats_in {H : Type} {enc : TypeId × Value → H} {w : World} {base : Nat} {spare : Nat → Bool} {held : Bool} {fuel : Nat} {cs : List Value} {x : DataW H × List MemPlace} {t : TypeId} (ht : Tryd.prog.underlying t = some (.slice 29))
    (h : DataW.trod enc Tryd.prog w base spare held fuel t cs = some x) :
    ∃ A c L, cs = [.slice A (List.length L) c] ∧ List.length L ≤ c ∧ c ≤ maxLen ∧ FloatsIn w A L := by
  rcases open_slice ht h with ⟨rfl, _⟩ | ⟨a, len, cap, m, n, D, Pl, rfl, _, hl, hcm, hm, _, hi⟩
  · exact ⟨none, 0, [], rfl, Nat.le_refl _, Nat.zero_le _, fun k hk => by simp at hk⟩
  · have hC : Tryd.prog.cellsOf 29 = 1 := by kernel_rfl
    have hlm : len ≤ m := by rw [hm]; split <;> omega
    have key : ∀ i, i < len → ∃ z : Nat, w.cell? (a.add i) = some (.float .f64 z) ∧ z < 2 ^ 64 := by
      intro i hil
      obtain ⟨cs', hc, ht⟩ := hi i (by omega)
      rw [hC] at hc
      obtain ⟨_, _, hat⟩ := World.cells?_some hc
      obtain ⟨z, rfl, hz⟩ := trod_float Tryd.underlying29 ht
      have h0 := hat 0 (by omega)
      refine ⟨z, ?_, by simpa [Lit.wf] using hz⟩
      simpa [Addr.add] using h0
    have choose : ∀ len : Nat, (∀ i, i < len → ∃ z : Nat, w.cell? (a.add i) = some (.float .f64 z) ∧ z < 2 ^ 64) → ∃ L : List Nat, L.length = len ∧ ∀ i, i < len → w.cell? (a.add i) = some (.float .f64 (L[i]?.getD 0)) ∧ L[i]?.getD 0 < 2 ^ 64 := by
      intro len
      induction len with
      | zero => exact fun _ => ⟨[], rfl, fun i hi => by omega⟩
      | succ len ih =>
        intro key
        obtain ⟨L, hL, hall⟩ := ih (fun i hi => key i (by omega))
        obtain ⟨z, hz⟩ := key len (by omega)
        refine ⟨L ++ [z], by simp [hL], fun i hi => ?_⟩
        by_cases e : i = len
        · subst e
          rw [List.getElem?_append_right (by omega), hL]
          simpa using hz
        · rw [List.getElem?_append_left (by omega)]
          exact hall i (by omega)
    obtain ⟨L, hL, hall⟩ := choose len key
    refine ⟨some a, cap, L, by rw [hL], by omega, hcm, fun k hk => ?_⟩
    have h0 := hall 0 (by omega)
    obtain ⟨b, o, sp⟩ := a
    obtain rfl : sp = none := by simpa [Addr.add] using World.cell?_spot h0.1
    refine ⟨b, o, rfl, fun i hi => ?_⟩
    have := hall i (by omega)
    have ha : (⟨b, o, none⟩ : Addr).add i = ⟨b, o + i, none⟩ := by
      unfold Addr.add
      by_cases h1 : i = 0 <;> simp [h1]
    rwa [ha] at this
end Go.Proofs.YtigpnopeacicpaaDoor

/-
  Dyads, plain: numbers z times 2^e, their values as rational numbers, their sums, products, order.
-/
namespace Go.Proofs.YtigpnopeacicpaaDoor
set_option linter.unusedSimpArgs false

/-- z times 2^e. -/
structure Dy where
  z : Int
  e : Int
abbrev p2 (e : Int) : Rat := (2 : Rat) ^ e
/-- The value. -/
def Dy.q (x : Dy) : Rat := (x.z : Rat) * p2 x.e
/-- The normal form: an odd amount, or 0. -/
def nrm (z e : Int) : Dy := if z = 0 then ⟨0, 0⟩ else ⟨sg (decide (z < 0)) (z.natAbs / 2 ^ lowN z.natAbs), e + (lowN z.natAbs : Int)⟩
theorem nrm_zero (e : Int) : nrm 0 e = ⟨0, 0⟩ := rfl
theorem nrm_nz {z : Int} (e : Int) (h : z ≠ 0) : nrm z e = ⟨sg (decide (z < 0)) (z.natAbs / 2 ^ lowN z.natAbs), e + (lowN z.natAbs : Int)⟩ := by unfold nrm; rw [if_neg h]
theorem nrm_split {z : Int} (h : z ≠ 0) : ∃ m : Nat, z.natAbs = 2 ^ lowN z.natAbs * (2 * m + 1) ∧ z.natAbs / 2 ^ lowN z.natAbs = 2 * m + 1 ∧ sg (decide (z < 0)) (z.natAbs / 2 ^ lowN z.natAbs) * 2 ^ lowN z.natAbs = z := by
  obtain ⟨m, hm⟩ := lowN_spec (n := z.natAbs) (by omega)
  have hp : 0 < 2 ^ lowN z.natAbs := Nat.pow_pos (by omega)
  have hd : z.natAbs / 2 ^ lowN z.natAbs = 2 * m + 1 := by
    rw [Nat.div_eq_iff_eq_mul_left hp ⟨_, hm⟩, Nat.mul_comm]
    exact hm
  refine ⟨m, hm, hd, ?_⟩
  rw [hd]
  have e : ((2 ^ lowN z.natAbs * (2 * m + 1) : Nat) : Int) = (2 : Int) ^ lowN z.natAbs * (2 * (m : Int) + 1) := by push_cast; rfl
  generalize (2 : Int) ^ lowN z.natAbs = P at *
  have e2 : (z.natAbs : Int) = P * (2 * (m : Int) + 1) := by rw [← e, ← hm]
  rw [Int.mul_comm]
  by_cases h0 : z < 0
  · rw [decide_eq_true h0, sg_true]
    push_cast
    rw [Int.mul_neg, ← e2]
    omega
  · rw [decide_eq_false h0, sg_false]
    push_cast
    rw [← e2]
    omega
/-- The normal form. -/
def Can (x : Dy) : Prop := (x.z = 0 ∧ x.e = 0) ∨ x.z % 2 = 1
/-! ### Sums, products, order -/
def dAdd (x y : Dy) : Dy := if x.z = 0 then nrm y.z y.e else if y.z = 0 then nrm x.z x.e else nrm (x.z * 2 ^ (x.e - min x.e y.e).toNat + y.z * 2 ^ (y.e - min x.e y.e).toNat) (min x.e y.e)
def dNot (x : Dy) : Dy := nrm (-x.z) x.e
def dSub (x y : Dy) : Dy := dAdd x (dNot y)
end Go.Proofs.YtigpnopeacicpaaDoor
/-
  Dyads, plain: how great they are, bounds.
-/
namespace Go.Proofs.YtigpnopeacicpaaDoor
set_option linter.unusedSimpArgs false

theorem bitsN_spec {n : Nat} (h : n ≠ 0) : ∃ b, bitsN n = b + 1 ∧ 2 ^ b ≤ n ∧ n < 2 ^ (b + 1) := by
  refine ⟨Nat.log2 n, by unfold bitsN; rw [if_neg h], ?_, ?_⟩
  · exact Nat.log2_self_le h
  · exact Nat.lt_log2_self
theorem bitsN_lt (n : Nat) : n < 2 ^ bitsN n := by
  by_cases h : n = 0
  · subst h; decide
  · obtain ⟨b, h1, h2, h3⟩ := bitsN_spec h
    rw [h1]; exact h3
theorem bitsN_le {n k : Nat} (h : n < 2 ^ k) : bitsN n ≤ k := by
  by_cases h0 : n = 0
  · subst h0; exact Nat.zero_le _
  · obtain ⟨b, h1, h2, h3⟩ := bitsN_spec h0
    rw [h1]
    apply Nat.lt_of_not_le
    intro hc
    have := Nat.pow_le_pow_right (n := 2) (by omega) hc
    omega
theorem bitsN_ge {n k : Nat} (h : 2 ^ k ≤ n) : k + 1 ≤ bitsN n := by
  have h1 := bitsN_lt n
  apply Nat.lt_of_not_le
  intro hc
  have := Nat.pow_le_pow_right (n := 2) (by omega) hc
  omega
theorem lowN_lt {n : Nat} (h : n ≠ 0) : lowN n < bitsN n := by
  obtain ⟨m, hm⟩ := lowN_spec h
  have h1 : 2 ^ lowN n ≤ n := by
    have h3 := Nat.mul_le_mul_left (2 ^ lowN n) (show 1 ≤ 2 * m + 1 by omega)
    omega
  exact bitsN_ge h1
theorem lowN_le_bits (n : Nat) : lowN n ≤ bitsN n := by
  by_cases h : n = 0
  · subst h; rw [lowN_zero]; exact Nat.zero_le _
  · exact Nat.le_of_lt (lowN_lt h)
/-- Aligned. -/
def alX (x y : Dy) : Int := x.z * 2 ^ (x.e - min x.e y.e).toNat
def alY (x y : Dy) : Int := y.z * 2 ^ (y.e - min x.e y.e).toNat
theorem dAdd_al {x y : Dy} (hx : x.z ≠ 0) (hy : y.z ≠ 0) : dAdd x y = nrm (alX x y + alY x y) (min x.e y.e) := by
  unfold dAdd alX alY
  rw [if_neg hx, if_neg hy]
theorem dAdd_x0 {x y : Dy} (hx : x.z = 0) : dAdd x y = nrm y.z y.e := by unfold dAdd; rw [if_pos hx]
theorem dAdd_y0 {x y : Dy} (hx : x.z ≠ 0) (hy : y.z = 0) : dAdd x y = nrm x.z x.e := by unfold dAdd; rw [if_neg hx, if_pos hy]

/-! ### Bounds -/
structure Bnd (N : Nat) (x : Dy) : Prop where
  z : x.z.natAbs < 2 ^ N
  lo : -(N : Int) ≤ x.e
  hi : x.e ≤ (N : Int)
theorem two_mono {a b : Nat} (h : a ≤ b) : 2 ^ a ≤ 2 ^ b := Nat.pow_le_pow_right (by omega) h
theorem Bnd.mono {N M : Nat} {x : Dy} (h : Bnd N x) (hn : N ≤ M) : Bnd M x := ⟨Nat.lt_of_lt_of_le h.z (two_mono hn), by have := h.lo; omega, by have := h.hi; omega⟩
theorem bnd_nrm {K M N : Nat} {z e : Int} (hz : z.natAbs < 2 ^ K) (h1 : -(M : Int) ≤ e) (h2 : e ≤ (M : Int)) (hN : K + M ≤ N) : Bnd N (nrm z e) := by
  by_cases h : z = 0
  · subst h
    exact ⟨by rw [nrm_zero]; exact Nat.pow_pos (by omega), by rw [nrm_zero]; show -(N : Int) ≤ 0; omega, by rw [nrm_zero]; show (0 : Int) ≤ N; omega⟩
  · rw [nrm_nz e h]
    have h3 := lowN_lt (n := z.natAbs) (by omega)
    have h4 := bitsN_le hz
    refine ⟨?_, ?_, ?_⟩
    · show (sg _ _).natAbs < _
      rw [sg_abs]
      exact Nat.lt_of_le_of_lt (Nat.div_le_self _ _) (Nat.lt_of_lt_of_le hz (two_mono (by omega)))
    · show _ ≤ e + _
      omega
    · show e + _ ≤ _
      omega
theorem abs_shl_lt {z : Int} {N k : Nat} (h : z.natAbs < 2 ^ N) : (z * 2 ^ k).natAbs < 2 ^ (N + k) := by
  rw [Int.natAbs_mul, Int.natAbs_pow, Nat.pow_add]
  exact Nat.mul_lt_mul_of_pos_right h (Nat.pow_pos (by decide))
theorem abs_add_lt {a b : Int} {N : Nat} (ha : a.natAbs < 2 ^ N) (hb : b.natAbs < 2 ^ N) : (a + b).natAbs < 2 ^ (N + 1) := by rw [Nat.pow_succ]; omega
theorem Bnd.not {N M : Nat} {x : Dy} (h : Bnd N x) (hM : 2 * N ≤ M) : Bnd M (dNot x) := bnd_nrm (by rw [Int.natAbs_neg]; exact h.z) h.lo h.hi (by omega)
theorem Bnd.norm {N M : Nat} {x : Dy} (h : Bnd N x) (hM : 2 * N ≤ M) : Bnd M (nrm x.z x.e) := bnd_nrm h.z h.lo h.hi (by omega)
theorem Bnd.alX {N : Nat} {x y : Dy} (h : Bnd N x) (h' : Bnd N y) : (alX x y).natAbs < 2 ^ (3 * N) := by
  have h1 := abs_shl_lt (k := (x.e - min x.e y.e).toNat) h.z
  have := h.lo; have := h.hi; have := h'.lo; have := h'.hi
  exact Nat.lt_of_lt_of_le h1 (two_mono (by omega))
theorem Bnd.alY {N : Nat} {x y : Dy} (h : Bnd N x) (h' : Bnd N y) : (alY x y).natAbs < 2 ^ (3 * N) := by
  have h1 := abs_shl_lt (k := (y.e - min x.e y.e).toNat) h'.z
  have := h.lo; have := h.hi; have := h'.lo; have := h'.hi
  exact Nat.lt_of_lt_of_le h1 (two_mono (by omega))
theorem Bnd.add {N M : Nat} {x y : Dy} (h : Bnd N x) (h' : Bnd N y) (hM : 4 * N + 1 ≤ M) : Bnd M (dAdd x y) := by
  by_cases hx : x.z = 0
  · rw [dAdd_x0 hx]; exact h'.norm (by omega)
  · by_cases hy : y.z = 0
    · rw [dAdd_y0 hx hy]; exact h.norm (by omega)
    · rw [dAdd_al hx hy]
      have := h.lo; have := h.hi; have := h'.lo; have := h'.hi
      exact bnd_nrm (K := 3 * N + 1) (M := N) (abs_add_lt (h.alX h') (h.alY h')) (by omega) (by omega) (by omega)
theorem Bnd.sub {N M : Nat} {x y : Dy} (h : Bnd N x) (h' : Bnd N y) (hM : 8 * N + 1 ≤ M) : Bnd M (dSub x y) := (h.mono (show N ≤ 2 * N by omega)).add (h'.not (Nat.le_refl _)) (by omega)
theorem bb_two_pow (n : Nat) : BB ^ n = 2 ^ (64 * n) := by rw [BB_pow, ← Nat.pow_mul]
theorem few_two_pow {n N : Nat} (h : n < 2 ^ N) (hN : N ≤ 60000000) : Few n := by
  unfold Few
  rw [bb_two_pow]
  exact Nat.lt_of_lt_of_le h (two_mono (by rw [MX_val]; omega))
end Go.Proofs.YtigpnopeacicpaaDoor
/-
  Dyads, plain: rounding to so many bits.
-/
namespace Go.Proofs.YtigpnopeacicpaaDoor
set_option linter.unusedSimpArgs false

/-- A number of P bits at most. -/
def Short (P : Nat) (s : Dy) : Prop := s.z.natAbs < 2 ^ P
/-- r is what a number (told by what is not above it, and not below it) is rounded to. -/
structure Rd (P : Nat) (up : Bool) (le ge : Rat → Prop) (r : Dy) : Prop where
  can : Can r
  short : Short P r
  dn : up = false → le r.q ∧ ∀ s, Short P s → le s.q → s.q ≤ r.q
  upw : up = true → ge r.q ∧ ∀ s, Short P s → ge s.q → r.q ≤ s.q
theorem Rd.congr {P : Nat} {up : Bool} {le ge le' ge' : Rat → Prop} {r : Dy} (h : Rd P up le ge r) (h1 : ∀ s, Short P s → (le s.q ↔ le' s.q)) (h2 : ∀ s, Short P s → (ge s.q ↔ ge' s.q)) : Rd P up le' ge' r :=
  ⟨h.can, h.short, fun hu => ⟨(h1 _ h.short).1 (h.dn hu).1, fun s hs hl => (h.dn hu).2 s hs ((h1 s hs).2 hl)⟩, fun hu => ⟨(h2 _ h.short).1 (h.upw hu).1, fun s hs hl => (h.upw hu).2 s hs ((h2 s hs).2 hl)⟩⟩
theorem rat_le_antisymm {a b : Rat} (h : a ≤ b) (h' : b ≤ a) : a = b := by grind
end Go.Proofs.YtigpnopeacicpaaDoor
/-
  Dyads, plain: quotients and roots, rounded.
-/
namespace Go.Proofs.YtigpnopeacicpaaDoor
set_option linter.unusedSimpArgs false

theorem sq_le_of {a b : Rat} (h0 : 0 ≤ b) (h : a * a ≤ b * b) : a ≤ b := by
  apply Decidable.byContradiction
  intro hc
  have h3 : b < a := Rat.not_le.1 hc
  have h1 := Rat.mul_le_mul_of_nonneg_left (Rat.le_of_lt h3) h0
  have h2 := Rat.mul_lt_mul_of_pos_right h3 (show 0 < a by grind)
  grind
/-- What is not above a root, and not below it. -/
def leRt (X : Rat) (s : Rat) : Prop := s ≤ 0 ∨ s * s ≤ X
def geRt (X : Rat) (s : Rat) : Prop := 0 ≤ s ∧ X ≤ s * s
/-! ### Quotients -/
end Go.Proofs.YtigpnopeacicpaaDoor
/-
  Dyads, plain: roots, rounded; bounds of what is rounded.
-/
namespace Go.Proofs.YtigpnopeacicpaaDoor
set_option linter.unusedSimpArgs false

/-! ### Bounds -/
end Go.Proofs.YtigpnopeacicpaaDoor
/-
  Dyads, plain: what has few enough bits is not rounded.
-/
namespace Go.Proofs.YtigpnopeacicpaaDoor
set_option linter.unusedSimpArgs false

theorem Rd.exact {P : Nat} {up : Bool} {t : Rat} {r s : Dy} (h : Rd P up (· ≤ t) (t ≤ ·) r) (hs : Short P s) (he : s.q = t) : r.q = t := by
  cases up
  · obtain ⟨h1, h2⟩ := h.dn rfl
    have := h2 s hs (by rw [he]; exact Rat.le_refl)
    exact rat_le_antisymm h1 (by rw [← he]; exact this)
  · obtain ⟨h1, h2⟩ := h.upw rfl
    have := h2 s hs (by rw [he]; exact Rat.le_refl)
    exact rat_le_antisymm (by rw [← he]; exact this) h1
theorem Rd.root {P : Nat} {up : Bool} {X : Rat} {r s : Dy} (h : Rd P up (leRt X) (geRt X) r) (hs : Short P s) (h0 : 0 ≤ s.q) (he : s.q * s.q = X) : r.q = s.q := by
  subst he
  cases up
  · obtain ⟨h1, h2⟩ := h.dn rfl
    have h3 := h2 s hs (.inr Rat.le_refl)
    rcases h1 with h1 | h1
    · grind
    · exact rat_le_antisymm (sq_le_of h0 h1) h3
  · obtain ⟨h1, h2⟩ := h.upw rfl
    have h3 := h2 s hs ⟨h0, Rat.le_refl⟩
    exact rat_le_antisymm h3 (sq_le_of h1.1 h1.2)
end Go.Proofs.YtigpnopeacicpaaDoor

/-
  Floats, plain: a word is a sign and a rung; what a rung is worth; the nearest word is one of the two rungs beside a number.
-/
namespace Go.Proofs.YtigpnopeacicpaaDoor
set_option linter.unusedSimpArgs false

namespace Fl
/-- How many units of the least float64 a rung is worth. -/
def NR (r : Nat) : Nat := if r < 4503599627370496 then r else (4503599627370496 + r % 4503599627370496) * 2 ^ (r / 4503599627370496 - 1)
/-- Infinity's rung. -/
abbrev INF : Nat := 9218868437227405312
theorem NR_base (E k : Nat) (h1 : 4503599627370496 ≤ k) (h2 : k ≤ 9007199254740992) : NR (E * 4503599627370496 + k) = k * 2 ^ E := by
  unfold NR
  rw [if_neg (by omega)]
  by_cases h : k = 9007199254740992
  · subst h
    rw [show (E * 4503599627370496 + 9007199254740992) % 4503599627370496 = 0 by omega, show (E * 4503599627370496 + 9007199254740992) / 4503599627370496 - 1 = E + 1 by omega, Nat.pow_succ]
    omega
  · rw [show (E * 4503599627370496 + k) % 4503599627370496 = k - 4503599627370496 by omega, show (E * 4503599627370496 + k) / 4503599627370496 - 1 = E by omega, show 4503599627370496 + (k - 4503599627370496) = k by omega]
theorem NR_low {k : Nat} (h : k ≤ 9007199254740992) : NR k = k := by
  by_cases h0 : k < 4503599627370496
  · unfold NR; rw [if_pos h0]
  · have := NR_base 0 k (by omega) h
    simpa using this
/-- A word. -/
def wordB (neg : Bool) (r : Nat) : Nat := if neg then 9223372036854775808 + r else r
theorem word_split {w : Nat} (h : w < 18446744073709551616) : ∃ neg r, w = wordB neg r ∧ r < 9223372036854775808 := by
  by_cases h0 : w < 9223372036854775808
  · exact ⟨false, w, rfl, h0⟩
  · exact ⟨true, w - 9223372036854775808, by unfold wordB; simp; omega, by omega⟩
theorem word_parts (neg : Bool) {r : Nat} (h : r < 9223372036854775808) : (wordB neg r / 9223372036854775808 % 2 == 1) = neg ∧ wordB neg r % 9223372036854775808 = r := by
  cases neg
  · simp only [wordB, Bool.false_eq_true, if_false]
    rw [Nat.div_eq_of_lt h, Nat.mod_eq_of_lt h]
    exact ⟨rfl, rfl⟩
  · simp only [wordB, if_true]
    rw [show (9223372036854775808 + r) / 9223372036854775808 = 1 by omega, show (9223372036854775808 + r) % 9223372036854775808 = r by omega]
    exact ⟨rfl, rfl⟩
/-- What a finite word stands for. -/
theorem read_fin (neg : Bool) {r : Nat} (h : r < INF) : ∃ mag k : Nat, Ieee.double.read (wordB neg r) = .number neg mag (-1074 + (k : Int)) ∧ mag * 2 ^ k = NR r := by
  obtain ⟨h1, h2⟩ := word_parts neg (show r < 9223372036854775808 by unfold INF at h; omega)
  unfold Ieee.Format.read
  simp only [show Ieee.double.signWeight = 9223372036854775808 by decide, show Ieee.double.binade = 4503599627370496 by decide, show Ieee.double.infRung = 9218868437227405312 by decide, show Ieee.double.leastPlace = -1074 by decide, h1, h2]
  by_cases h0 : r < 4503599627370496
  · rw [if_pos h0]
    exact ⟨r, 0, by simp, by rw [NR_low (by omega)]; simp⟩
  · rw [if_neg h0, if_pos h]
    exact ⟨_, _, rfl, by unfold NR; rw [if_neg h0]⟩
theorem read_inf (neg : Bool) : Ieee.double.read (wordB neg INF) = .infinity neg := by cases neg <;> decide
theorem read_nan (neg : Bool) {r : Nat} (h : INF < r) (h2 : r < 9223372036854775808) : Ieee.double.read (wordB neg r) = .nan neg (r - INF) := by
  obtain ⟨k1, k2⟩ := word_parts neg h2
  unfold Ieee.Format.read
  simp only [show Ieee.double.signWeight = 9223372036854775808 by decide, show Ieee.double.binade = 4503599627370496 by decide, show Ieee.double.infRung = 9218868437227405312 by decide, k1, k2]
  unfold INF at h ⊢
  rw [if_neg (by omega), if_neg (by omega), if_neg (by omega)]

end Fl
end Go.Proofs.YtigpnopeacicpaaDoor

/-
  Floats, plain: the dyad of a word, the order of words, and what flo.Float tells: the word beside a dyad.
-/
namespace Go.Proofs.YtigpnopeacicpaaDoor
set_option linter.unusedSimpArgs false

namespace Fl
def mantW (r : Nat) : Nat := if r < 4503599627370496 then r else 4503599627370496 + r % 4503599627370496
def expoW (r : Nat) : Nat := r / 4503599627370496 - 1
/-- The dyad of a word. -/
def fD (neg : Bool) (r : Nat) : Dy := nrm (sg neg (mantW r)) ((expoW r : Int) - 1074)
theorem signed_sg (neg : Bool) (m n : Nat) : Ieee.signed neg m n = sg neg (m * 2 ^ n) := by
  cases neg <;> simp [Ieee.signed, sg, Nat.shiftLeft_eq]
theorem ord_nan (a : Bool) {r : Nat} (h : INF < r) (h2 : r < 9223372036854775808) (w : Nat) : Ieee.double.order (wordB a r) w = none ∧ Ieee.double.order w (wordB a r) = none := by
  unfold Ieee.Format.order
  rw [read_nan a h h2]
  refine ⟨rfl, ?_⟩
  cases Ieee.double.read w <;> rfl

end Fl
end Go.Proofs.YtigpnopeacicpaaDoor

/-
  Floats, plain: a step; the two words beside a number; powers of two; sums.
-/
namespace Go.Proofs.YtigpnopeacicpaaDoor
set_option linter.unusedSimpArgs false

namespace Fl
theorem inf_val : INF = 9218868437227405312 := rfl
end Fl
end Go.Proofs.YtigpnopeacicpaaDoor

/-
  Package flo by value: Finite, Step, beyond, within; math.IsNaN, IsInf, Inf.
-/
namespace Go.Proofs.YtigpnopeacicpaaDoor
set_option linter.unusedSimpArgs false
open Go.RowKit

namespace Fl

theorem word_lt (s : Bool) {r : Nat} (h : r < 9223372036854775808) : wordB s r < 18446744073709551616 := by cases s <;> simp [wordB] <;> omega

/-- flo.Finite. -/
def finB (f : Nat) : Bool := decide (f / 4503599627370496 % 2048 ≠ 2047)

theorem fin_arith (b : Nat) (hb : b < 18446744073709551616) : (bits BinOp.and IntKind.u64 ((b : Int) / 4503599627370496) 2047 != 2047) = finB b := by
  have e1 : ((b : Int) / 4503599627370496) = ((b / 4503599627370496 : Nat) : Int) := by omega
  have h1 : bits BinOp.and IntKind.u64 ((b / 4503599627370496 : Nat) : Int) ((2047 : Nat) : Int) = (((b / 4503599627370496) &&& 2047 : Nat) : Int) := bits_and_u64_nat _ _ (by omega) (by omega)
  rw [e1, show (2047 : Int) = ((2047 : Nat) : Int) from rfl, h1]
  have h2 : (b / 4503599627370496) &&& 2047 = (b / 4503599627370496) % 2048 := Nat.and_two_pow_sub_one_eq_mod _ 11
  rw [h2]
  unfold finB
  rw [Bool.eq_iff_iff]
  simp
  omega

theorem fin_word (s : Bool) {r : Nat} (h : r < 9223372036854775808) : finB (wordB s r) = decide (r < INF) := by
  unfold finB
  rw [Bool.eq_iff_iff]
  cases s <;> simp [wordB, INF] <;> omega

theorem bits_run (n : Nat) (w : World) : (callFunc 125 #[.float .f64 n]).run Tryd.prog w = .ok (.value (.int .u64 (n : Int))) w := by kernel_rfl

set_option maxHeartbeats 400000 in
theorem finite_any (b : Nat) (hb : b < 18446744073709551616) (w : World) :
    Calls Tryd.prog 127 #[.float .f64 b] w fun e w' => e = .returned (.bool (finB b)) ∧ w = w' := by
  have h := bits_run
  have hf := Lib.hid (fin_arith b hb)
  clear hb
  go_enter Tryd.func127, Tryd.ntmps127
  go_wp2
  go_ret
  exact ⟨by simp [hf.out], rfl⟩

end Fl

end Go.Proofs.YtigpnopeacicpaaDoor
