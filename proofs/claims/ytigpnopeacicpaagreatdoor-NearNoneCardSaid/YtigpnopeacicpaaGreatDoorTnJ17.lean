/-
  Joined texts.
-/
import Derived.Test.YtigpnopeacicpaaGreatDoorTnGTyp
import Derived.Test.YtigpnopeacicpaaGreatDoorTnDyP
import Derived.Test.YtigpnopeacicpaaGreatDoorTnJ15
/-
  Typed regions: new variables made in one region lie apart from each other.
-/
namespace Go.Proofs.YtigpnopeacicpaaGreatDoor
open Go.RowKit
section
variable {P : Program}
section
variable {l : List Oper} {Ps : List VP} {a0 a : Act} {w0 w : World} {listed : Array Bool} {Q : Exit → Act → World → Prop} {jss : List (List Nat)}
/-- These operations make variables of the type T. -/
def allocB (l : List Oper) (al : List Nat) (T : TypeId) : Bool := al.all fun k => match l[k]? with
  | none => false
  | some o => o.guard.isNone && (match o.op with | .alloc t => t == T | _ => false) && (match o.dst with | some _ => true | none => false)
def Fresh (l : List Oper) (al : List Nat) (listed : Array Bool) (a : Act) (w : World) : Prop := ∃ f : Nat → Nat, (∀ i ∈ al, listed.getD i false = true → f i < w.heap.size ∧ ∀ d, dstOf l i = some d → a.tmps.getD d undef = .pointer (some ⟨f i, 0, none⟩)) ∧ (∀ i ∈ al, ∀ j ∈ al, listed.getD i false = true → listed.getD j false = true → i ≠ j → f i ≠ f j)
theorem Fresh.step {al : List Nat} {T : TypeId} {k : Nat} {o : Oper} {u : Value} {w' : World} (h : Fresh l al listed a w) (_ : allocB l al T = true) (hsp : ∀ k o, l[k]? = some o → (∀ d, o.dst = some d → d < a0.tmps.size ∧ ∀ i, i < k → dstOf l i ≠ some d) ∧ (∀ i ∈ waits o, i < k) ∧ (∀ i d, dstOf l i = some d → i ∈ waits o ∨ d ∉ o.looksAt l.toArray))
    (hw : Way l Ps a0 w0 listed a w) (hk : l[k]? = some o) (hu : listed.getD k false = false) (ho : Only [] w w') (hn : k ∈ al → u = .pointer (some ⟨w.heap.size, 0, none⟩) ∧ w.heap.size < w'.heap.size) : Fresh l al (listed.setIfInBounds k true) (a.put o.dst u) w' := by
  obtain ⟨f, h1, h2⟩ := h
  have hlt : k < l.length := (List.getElem?_eq_some_iff.1 hk).1
  have hll : k < listed.size := by rw [hw.lsize]; exact hlt
  have hdk : dstOf l k = o.dst := by unfold dstOf; rw [hk]; rfl
  have hdiff : ∀ i d, i ≠ k → dstOf l i = some d → o.dst ≠ some d := fun i d hne hi hc => by
    unfold dstOf at hi
    cases hx : l[i]? with
    | none => rw [hx] at hi; cases hi
    | some x =>
      rw [hx] at hi
      rcases Nat.lt_or_gt_of_ne hne with h1 | h1
      · exact ((hsp k o hk).1 d hc).2 i h1 (by unfold dstOf; rw [hx]; exact hi)
      · exact ((hsp i x hx).1 d hi).2 k h1 (by rw [hdk]; exact hc)
  have old : ∀ i, i ≠ k → (listed.setIfInBounds k true).getD i false = true → listed.getD i false = true := fun i hik hi => by
    rw [getD_set _ _ _ hll] at hi
    have : k ≠ i := fun hc => hik hc.symm
    simpa [this] using hi
  have keep : ∀ i d, i ≠ k → dstOf l i = some d → (a.put o.dst u).tmps.getD d undef = a.tmps.getD d undef := fun i d hik hd => by
    cases hdo : o.dst with
    | none => rfl
    | some d' =>
      rw [getD_put, if_neg]
      intro hc
      exact hdiff i d hik hd (by rw [hdo, hc.1])
  refine ⟨fun i => if i = k then w.heap.size else f i, fun i hi hli => ?_, fun i hi j hj hli hlj hij => ?_⟩
  · dsimp only
    by_cases hik : i = k
    · subst hik
      rw [if_pos rfl]
      obtain ⟨e1, e2⟩ := hn hi
      refine ⟨e2, fun d hd => ?_⟩
      rw [hdk] at hd
      rw [hd, getD_put, if_pos ⟨rfl, by rw [hw.size]; exact ((hsp i o hk).1 d hd).1⟩]
      exact e1
    · rw [if_neg hik]
      obtain ⟨e1, e2⟩ := h1 i hi (old i hik hli)
      exact ⟨Nat.lt_of_lt_of_le e1 ho.size, fun d hd => by rw [keep i d hik hd]; exact e2 d hd⟩
  · dsimp only
    by_cases hik : i = k
    · have hjk : j ≠ k := fun hc => hij (hik.trans hc.symm)
      rw [if_pos hik, if_neg hjk]
      have := (h1 j hj (old j hjk hlj)).1
      omega
    · by_cases hjk : j = k
      · rw [if_neg hik, if_pos hjk]
        have := (h1 i hi (old i hik hli)).1
        omega
      · rw [if_neg hik, if_neg hjk]
        exact h2 i hi j hj (old i hik hli) (old j hjk hlj) hij
end
end
end Go.Proofs.YtigpnopeacicpaaGreatDoor

/-
  Dyads: roots, rounding, whatever comes in.
-/
namespace Go.Proofs.YtigpnopeacicpaaGreatDoor
set_option linter.unusedSimpArgs false
open Go.RowKit

theorem sqrtA_d {w : World} {a : Value} {x : Dy} {N : Nat} (p dir : Int) (ha : Hid (DV w a x)) (hx : Hid (Bnd N x)) (hN : N ≤ 100000) (hT : Hid (Tab6 w)) : Calls Tryz.prog 54 #[a, .int .i64 p, .int .i64 dir] w (QDPost (sqrtQ (widthP p) (decide (0 ≤ dir)) x) (decide (0 ≤ x.z)) w) := by
  unfold sqrtQ
  by_cases h1 : x.z < 0
  · rw [if_pos (show x.z ≤ 0 by omega), decide_eq_false (show ¬ 0 ≤ x.z by omega)]
    exact sqrtn_d p dir ha h1
  · rw [decide_eq_true (show 0 ≤ x.z by omega)]
    by_cases h2 : x.z = 0
    · rw [if_pos (by omega)]
      exact sqrtz_d p dir ha h2
    · rw [if_neg (by omega)]
      exact sqrt_d p dir ha hx hN (by omega) hT
theorem sqrtV_d {w : World} {a : Value} {x : Dy} {N : Nat} (p dir : Int) (r : Dy) (ok : Bool) (hr : sqrtQ (widthP p) (decide (0 ≤ dir)) x = r) (hok : decide (0 ≤ x.z) = ok) (ha : Hid (DV w a x)) (hx : Hid (Bnd N x)) (hN : N ≤ 100000) (hT : Hid (Tab6 w)) : Calls Tryz.prog 54 #[a, .int .i64 p, .int .i64 dir] w (QDPost r ok w) := hr ▸ hok ▸ sqrtA_d p dir ha hx hN hT
theorem roundV_d {w : World} {a : Value} {x : Dy} {N : Nat} (p dir : Int) (r : Dy) (hr : rndD (widthP p) (decide (0 ≤ dir)) x = r) (ha : Hid (DV w a x)) (hx : Hid (Bnd N x)) (hN : N ≤ 1000000) (hT : Hid (Tab6 w)) : Calls Tryz.prog 61 #[a, .int .i64 p, .int .i64 dir] w (DPost r w) := hr ▸ round_d p dir ha hx hN hT
theorem bnd_zero (N : Nat) : Bnd N ⟨0, 0⟩ := ⟨Nat.pow_pos (by decide), by show -(N : Int) ≤ 0; omega, by show (0 : Int) ≤ N; omega⟩
end Go.Proofs.YtigpnopeacicpaaGreatDoor

/-
  Boxes of any shape at hand, each in a block of its own: made, taken in, written; whole numbers at hand beside them.
-/
namespace Go.Proofs.YtigpnopeacicpaaGreatDoor
set_option linter.unusedSimpArgs false
open Go.RowKit

structure GB (w0 w : World) (L : List EB) : Prop where
  only : Only [] w0 w
  all : ∀ (i : Nat) (x : EB), L[i]? = some x → Blk w x.g x.t x.cs ∧ NoLimb x.cs
  base : ∀ (i : Nat) (x : EB), L[i]? = some x → w0.heap.size ≤ x.g
  ne : ∀ (i j : Nat) (x y : EB), i ≠ j → L[i]? = some x → L[j]? = some y → x.g ≠ y.g
theorem GB.start (w : World) : GB w w [] := ⟨Only.refl _ _, fun i x h => by simp at h, fun i x h => by simp at h, fun i j x y _ h => by simp at h⟩
theorem GB.step {w0 w w' : World} {L : List EB} (h : GB w0 w L) (ho : Only [] w w') : GB w0 w' L := ⟨h.only.nil_trans ho, fun i x hx => ⟨(h.all i x hx).1.only ho (by simp), (h.all i x hx).2⟩, h.base, h.ne⟩
theorem GB.lt {w0 w : World} {L : List EB} (h : GB w0 w L) (i : Nat) (y : EB) (hy : L[i]? = some y) : y.g < w.heap.size := (h.all i y hy).1.lt
/-- A box that lies apart from all others is taken in. -/
theorem GB.take {w0 w w' : World} {L : List EB} (h : GB w0 w L) {g : Nat} {t : TypeId} {cs : List Value} (ho : Only [g] w w') (hb : Blk w' g t cs) (hn : NoLimb cs) (hg : w0.heap.size ≤ g) (hne : ∀ (i : Nat) (y : EB), L[i]? = some y → y.g ≠ g) : GB w0 w' (⟨g, t, cs⟩ :: L) := by
  refine ⟨h.only.trans ho (fun k hk => .inr (by simp at hk; omega)), fun i y hy => ?_, fun i y hy => ?_, fun i j y z hij hy hz => ?_⟩
  · rcases i with _ | i
    · obtain rfl := (Option.some.inj hy).symm
      exact ⟨hb, hn⟩
    · obtain ⟨h1, h2⟩ := h.all i y hy
      exact ⟨h1.only ho (by simp; exact hne i y hy), h2⟩
  · rcases i with _ | i
    · obtain rfl := (Option.some.inj hy).symm
      exact hg
    · exact h.base i y hy
  · rcases i with _ | i
    · rcases j with _ | j
      · omega
      · obtain rfl := (Option.some.inj hy).symm
        exact fun hc => hne j z hz hc.symm
    · rcases j with _ | j
      · obtain rfl := (Option.some.inj hz).symm
        exact hne i y hy
      · exact h.ne i j y z (by omega) hy hz
theorem GB.new {w0 w : World} {L : List EB} (h : GB w0 w L) (t : TypeId) (cs : List Value) (hn : NoLimb cs) : GB w0 (w.alloc (.cells cs.toArray t)) (⟨w.heap.size, t, cs⟩ :: L) :=
  h.take ((Only.refl _ w).alloc _) (Blk.new w t cs) hn h.only.size (fun i y hy => by have := h.lt i y hy; omega)
/-- A box gets other cells. -/
theorem GB.put {w0 w w' : World} {L : List EB} (h : GB w0 w L) (i : Nat) {g : Nat} {t : TypeId} {cs cs' : List Value} (hi : L[i]? = some ⟨g, t, cs⟩) (ho : Only [g] w w') (hb : Blk w' g t cs') (hn : NoLimb cs') : GB w0 w' (L.set i ⟨g, t, cs'⟩) := by
  have hg : w0.heap.size ≤ g := h.base i _ hi
  have hlen : i < L.length := (List.getElem?_eq_some_iff.1 hi).1
  have hne : ∀ (j : Nat) (y : EB), L[j]? = some y → j ≠ i → y.g ≠ g := fun j y hy hj => h.ne j i y _ hj hy hi
  have key : ∀ (j : Nat) (y : EB), (L.set i ⟨g, t, cs'⟩)[j]? = some y → (j = i ∧ y = ⟨g, t, cs'⟩) ∨ (j ≠ i ∧ L[j]? = some y) := fun j y hy => by
    by_cases hij : i = j
    · subst hij
      rw [List.getElem?_set_self hlen] at hy
      exact .inl ⟨rfl, (Option.some.inj hy).symm⟩
    · rw [List.getElem?_set_ne hij] at hy
      exact .inr ⟨Ne.symm hij, hy⟩
  have gk : ∀ (j : Nat) (y : EB), (L.set i ⟨g, t, cs'⟩)[j]? = some y → ∃ y', L[j]? = some y' ∧ y'.g = y.g := fun j y hy => by
    rcases key j y hy with ⟨rfl, rfl⟩ | ⟨_, h2⟩
    · exact ⟨_, hi, rfl⟩
    · exact ⟨_, h2, rfl⟩
  refine ⟨h.only.trans ho (fun k hk => .inr (by simp at hk; omega)), fun j y hy => ?_, fun j y hy => ?_, fun j l y z hjl hy hz => ?_⟩
  · rcases key j y hy with ⟨rfl, rfl⟩ | ⟨h1, h2⟩
    · exact ⟨hb, hn⟩
    · obtain ⟨h3, h4⟩ := h.all j y h2
      exact ⟨h3.only ho (by simp; exact hne j y h2 h1), h4⟩
  · obtain ⟨y', h1, h2⟩ := gk j y hy
    have := h.base j y' h1; omega
  · obtain ⟨y', h1, h2⟩ := gk j y hy
    obtain ⟨z', h3, h4⟩ := gk l z hz
    have := h.ne j l y' z' hjl h1 h3; omega
theorem GB.blk {w0 w : World} {L : List EB} (h : Hid (GB w0 w L)) (i : Nat) {g : Nat} {t : TypeId} {cs : List Value} (hi : L[i]? = some ⟨g, t, cs⟩) : Blk w g t cs := (h.out.all i _ hi).1
theorem GB.nolimb {w0 w : World} {L : List EB} (h : Hid (GB w0 w L)) (i : Nat) {g : Nat} {t : TypeId} {cs : List Value} (hi : L[i]? = some ⟨g, t, cs⟩) : NoLimb cs := (h.out.all i _ hi).2
theorem GB.c3 {w0 w : World} {L : List EB} (h : Hid (GB w0 w L)) (i : Nat) {g : Nat} {t : TypeId} {a b c : Value} (hi : L[i]? = some ⟨g, t, [a, b, c]⟩) :
    w.cell? ⟨g, 0, none⟩ = some a ∧ w.cell? ⟨g, 1, none⟩ = some b ∧ w.cell? ⟨g, 2, none⟩ = some c :=
  have hb := GB.blk h i hi
  ⟨hb.cell 0, hb.cell 1, hb.cell 2⟩
theorem GB.f3 {w0 w : World} {L : List EB} (h : Hid (GB w0 w L)) (i : Nat) {g : Nat} {t : TypeId} {cs : List Value} (hi : L[i]? = some ⟨g, t, cs⟩) :
    w.frozen? ⟨g, 0, none⟩ = false ∧ w.frozen? ⟨g, 1, none⟩ = false ∧ w.frozen? ⟨g, 2, none⟩ = false :=
  have hb := GB.blk h i hi
  ⟨hb.frozen 0, hb.frozen 1, hb.frozen 2⟩
theorem GB.c6 {w0 w : World} {L : List EB} (h : Hid (GB w0 w L)) (i : Nat) {g : Nat} {t : TypeId} {a b c d e f : Value} (hi : L[i]? = some ⟨g, t, [a, b, c, d, e, f]⟩) :
    w.cell? ⟨g, 0, none⟩ = some a ∧ w.cell? ⟨g, 1, none⟩ = some b ∧ w.cell? ⟨g, 2, none⟩ = some c ∧ w.cell? ⟨g, 3, none⟩ = some d ∧ w.cell? ⟨g, 4, none⟩ = some e ∧ w.cell? ⟨g, 5, none⟩ = some f :=
  have hb := GB.blk h i hi
  ⟨hb.cell 0, hb.cell 1, hb.cell 2, hb.cell 3, hb.cell 4, hb.cell 5⟩
theorem GB.f6 {w0 w : World} {L : List EB} (h : Hid (GB w0 w L)) (i : Nat) {g : Nat} {t : TypeId} {cs : List Value} (hi : L[i]? = some ⟨g, t, cs⟩) :
    w.frozen? ⟨g, 0, none⟩ = false ∧ w.frozen? ⟨g, 1, none⟩ = false ∧ w.frozen? ⟨g, 2, none⟩ = false ∧ w.frozen? ⟨g, 3, none⟩ = false ∧ w.frozen? ⟨g, 4, none⟩ = false ∧ w.frozen? ⟨g, 5, none⟩ = false :=
  have hb := GB.blk h i hi
  ⟨hb.frozen 0, hb.frozen 1, hb.frozen 2, hb.frozen 3, hb.frozen 4, hb.frozen 5⟩
theorem only_set6g (w : World) (b : Nat) (u0 u1 u2 u3 u4 u5 : Value) : Only [b] w ((((((w.setCell ⟨b, 0, none⟩ u0).setCell ⟨b, 1, none⟩ u1).setCell ⟨b, 2, none⟩ u2).setCell ⟨b, 3, none⟩ u3).setCell ⟨b, 4, none⟩ u4).setCell ⟨b, 5, none⟩ u5) :=
  ((((((Only.refl [b] w).setCell (.inl (by simp)) u0).setCell (.inl (by simp)) u1).setCell (.inl (by simp)) u2).setCell (.inl (by simp)) u3).setCell (.inl (by simp)) u4).setCell (.inl (by simp)) u5
theorem Blk.to6 {w : World} {g : Nat} {t : TypeId} {a b c d e f u0 u1 u2 u3 u4 u5 : Value} (h : Blk w g t [a, b, c, d, e, f]) : Blk ((((((w.setCell ⟨g, 0, none⟩ u0).setCell ⟨g, 1, none⟩ u1).setCell ⟨g, 2, none⟩ u2).setCell ⟨g, 3, none⟩ u3).setCell ⟨g, 4, none⟩ u4).setCell ⟨g, 5, none⟩ u5) g t [u0, u1, u2, u3, u4, u5] := (((((h.set_ 0 u0).set_ 1 u1).set_ 2 u2).set_ 3 u3).set_ 4 u4).set_ 5 u5
theorem GB.tail {w0 w : World} {L : List EB} {b : EB} (h : GB w0 w (b :: L)) : GB w0 w L :=
  ⟨h.only, fun i x hx => h.all (i + 1) x hx, fun i x hx => h.base (i + 1) x hx, fun i j x y hij hx hy => h.ne (i + 1) (j + 1) x y (by omega) hx hy⟩
structure WX where
  s : Bool
  a : Option Addr
  k : Nat
  c : Nat
  z : Int
/-- Whole numbers at hand. -/
def WL (w : World) (L : List WX) : Prop := ∀ (i : Nat) (y : WX), L[i]? = some y → IV w (.agg #[.bool y.s, .slice y.a y.k y.c]) y.z
theorem WL.nil (w : World) : WL w [] := fun i y h => by simp at h
theorem WL.cons {w : World} {L : List WX} (h : WL w L) {s : Bool} {A : Option Addr} {k c : Nat} {z : Int} (hv : Hid (IV w (.agg #[.bool s, .slice A k c]) z)) : WL w (⟨s, A, k, c, z⟩ :: L) := fun i y hy => by
  rcases i with _ | i
  · obtain rfl := (Option.some.inj hy).symm; exact hv.out
  · exact h i y hy
theorem WL.step {w w' : World} {L : List WX} (h : WL w L) (ho : Only [] w w') : WL w' L := fun i y hy => (h i y hy).only ho
theorem WL.far {w w' : World} {L : List WX} (h : WL w L) {g : Nat} {t : TypeId} {cs : List Value} (ho : Only [g] w w') (hb : Blk w g t cs) (hn : NoLimb cs) : WL w' L := fun i z hz =>
  (h i z hz).farS ho (fun g' hg' => by rw [List.mem_singleton] at hg'; subst hg'; exact (h i z hz).far_blk hb hn)
theorem WL.at {w : World} {L : List WX} (h : Hid (WL w L)) (i : Nat) {s : Bool} {A : Option Addr} {k c : Nat} {z : Int} (hi : L[i]? = some ⟨s, A, k, c, z⟩) : Hid (IV w (.agg #[.bool s, .slice A k c]) z) := h.out i _ hi
theorem WL.dv {w : World} {L : List WX} (h : Hid (WL w L)) (i : Nat) {s : Bool} {A : Option Addr} {k c : Nat} {x : Dy} (hi : L[i]? = some ⟨s, A, k, c, x.z⟩) : Hid (DV w (.agg #[.bool s, .slice A k c, .int .i64 x.e]) x) := DV.of (WL.at h i hi)
end Go.Proofs.YtigpnopeacicpaaGreatDoor

/-
  Balls: what a struct reads as; At, Not, Add, Sub, Sign, Has.
-/
namespace Go.Proofs.YtigpnopeacicpaaGreatDoor
set_option linter.unusedSimpArgs false
open Go.RowKit

/-- A value that reads as a ball. -/
def BV (w : World) (v : Value) (x y : Dy) : Prop := ∃ s A k c t B m d, v = .agg #[.bool s, .slice A k c, .int .i64 x.e, .bool t, .slice B m d, .int .i64 y.e] ∧ IV w (.agg #[.bool s, .slice A k c]) x.z ∧ IV w (.agg #[.bool t, .slice B m d]) y.z
theorem BV.only {w w' : World} {v : Value} {x y : Dy} (h : BV w v x y) (ho : Only [] w w') : BV w' v x y := by
  obtain ⟨s, A, k, c, t, B, m, d, h1, h2, h3⟩ := h
  exact ⟨s, A, k, c, t, B, m, d, h1, h2.only ho, h3.only ho⟩
/-- What a function leaves that tells a ball. -/
def BPost (x y : Dy) (w : World) (e : Ending) (w' : World) : Prop := ∃ s A k c t B m d, e = .returned (.agg #[.bool s, .slice A k c, .int .i64 x.e, .bool t, .slice B m d, .int .i64 y.e]) ∧ Cn s k x.z ∧ IV w' (.agg #[.bool s, .slice A k c]) x.z ∧ Cn t m y.z ∧ IV w' (.agg #[.bool t, .slice B m d]) y.z ∧ Only [] w w'
theorem KB.c6 {w0 w : World} {L : List EB} (h : KB w0 w L) (i : Nat) {g : Nat} {t : TypeId} {a b c d e f : Value} (hi : L[i]? = some ⟨g, t, [a, b, c, d, e, f]⟩) :
    w.cell? ⟨g, 0, none⟩ = some a ∧ w.cell? ⟨g, 1, none⟩ = some b ∧ w.cell? ⟨g, 2, none⟩ = some c ∧ w.cell? ⟨g, 3, none⟩ = some d ∧ w.cell? ⟨g, 4, none⟩ = some e ∧ w.cell? ⟨g, 5, none⟩ = some f :=
  ⟨(h.blk i hi).cell 0, (h.blk i hi).cell 1, (h.blk i hi).cell 2, (h.blk i hi).cell 3, (h.blk i hi).cell 4, (h.blk i hi).cell 5⟩
theorem KB.f6 {w0 w : World} {L : List EB} (h : KB w0 w L) (i : Nat) {g : Nat} {t : TypeId} {cs : List Value} (hi : L[i]? = some ⟨g, t, cs⟩) :
    w.frozen? ⟨g, 0, none⟩ = false ∧ w.frozen? ⟨g, 1, none⟩ = false ∧ w.frozen? ⟨g, 2, none⟩ = false ∧ w.frozen? ⟨g, 3, none⟩ = false ∧ w.frozen? ⟨g, 4, none⟩ = false ∧ w.frozen? ⟨g, 5, none⟩ = false :=
  ⟨(h.blk i hi).frozen 0, (h.blk i hi).frozen 1, (h.blk i hi).frozen 2, (h.blk i hi).frozen 3, (h.blk i hi).frozen 4, (h.blk i hi).frozen 5⟩
theorem noLimb6 (s : Bool) (A : Option Addr) (k c : Nat) (e : Int) (t : Bool) (B : Option Addr) (m d : Nat) (f : Int) : NoLimb [.bool s, .slice A k c, .int .i64 e, .bool t, .slice B m d, .int .i64 f] := fun o n h => by
  rcases o with _ | _ | _ | _ | _ | _ | o <;> simp at h
theorem only_set6 (w : World) (b : Nat) (u0 u1 u2 u3 u4 u5 : Value) : Only [b] w ((((((w.setCell ⟨b, 0, none⟩ u0).setCell ⟨b, 1, none⟩ u1).setCell ⟨b, 2, none⟩ u2).setCell ⟨b, 3, none⟩ u3).setCell ⟨b, 4, none⟩ u4).setCell ⟨b, 5, none⟩ u5) :=
  ((((((Only.refl [b] w).setCell (.inl (by simp)) u0).setCell (.inl (by simp)) u1).setCell (.inl (by simp)) u2).setCell (.inl (by simp)) u3).setCell (.inl (by simp)) u4).setCell (.inl (by simp)) u5
theorem bfin {x y : Dy} {w w1 w2 : World} {b : Nat} {t : TypeId} {cs : List Value} {s s' : Bool} {A A' : Option Addr} {k c k' c' : Nat} (hc : Hid (Cn s k x.z)) (hv : Hid (IV w1 (.agg #[.bool s, .slice A k c]) x.z)) (hc' : Hid (Cn s' k' y.z)) (hv' : Hid (IV w1 (.agg #[.bool s', .slice A' k' c']) y.z)) (hb : w.heap.size ≤ b) (hB : Blk w1 b t cs) (hn : NoLimb cs) (ho : Only [] w w1) (ho2 : Only [b] w1 w2) :
    BPost x y w (.returned (.agg #[.bool s, .slice A k c, .int .i64 x.e, .bool s', .slice A' k' c', .int .i64 y.e])) w2 :=
  ⟨s, A, k, c, s', A', k', c', rfl, hc.out, hv.out.farS ho2 (fun g hg => by rw [List.mem_singleton] at hg; subst hg; exact hv.out.far_blk hB hn), hc'.out, hv'.out.farS ho2 (fun g hg => by rw [List.mem_singleton] at hg; subst hg; exact hv'.out.far_blk hB hn), ho.trans ho2 (fun k hk => .inr (by simp at hk; omega))⟩
set_option maxHeartbeats 3200000 in
set_option maxRecDepth 100000 in
theorem same_d {w : World} {a : Value} {x : Dy} {N : Nat} (ha : Hid (DV w a x)) (bx : Hid (Bnd N x)) (hN : N ≤ 8000000) (hT : Hid (Tab6 w)) : Calls Tryz.prog 69 #[a] w (DPost (nrm x.z x.e) w) := by
  have he := lim_i64 bx.out hN
  have HBt : Hid (bitsN x.z.natAbs ≤ 16777216) := bits_few bx.out.z (by omega)
  obtain ⟨s, A, k, c, rfl, hv⟩ := ha.out
  have hk := ((KB.start w).new 32 [.bool s, .slice A k c, .int .i64 x.e]).new 32 [.bool false, .slice none 0 0, .int .i64 0]
  simp only [World.size_alloc] at hk
  obtain ⟨i0, i1, i2, -, -, -⟩ := hk.c3 1 rfl
  have HV := Lib.hid (hv.only hk.only)
  have HK := Lib.hid hk
  clear hk hv ha
  go_enter Tryz.func69, Tryz.ntmps69
  go_wp2_with fail
  (with_reducible refine (make_d HV HBt (by omega) (by omega) (Lib.hid (hT.out.keep HK.out.only))).mono ?_)
  rintro e w2 ⟨s2, A2, k2, c2, rfl, hs2, hk2, hv2, ho⟩
  replace HK := Lib.hid (HK.out.step ho)
  have HC : Hid (Cn s2 k2 (nrm x.z x.e).z) := ⟨hs2, hk2⟩
  have HV2 := Lib.hid hv2
  obtain ⟨c0, c1', c2', f0, f1, f2⟩ := HK.out.c3 0 rfl
  clear ho hs2 hk2 hv2 HV i0 i1 i2
  generalize nrm x.z x.e = r at *
  go_wp2_with fail
  refine bodyPost_ret (v := .agg #[.bool s2, .slice A2 k2 c2, .int .i64 (r.e)]) (by simp [results, Tryz.results69, go_sem, c0, c1', c2']) rfl ?_
  exact dfin HC HV2 (by omega) (HK.out.blk 0 rfl) (noLimb3 _ _ _ _ _) HK.out.only (only_set3 _ _ _ _ _)
set_option maxHeartbeats 3200000 in
set_option maxRecDepth 100000 in
theorem at_b {w : World} {a : Value} {x : Dy} {N : Nat} (ha : Hid (DV w a x)) (bx : Hid (Bnd N x)) (hN : N ≤ 8000000) (hT : Hid (Tab6 w)) : Calls Tryz.prog 32 #[a] w (BPost (nrm x.z x.e) (nrm x.z x.e) w) := by
  obtain ⟨s, A, k, c, rfl, hv⟩ := ha.out
  have hk := ((KB.start w).new 32 [.bool s, .slice A k c, .int .i64 x.e]).new 34 [.bool false, .slice none 0 0, .int .i64 0, .bool false, .slice none 0 0, .int .i64 0]
  simp only [World.size_alloc] at hk
  have HX : Hid (DV _ (.agg #[.bool s, .slice A k c, .int .i64 x.e]) x) := ha.out.only hk.only
  have HK := Lib.hid hk
  clear hk hv ha
  go_enter Tryz.func32, Tryz.ntmps32
  go_upto_region 1 with fail
  apply wp_region_typed_tail2 4 (by kernel_rfl) [isV _, isD (nrm x.z x.e), isV _, isD (nrm x.z x.e)] [[], [0], [], [2]] (by kernel_rfl) (by kernel_rfl) (by kernel_rfl)
  case ho =>
    simp only [List.take_succ_cons, List.take_zero]
    refine owes2_cons (fun wx hox => ?_) ?_
    · skip
      have hk := HK.out.step hox
      obtain ⟨i0, i1, i2, -, -, -⟩ := hk.c3 1 rfl
      refine withs_plain rfl ?_
      simp only [withs, List.getElem?_cons_zero, List.getElem?_cons_succ, Option.bind, Option.getD]
      repeat (first | (with_reducible refine all_isV ?_) | (with_reducible refine all_isD ?_; intro sx Ax kx cx hvx hwx))
      go_simp
      exact ⟨Only.refl _ _, isV.self _ _⟩
    refine owes2_cons (fun wx hox => ?_) ?_
    · skip
      have hk := HK.out.step hox
      obtain ⟨i0, i1, i2, -, -, -⟩ := hk.c3 1 rfl
      refine withs_plain rfl ?_
      simp only [withs, List.getElem?_cons_zero, List.getElem?_cons_succ, Option.bind, Option.getD]
      repeat (first | (with_reducible refine all_isV ?_) | (with_reducible refine all_isD ?_; intro sx Ax kx cx hvx hwx))
      go_simp
      (with_reducible exact grow_d (same_d (Lib.hid (HX.out.only hox)) bx (by omega) (Lib.hid (hT.out.keep hk.only))))
    refine owes2_cons (fun wx hox => ?_) ?_
    · skip
      have hk := HK.out.step hox
      obtain ⟨i0, i1, i2, -, -, -⟩ := hk.c3 1 rfl
      refine withs_plain rfl ?_
      simp only [withs, List.getElem?_cons_zero, List.getElem?_cons_succ, Option.bind, Option.getD]
      repeat (first | (with_reducible refine all_isV ?_) | (with_reducible refine all_isD ?_; intro sx Ax kx cx hvx hwx))
      go_simp
      exact ⟨Only.refl _ _, isV.self _ _⟩
    refine owes2_cons (fun wx hox => ?_) ?_
    · skip
      have hk := HK.out.step hox
      obtain ⟨i0, i1, i2, -, -, -⟩ := hk.c3 1 rfl
      refine withs_plain rfl ?_
      simp only [withs, List.getElem?_cons_zero, List.getElem?_cons_succ, Option.bind, Option.getD]
      repeat (first | (with_reducible refine all_isV ?_) | (with_reducible refine all_isD ?_; intro sx Ax kx cx hvx hwx))
      go_simp
      (with_reducible exact grow_d (same_d (Lib.hid (HX.out.only hox)) bx (by omega) (Lib.hid (hT.out.keep hk.only))))
    exact owes2_nil
  case he =>
    simp only [List.drop_succ_cons, List.drop_zero]
    intro wx hox
    refine withs_of (by simp only [List.length, List.range, List.range.loop]; exact rfl) ?_
    simp only [withs, List.getElem?_cons_zero, List.getElem?_cons_succ, Option.bind, Option.getD]
    with_reducible refine all_isV ?_
    with_reducible refine all_isD ?_
    intro s1 A1 k1 c1 hv1 hw1
    with_reducible refine all_isV ?_
    with_reducible refine all_isD ?_
    intro s3 A3 k3 c3 hv3 hw3
    go_simp
    have hk := HK.out.step hox
    obtain ⟨q0, q1, q2, q3, q4, q5⟩ := hk.c6 0 rfl
    obtain ⟨f0, f1, f2, f3, f4, f5⟩ := hk.f6 0 rfl
    have HB := Lib.hid (hk.blk 0 rfl)
    have HO := Lib.hid hk.only
    clear hk hox HK
    generalize nrm x.z x.e = rx at *
    go_wp2_with fail
    refine bodyPost_ret (v := .agg #[.bool s1, .slice A1 k1 c1, .int .i64 (rx.e), .bool s3, .slice A3 k3 c3, .int .i64 (rx.e)]) (by simp [results, Tryz.results32, go_sem, q0, q1, q2, q3, q4, q5]) rfl ?_
    exact bfin hw1 hv1 hw3 hv3 (by omega) HB.out (noLimb6 _ _ _ _ _ _ _ _ _ _) HO.out (only_set6 _ _ _ _ _ _ _ _)
  case hl =>
    repeat (refine List.forall_mem_cons.2 ⟨?_, ?_⟩; first | exact isV.lasts _ | exact isD.lasts _)
    exact fun _ h => (by cases h)
set_option maxHeartbeats 3200000 in
set_option maxRecDepth 100000 in
theorem not_b {w : World} {a : Value} {x y : Dy} {N : Nat} (ha : Hid (BV w a x y)) (bx : Hid (Bnd N x)) (by_ : Hid (Bnd N y)) (hN : N ≤ 8000000) (hT : Hid (Tab6 w)) : Calls Tryz.prog 27 #[a] w (BPost (dNot y) (dNot x) w) := by
  obtain ⟨s1, A1, k1, c1, t1, B1, m1, d1, rfl, hx1, hy1⟩ := ha.out
  have hk := ((KB.start w).new 34 [.bool s1, .slice A1 k1 c1, .int .i64 x.e, .bool t1, .slice B1 m1 d1, .int .i64 y.e]).new 34 [.bool false, .slice none 0 0, .int .i64 0, .bool false, .slice none 0 0, .int .i64 0]
  simp only [World.size_alloc] at hk
  have HX := Lib.hid (hx1.only hk.only)
  have HY := Lib.hid (hy1.only hk.only)
  have HK := Lib.hid hk
  clear hk hx1 hy1 ha
  go_enter Tryz.func27, Tryz.ntmps27
  go_upto_region 1 with fail
  apply wp_region_typed_tail2 6 (by kernel_rfl) [isV _, isV _, isD (dNot y), isV _, isV _, isD (dNot x)] [[], [0], [1], [], [3], [4]] (by kernel_rfl) (by kernel_rfl) (by kernel_rfl)
  case ho =>
    simp only [List.take_succ_cons, List.take_zero]
    refine owes2_cons (fun wx hox => ?_) ?_
    · skip
      skip
      refine withs_plain rfl ?_
      simp only [withs, List.getElem?_cons_zero, List.getElem?_cons_succ, Option.bind, Option.getD]
      repeat (first | (with_reducible refine all_isV ?_) | (with_reducible refine all_isD ?_; intro sx Ax kx cx hvx hwx))
      go_simp
      exact ⟨Only.refl _ _, isV.self _ _⟩
    refine owes2_cons (fun wx hox => ?_) ?_
    · skip
      have hk := HK.out.step hox
      obtain ⟨i0, i1, i2, i3, i4, i5⟩ := hk.c6 1 rfl
      refine withs_plain rfl ?_
      simp only [withs, List.getElem?_cons_zero, List.getElem?_cons_succ, Option.bind, Option.getD]
      repeat (first | (with_reducible refine all_isV ?_) | (with_reducible refine all_isD ?_; intro sx Ax kx cx hvx hwx))
      go_simp
      exact ⟨Only.refl _ _, isV.self _ _⟩
    refine owes2_cons (fun wx hox => ?_) ?_
    · skip
      have hk := HK.out.step hox
      obtain ⟨i0, i1, i2, i3, i4, i5⟩ := hk.c6 1 rfl
      refine withs_plain rfl ?_
      simp only [withs, List.getElem?_cons_zero, List.getElem?_cons_succ, Option.bind, Option.getD]
      repeat (first | (with_reducible refine all_isV ?_) | (with_reducible refine all_isD ?_; intro sx Ax kx cx hvx hwx))
      go_simp
      (with_reducible exact grow_d (not_d (DV.of (Lib.hid (HY.out.only hox))) by_ (by omega) (Lib.hid (hT.out.keep hk.only))))
    refine owes2_cons (fun wx hox => ?_) ?_
    · skip
      skip
      refine withs_plain rfl ?_
      simp only [withs, List.getElem?_cons_zero, List.getElem?_cons_succ, Option.bind, Option.getD]
      repeat (first | (with_reducible refine all_isV ?_) | (with_reducible refine all_isD ?_; intro sx Ax kx cx hvx hwx))
      go_simp
      exact ⟨Only.refl _ _, isV.self _ _⟩
    refine owes2_cons (fun wx hox => ?_) ?_
    · skip
      have hk := HK.out.step hox
      obtain ⟨i0, i1, i2, i3, i4, i5⟩ := hk.c6 1 rfl
      refine withs_plain rfl ?_
      simp only [withs, List.getElem?_cons_zero, List.getElem?_cons_succ, Option.bind, Option.getD]
      repeat (first | (with_reducible refine all_isV ?_) | (with_reducible refine all_isD ?_; intro sx Ax kx cx hvx hwx))
      go_simp
      exact ⟨Only.refl _ _, isV.self _ _⟩
    refine owes2_cons (fun wx hox => ?_) ?_
    · skip
      have hk := HK.out.step hox
      obtain ⟨i0, i1, i2, i3, i4, i5⟩ := hk.c6 1 rfl
      refine withs_plain rfl ?_
      simp only [withs, List.getElem?_cons_zero, List.getElem?_cons_succ, Option.bind, Option.getD]
      repeat (first | (with_reducible refine all_isV ?_) | (with_reducible refine all_isD ?_; intro sx Ax kx cx hvx hwx))
      go_simp
      (with_reducible exact grow_d (not_d (DV.of (Lib.hid (HX.out.only hox))) bx (by omega) (Lib.hid (hT.out.keep hk.only))))
    exact owes2_nil
  case he =>
    simp only [List.drop_succ_cons, List.drop_zero]
    intro wx hox
    refine withs_of (by simp only [List.length, List.range, List.range.loop]; exact rfl) ?_
    simp only [withs, List.getElem?_cons_zero, List.getElem?_cons_succ, Option.bind, Option.getD]
    with_reducible refine all_isV ?_
    with_reducible refine all_isV ?_
    with_reducible refine all_isD ?_
    intro s2 A2 k2 c2 hv2 hw2
    with_reducible refine all_isV ?_
    with_reducible refine all_isV ?_
    with_reducible refine all_isD ?_
    intro s5 A5 k5 c5 hv5 hw5
    go_simp
    have hk := HK.out.step hox
    obtain ⟨q0, q1, q2, q3, q4, q5⟩ := hk.c6 0 rfl
    obtain ⟨f0, f1, f2, f3, f4, f5⟩ := hk.f6 0 rfl
    have HB := Lib.hid (hk.blk 0 rfl)
    have HO := Lib.hid hk.only
    clear hk hox HK
    generalize dNot y = rx at *
    generalize dNot x = ry at *
    go_wp2_with fail
    refine bodyPost_ret (v := .agg #[.bool s2, .slice A2 k2 c2, .int .i64 (rx.e), .bool s5, .slice A5 k5 c5, .int .i64 (ry.e)]) (by simp [results, Tryz.results27, go_sem, q0, q1, q2, q3, q4, q5]) rfl ?_
    exact bfin hw2 hv2 hw5 hv5 (by omega) HB.out (noLimb6 _ _ _ _ _ _ _ _ _ _) HO.out (only_set6 _ _ _ _ _ _ _ _)
  case hl =>
    repeat (refine List.forall_mem_cons.2 ⟨?_, ?_⟩; first | exact isV.lasts _ | exact isD.lasts _)
    exact fun _ h => (by cases h)
set_option maxHeartbeats 3200000 in
set_option maxRecDepth 100000 in
theorem add_b {w : World} {a b : Value} {x y u v : Dy} {N : Nat} (p : Int) (lo hi : Dy) (hlo : rndD (widthP p) false (dAdd x u) = lo) (hhi : rndD (widthP p) true (dAdd y v) = hi) (ha : Hid (BV w a x y)) (hb : Hid (BV w b u v)) (bx : Hid (Bnd N x)) (by_ : Hid (Bnd N y)) (bu : Hid (Bnd N u)) (bv : Hid (Bnd N v)) (hN : N ≤ 100000) (hT : Hid (Tab6 w)) : Calls Tryz.prog 20 #[a, b, .int .i64 p] w (BPost lo hi w) := by
  obtain ⟨s1, A1, k1, c1, t1, B1, m1, d1, rfl, hx1, hy1⟩ := ha.out
  obtain ⟨s2, A2, k2, c2, t2, B2, m2, d2, rfl, hx2, hy2⟩ := hb.out
  have hk := (((KB.start w).new 34 [.bool s1, .slice A1 k1 c1, .int .i64 x.e, .bool t1, .slice B1 m1 d1, .int .i64 y.e]).new 34 [.bool s2, .slice A2 k2 c2, .int .i64 u.e, .bool t2, .slice B2 m2 d2, .int .i64 v.e]).new 34 [.bool false, .slice none 0 0, .int .i64 0, .bool false, .slice none 0 0, .int .i64 0]
  simp only [World.size_alloc] at hk
  have HX1 := Lib.hid (hx1.only hk.only)
  have HX2 := Lib.hid (hy1.only hk.only)
  have HY1 := Lib.hid (hx2.only hk.only)
  have HY2 := Lib.hid (hy2.only hk.only)
  have HK := Lib.hid hk
  have HLo : Hid (rndD (widthP p) (decide ((0 : Int) ≤ -1)) (dAdd x u) = lo) := hlo
  have HHi : Hid (rndD (widthP p) (decide ((0 : Int) ≤ 1)) (dAdd y v) = hi) := hhi
  have BA : Hid (Bnd (4 * N + 1) (dAdd x u)) := bx.out.add bu.out (by omega)
  have BB_ : Hid (Bnd (4 * N + 1) (dAdd y v)) := by_.out.add bv.out (by omega)
  clear hk hx1 hy1 hx2 hy2 ha hb hlo hhi
  go_enter Tryz.func20, Tryz.ntmps20
  go_upto_region 1 with fail
  apply wp_region_typed_tail2 14 (by kernel_rfl) [isV _, isV _, isV _, isV _, isD (dAdd x u), isV _, isD lo, isV _, isV _, isV _, isV _, isD (dAdd y v), isV _, isD hi] [[], [0], [], [2], [1, 3], [], [4, 5], [], [7], [], [9], [8, 10], [], [11, 12]] (by kernel_rfl) (by kernel_rfl) (by kernel_rfl)
  case ho =>
    simp only [List.take_succ_cons, List.take_zero]
    refine owes2_cons (fun wx hox => ?_) ?_
    · skip
      skip
      refine withs_plain rfl ?_
      simp only [withs, List.getElem?_cons_zero, List.getElem?_cons_succ, Option.bind, Option.getD]
      repeat (first | (with_reducible refine all_isV ?_) | (with_reducible refine all_isD ?_; intro sx Ax kx cx hvx hwx))
      go_simp
      exact ⟨Only.refl _ _, isV.self _ _⟩
    refine owes2_cons (fun wx hox => ?_) ?_
    · skip
      have hk := HK.out.step hox
      obtain ⟨i0, i1, i2, i3, i4, i5⟩ := hk.c6 2 rfl
      obtain ⟨j0, j1, j2, j3, j4, j5⟩ := hk.c6 1 rfl
      refine withs_plain rfl ?_
      simp only [withs, List.getElem?_cons_zero, List.getElem?_cons_succ, Option.bind, Option.getD]
      repeat (first | (with_reducible refine all_isV ?_) | (with_reducible refine all_isD ?_; intro sx Ax kx cx hvx hwx))
      go_simp
      exact ⟨Only.refl _ _, isV.self _ _⟩
    refine owes2_cons (fun wx hox => ?_) ?_
    · skip
      skip
      refine withs_plain rfl ?_
      simp only [withs, List.getElem?_cons_zero, List.getElem?_cons_succ, Option.bind, Option.getD]
      repeat (first | (with_reducible refine all_isV ?_) | (with_reducible refine all_isD ?_; intro sx Ax kx cx hvx hwx))
      go_simp
      exact ⟨Only.refl _ _, isV.self _ _⟩
    refine owes2_cons (fun wx hox => ?_) ?_
    · skip
      have hk := HK.out.step hox
      obtain ⟨i0, i1, i2, i3, i4, i5⟩ := hk.c6 2 rfl
      obtain ⟨j0, j1, j2, j3, j4, j5⟩ := hk.c6 1 rfl
      refine withs_plain rfl ?_
      simp only [withs, List.getElem?_cons_zero, List.getElem?_cons_succ, Option.bind, Option.getD]
      repeat (first | (with_reducible refine all_isV ?_) | (with_reducible refine all_isD ?_; intro sx Ax kx cx hvx hwx))
      go_simp
      exact ⟨Only.refl _ _, isV.self _ _⟩
    refine owes2_cons (fun wx hox => ?_) ?_
    · skip
      have hk := HK.out.step hox
      obtain ⟨i0, i1, i2, i3, i4, i5⟩ := hk.c6 2 rfl
      obtain ⟨j0, j1, j2, j3, j4, j5⟩ := hk.c6 1 rfl
      refine withs_plain rfl ?_
      simp only [withs, List.getElem?_cons_zero, List.getElem?_cons_succ, Option.bind, Option.getD]
      repeat (first | (with_reducible refine all_isV ?_) | (with_reducible refine all_isD ?_; intro sx Ax kx cx hvx hwx))
      go_simp
      (with_reducible exact grow_d (add_d (DV.of (Lib.hid (HX1.out.only hox))) (DV.of (Lib.hid (HY1.out.only hox))) bx bu (by omega) (Lib.hid (hT.out.keep hk.only))))
    refine owes2_cons (fun wx hox => ?_) ?_
    · skip
      skip
      refine withs_plain rfl ?_
      simp only [withs, List.getElem?_cons_zero, List.getElem?_cons_succ, Option.bind, Option.getD]
      repeat (first | (with_reducible refine all_isV ?_) | (with_reducible refine all_isD ?_; intro sx Ax kx cx hvx hwx))
      go_simp
      exact ⟨Only.refl _ _, isV.self _ _⟩
    refine owes2_cons (fun wx hox => ?_) ?_
    · skip
      have hk := HK.out.step hox
      obtain ⟨i0, i1, i2, i3, i4, i5⟩ := hk.c6 2 rfl
      obtain ⟨j0, j1, j2, j3, j4, j5⟩ := hk.c6 1 rfl
      refine withs_plain rfl ?_
      simp only [withs, List.getElem?_cons_zero, List.getElem?_cons_succ, Option.bind, Option.getD]
      repeat (first | (with_reducible refine all_isV ?_) | (with_reducible refine all_isD ?_; intro sx Ax kx cx hvx hwx))
      go_simp
      (with_reducible exact grow_d (roundV_d p (-1) lo HLo.out (DV.of (by assumption)) BA (by omega) (Lib.hid (hT.out.keep hk.only))))
    refine owes2_cons (fun wx hox => ?_) ?_
    · skip
      skip
      refine withs_plain rfl ?_
      simp only [withs, List.getElem?_cons_zero, List.getElem?_cons_succ, Option.bind, Option.getD]
      repeat (first | (with_reducible refine all_isV ?_) | (with_reducible refine all_isD ?_; intro sx Ax kx cx hvx hwx))
      go_simp
      exact ⟨Only.refl _ _, isV.self _ _⟩
    refine owes2_cons (fun wx hox => ?_) ?_
    · skip
      have hk := HK.out.step hox
      obtain ⟨i0, i1, i2, i3, i4, i5⟩ := hk.c6 2 rfl
      obtain ⟨j0, j1, j2, j3, j4, j5⟩ := hk.c6 1 rfl
      refine withs_plain rfl ?_
      simp only [withs, List.getElem?_cons_zero, List.getElem?_cons_succ, Option.bind, Option.getD]
      repeat (first | (with_reducible refine all_isV ?_) | (with_reducible refine all_isD ?_; intro sx Ax kx cx hvx hwx))
      go_simp
      exact ⟨Only.refl _ _, isV.self _ _⟩
    refine owes2_cons (fun wx hox => ?_) ?_
    · skip
      skip
      refine withs_plain rfl ?_
      simp only [withs, List.getElem?_cons_zero, List.getElem?_cons_succ, Option.bind, Option.getD]
      repeat (first | (with_reducible refine all_isV ?_) | (with_reducible refine all_isD ?_; intro sx Ax kx cx hvx hwx))
      go_simp
      exact ⟨Only.refl _ _, isV.self _ _⟩
    refine owes2_cons (fun wx hox => ?_) ?_
    · skip
      have hk := HK.out.step hox
      obtain ⟨i0, i1, i2, i3, i4, i5⟩ := hk.c6 2 rfl
      obtain ⟨j0, j1, j2, j3, j4, j5⟩ := hk.c6 1 rfl
      refine withs_plain rfl ?_
      simp only [withs, List.getElem?_cons_zero, List.getElem?_cons_succ, Option.bind, Option.getD]
      repeat (first | (with_reducible refine all_isV ?_) | (with_reducible refine all_isD ?_; intro sx Ax kx cx hvx hwx))
      go_simp
      exact ⟨Only.refl _ _, isV.self _ _⟩
    refine owes2_cons (fun wx hox => ?_) ?_
    · skip
      have hk := HK.out.step hox
      obtain ⟨i0, i1, i2, i3, i4, i5⟩ := hk.c6 2 rfl
      obtain ⟨j0, j1, j2, j3, j4, j5⟩ := hk.c6 1 rfl
      refine withs_plain rfl ?_
      simp only [withs, List.getElem?_cons_zero, List.getElem?_cons_succ, Option.bind, Option.getD]
      repeat (first | (with_reducible refine all_isV ?_) | (with_reducible refine all_isD ?_; intro sx Ax kx cx hvx hwx))
      go_simp
      (with_reducible exact grow_d (add_d (DV.of (Lib.hid (HX2.out.only hox))) (DV.of (Lib.hid (HY2.out.only hox))) by_ bv (by omega) (Lib.hid (hT.out.keep hk.only))))
    refine owes2_cons (fun wx hox => ?_) ?_
    · skip
      skip
      refine withs_plain rfl ?_
      simp only [withs, List.getElem?_cons_zero, List.getElem?_cons_succ, Option.bind, Option.getD]
      repeat (first | (with_reducible refine all_isV ?_) | (with_reducible refine all_isD ?_; intro sx Ax kx cx hvx hwx))
      go_simp
      exact ⟨Only.refl _ _, isV.self _ _⟩
    refine owes2_cons (fun wx hox => ?_) ?_
    · skip
      have hk := HK.out.step hox
      obtain ⟨i0, i1, i2, i3, i4, i5⟩ := hk.c6 2 rfl
      obtain ⟨j0, j1, j2, j3, j4, j5⟩ := hk.c6 1 rfl
      refine withs_plain rfl ?_
      simp only [withs, List.getElem?_cons_zero, List.getElem?_cons_succ, Option.bind, Option.getD]
      repeat (first | (with_reducible refine all_isV ?_) | (with_reducible refine all_isD ?_; intro sx Ax kx cx hvx hwx))
      go_simp
      (with_reducible exact grow_d (roundV_d p 1 hi HHi.out (DV.of (by assumption)) BB_ (by omega) (Lib.hid (hT.out.keep hk.only))))
    exact owes2_nil
  case he =>
    simp only [List.drop_succ_cons, List.drop_zero]
    intro wx hox
    refine withs_of (by simp only [List.length, List.range, List.range.loop]; exact rfl) ?_
    simp only [withs, List.getElem?_cons_zero, List.getElem?_cons_succ, Option.bind, Option.getD]
    with_reducible refine all_isV ?_
    with_reducible refine all_isV ?_
    with_reducible refine all_isV ?_
    with_reducible refine all_isV ?_
    with_reducible refine all_isD ?_
    intro s4 A4 k4 c4 hv4 hw4
    with_reducible refine all_isV ?_
    with_reducible refine all_isD ?_
    intro s6 A6 k6 c6 hv6 hw6
    with_reducible refine all_isV ?_
    with_reducible refine all_isV ?_
    with_reducible refine all_isV ?_
    with_reducible refine all_isV ?_
    with_reducible refine all_isD ?_
    intro s11 A11 k11 c11 hv11 hw11
    with_reducible refine all_isV ?_
    with_reducible refine all_isD ?_
    intro s13 A13 k13 c13 hv13 hw13
    go_simp
    have hk := HK.out.step hox
    obtain ⟨q0, q1, q2, q3, q4, q5⟩ := hk.c6 0 rfl
    obtain ⟨f0, f1, f2, f3, f4, f5⟩ := hk.f6 0 rfl
    have HB := Lib.hid (hk.blk 0 rfl)
    have HO := Lib.hid hk.only
    clear hk hox HK
    go_wp2_with fail
    refine bodyPost_ret (v := .agg #[.bool s6, .slice A6 k6 c6, .int .i64 (lo.e), .bool s13, .slice A13 k13 c13, .int .i64 (hi.e)]) (by simp [results, Tryz.results20, go_sem, q0, q1, q2, q3, q4, q5]) rfl ?_
    exact bfin hw6 hv6 hw13 hv13 (by omega) HB.out (noLimb6 _ _ _ _ _ _ _ _ _ _) HO.out (only_set6 _ _ _ _ _ _ _ _)
  case hl =>
    repeat (refine List.forall_mem_cons.2 ⟨?_, ?_⟩; first | exact isV.lasts _ | exact isD.lasts _)
    exact fun _ h => (by cases h)
end Go.Proofs.YtigpnopeacicpaaGreatDoor

/-
  Balls: Sign, Has.
-/
namespace Go.Proofs.YtigpnopeacicpaaGreatDoor
set_option linter.unusedSimpArgs false
open Go.RowKit
set_option maxHeartbeats 3200000 in
set_option maxRecDepth 100000 in
theorem bsign_b {w : World} {a : Value} {x y : Dy} (p : Int) (ok : Bool) (hp : (if x.z.sign = y.z.sign then x.z.sign else 0) = p) (hok : decide (x.z.sign = y.z.sign) = ok) (ha : Hid (BV w a x y)) : Calls Tryz.prog 15 #[a] w fun e w' => e = .returned (.tuple #[.int .i64 p, .bool ok]) ∧ Only [] w w' := by
  obtain ⟨s1, A1, k1, c1, t1, B1, m1, d1, rfl, hx1, hy1⟩ := ha.out
  have hk := (KB.start w).new 34 [.bool s1, .slice A1 k1 c1, .int .i64 x.e, .bool t1, .slice B1 m1 d1, .int .i64 y.e]
  have HX := Lib.hid (hx1.only hk.only)
  have HY := Lib.hid (hy1.only hk.only)
  obtain ⟨i0, i1, i2, i3, i4, i5⟩ := hk.c6 0 rfl
  have HK := Lib.hid hk
  obtain ⟨sx, hsx⟩ : ∃ q, x.z.sign = q := ⟨_, rfl⟩
  obtain ⟨sy, hsy⟩ : ∃ q, y.z.sign = q := ⟨_, rfl⟩
  rw [hsx, hsy] at hp hok
  have HSx := Lib.hid hsx
  have HSy := Lib.hid hsy
  clear hk hx1 hy1 ha hsx hsy
  go_enter Tryz.func15, Tryz.ntmps15
  go_wp2_with fail
  (with_reducible refine (signV_d sx (DV.of HX) HSx.out).mono ?_)
  rintro e w2 ⟨rfl, ho⟩
  replace HK := Lib.hid (HK.out.step ho)
  replace HY := Lib.hid (HY.out.only ho)
  clear ho i0 i1 i2 i3 i4 i5
  obtain ⟨i0, i1, i2, i3, i4, i5⟩ := HK.out.c6 0 rfl
  go_wp2_with fail
  (with_reducible refine (signV_d sy (DV.of HY) HSy.out).mono ?_)
  rintro e w3 ⟨rfl, ho⟩
  replace HK := Lib.hid (HK.out.step ho)
  clear ho i0 i1 i2 i3 i4 i5
  by_cases h : sx = sy
  · rw [if_pos h] at hp
    rw [decide_eq_true h] at hok
    subst hp hok
    have hb : (sx != sy) = false := by rw [h]; simp
    clear h
    go_wp2_with fail
    go_ret2
    exact ⟨rfl, HK.out.only⟩
  · rw [if_neg h] at hp
    rw [decide_eq_false h] at hok
    subst hp hok
    have hb : (sx != sy) = true := by rw [bne_iff_ne]; exact h
    clear h
    go_wp2_with fail
    go_ret2
    exact ⟨rfl, HK.out.only⟩
end Go.Proofs.YtigpnopeacicpaaGreatDoor
