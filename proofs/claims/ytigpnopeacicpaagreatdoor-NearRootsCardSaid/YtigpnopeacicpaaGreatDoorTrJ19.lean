/-
  Joined texts.
-/
import Derived.Test.YtigpnopeacicpaaGreatDoorTrGTyp
import Derived.Test.YtigpnopeacicpaaGreatDoorTrJ17
import Derived.Test.YtigpnopeacicpaaGreatDoorTrDyP
/-
  Typed regions: new variables made in one region lie apart from each other.
-/
namespace Go.Proofs.YtigpnopeacicpaaGreatDoor
open Go.RowKit
section
variable {P : Program}
section
variable {l : List Oper} {Ps : List VP} {a0 a : Act} {w0 w : World} {listed : Array Bool} {Q : Exit → Act → World → Prop} {jss : List (List Nat)}
def allocB (l : List Oper) (al : List Nat) (T : TypeId) : Bool := al.all fun k => match l[k]? with
  | none => false
  | some o => o.guard.isNone && (match o.op with | .alloc t => t == T | _ => false) && (match o.dst with | some _ => true | none => false)
def Fresh (l : List Oper) (al : List Nat) (listed : Array Bool) (a : Act) (w : World) : Prop := ∃ f : Nat → Nat, (∀ i ∈ al, listed.getD i false = true → f i < w.heap.size ∧ ∀ d, dstOf l i = some d → a.tmps.getD d undef = .pointer (some ⟨f i, 0, none⟩)) ∧ (∀ i ∈ al, ∀ j ∈ al, listed.getD i false = true → listed.getD j false = true → i ≠ j → f i ≠ f j)
theorem Fresh.step {al : List Nat} {T : TypeId} {k : Nat} {o : Oper} {u : Value} {w' : World} (h : Fresh l al listed a w) (_ : allocB l al T = true) (hsp : ∀ k o, l[k]? = some o → (∀ d, o.dst = some d → d < a0.tmps.size ∧ ∀ i, i < k → dstOf l i ≠ some d) ∧ (∀ i ∈ waits o, i < k) ∧ (∀ i d, dstOf l i = some d → i ∈ waits o ∨ d ∉ o.looksAt l.toArray))
    (hw : Way l Ps a0 w0 listed a w) (hk : l[k]? = some o) (hu : listed.getD k false = false) (ho : Only [] w w') (hn : k ∈ al → u = .pointer (some ⟨w.heap.size, 0, none⟩) ∧ w.heap.size < w'.heap.size) : Fresh l al (listed.setIfInBounds k true) (a.put o.dst u) w' := by
  obtain ⟨f, h1, h2⟩ := h
  have hlt : k < l.length := (List.getElem?_eq_some_iff.1 hk).1
  have hll : k < listed.size := by rw [hw.lsize]; exact hlt
  have hdk : dstOf l k = o.dst := by unfold dstOf; rw [hk]; rfl
  have hdiff : ∀ i d, i ≠ k → dstOf l i = some d → o.dst ≠ some d := fun i d hne hi hc => by
    unfold dstOf at hi
    cases hx : l[i]? with
    | none => rw [hx] at hi; cases hi
    | some x =>
      rw [hx] at hi
      rcases Nat.lt_or_gt_of_ne hne with h1 | h1
      · exact ((hsp k o hk).1 d hc).2 i h1 (by unfold dstOf; rw [hx]; exact hi)
      · exact ((hsp i x hx).1 d hi).2 k h1 (by rw [hdk]; exact hc)
  have old : ∀ i, i ≠ k → (listed.setIfInBounds k true).getD i false = true → listed.getD i false = true := fun i hik hi => by
    rw [getD_set _ _ _ hll] at hi
    have : k ≠ i := fun hc => hik hc.symm
    simpa [this] using hi
  have keep : ∀ i d, i ≠ k → dstOf l i = some d → (a.put o.dst u).tmps.getD d undef = a.tmps.getD d undef := fun i d hik hd => by
    cases hdo : o.dst with
    | none => rfl
    | some d' =>
      rw [getD_put, if_neg]
      intro hc
      exact hdiff i d hik hd (by rw [hdo, hc.1])
  refine ⟨fun i => if i = k then w.heap.size else f i, fun i hi hli => ?_, fun i hi j hj hli hlj hij => ?_⟩
  · dsimp only
    by_cases hik : i = k
    · subst hik
      rw [if_pos rfl]
      obtain ⟨e1, e2⟩ := hn hi
      refine ⟨e2, fun d hd => ?_⟩
      rw [hdk] at hd
      rw [hd, getD_put, if_pos ⟨rfl, by rw [hw.size]; exact ((hsp i o hk).1 d hd).1⟩]
      exact e1
    · rw [if_neg hik]
      obtain ⟨e1, e2⟩ := h1 i hi (old i hik hli)
      exact ⟨Nat.lt_of_lt_of_le e1 ho.size, fun d hd => by rw [keep i d hik hd]; exact e2 d hd⟩
  · dsimp only
    by_cases hik : i = k
    · have hjk : j ≠ k := fun hc => hij (hik.trans hc.symm)
      rw [if_pos hik, if_neg hjk]
      have := (h1 j hj (old j hjk hlj)).1
      omega
    · by_cases hjk : j = k
      · rw [if_neg hik, if_pos hjk]
        have := (h1 i hi (old i hik hli)).1
        omega
      · rw [if_neg hik, if_neg hjk]
        exact h2 i hi j hj (old i hik hli) (old j hjk hlj) hij
end
end
end Go.Proofs.YtigpnopeacicpaaGreatDoor

/-
  DyadLaws: what is not light.
-/
namespace Go.Proofs.YtigpnopeacicpaaGreatDoor
set_option linter.unusedSimpArgs false
open Go.RowKit

theorem cmpV_d {w : World} {a b : Value} {x y : Dy} {N : Nat} (c : Int) (ha : Hid (DV w a x)) (hb : Hid (DV w b y)) (hx : Hid (Bnd N x)) (hy : Hid (Bnd N y)) (hN : N ≤ 2000000) (hc : cmpQ x.q y.q = c) : Calls Tryz.prog 42 #[a, b] w fun e w' => e = .returned (.int .i64 c) ∧ Only [] w w' := hc ▸ cmp_d ha hb hx hy hN

theorem mulV_d {w : World} {a b : Value} {x y : Dy} {N : Nat} (r : Dy) (hr : dMul x y = r) (ha : Hid (DV w a x)) (hb : Hid (DV w b y)) (hx : Hid (Bnd N x)) (hy : Hid (Bnd N y)) (hN : N ≤ 2000000) (hT : Hid (Tab6 w)) : Calls Tryz.prog 41 #[a, b] w (DPost r w) := hr ▸ mul_d ha hb hx hy hN hT

end Go.Proofs.YtigpnopeacicpaaGreatDoor

/-
  Dyads: roots, rounding, whatever comes in.
-/
namespace Go.Proofs.YtigpnopeacicpaaGreatDoor
set_option linter.unusedSimpArgs false
open Go.RowKit

theorem sqrtA_d {w : World} {a : Value} {x : Dy} {N : Nat} (p dir : Int) (ha : Hid (DV w a x)) (hx : Hid (Bnd N x)) (hN : N ≤ 100000) (hT : Hid (Tab6 w)) : Calls Tryz.prog 54 #[a, .int .i64 p, .int .i64 dir] w (QDPost (sqrtQ (widthP p) (decide (0 ≤ dir)) x) (decide (0 ≤ x.z)) w) := by
  unfold sqrtQ
  by_cases h1 : x.z < 0
  · rw [if_pos (show x.z ≤ 0 by omega), decide_eq_false (show ¬ 0 ≤ x.z by omega)]
    exact sqrtn_d p dir ha h1
  · rw [decide_eq_true (show 0 ≤ x.z by omega)]
    by_cases h2 : x.z = 0
    · rw [if_pos (by omega)]
      exact sqrtz_d p dir ha h2
    · rw [if_neg (by omega)]
      exact sqrt_d p dir ha hx hN (by omega) hT
theorem sqrtV_d {w : World} {a : Value} {x : Dy} {N : Nat} (p dir : Int) (r : Dy) (ok : Bool) (hr : sqrtQ (widthP p) (decide (0 ≤ dir)) x = r) (hok : decide (0 ≤ x.z) = ok) (ha : Hid (DV w a x)) (hx : Hid (Bnd N x)) (hN : N ≤ 100000) (hT : Hid (Tab6 w)) : Calls Tryz.prog 54 #[a, .int .i64 p, .int .i64 dir] w (QDPost r ok w) := hr ▸ hok ▸ sqrtA_d p dir ha hx hN hT
theorem roundV_d {w : World} {a : Value} {x : Dy} {N : Nat} (p dir : Int) (r : Dy) (hr : rndD (widthP p) (decide (0 ≤ dir)) x = r) (ha : Hid (DV w a x)) (hx : Hid (Bnd N x)) (hN : N ≤ 1000000) (hT : Hid (Tab6 w)) : Calls Tryz.prog 61 #[a, .int .i64 p, .int .i64 dir] w (DPost r w) := hr ▸ round_d p dir ha hx hN hT
theorem bnd_zero (N : Nat) : Bnd N ⟨0, 0⟩ := ⟨Nat.pow_pos (by decide), by show -(N : Int) ≤ 0; omega, by show (0 : Int) ≤ N; omega⟩
theorem sqrtQ_bnd {P N M : Nat} {up : Bool} {x : Dy} (hx : Bnd N x) (hM : 9 * N + 16 * P + 60 ≤ M) : Bnd M (sqrtQ P up x) := by
  unfold sqrtQ
  split
  · exact bnd_zero _
  · exact sqrt_bnd hx hM

end Go.Proofs.YtigpnopeacicpaaGreatDoor

/-
  Boxes of any shape at hand, each in a block of its own: made, taken in, written; whole numbers at hand beside them.
-/
namespace Go.Proofs.YtigpnopeacicpaaGreatDoor
set_option linter.unusedSimpArgs false
open Go.RowKit

structure GB (w0 w : World) (L : List EB) : Prop where
  only : Only [] w0 w
  all : ∀ (i : Nat) (x : EB), L[i]? = some x → Blk w x.g x.t x.cs ∧ NoLimb x.cs
  base : ∀ (i : Nat) (x : EB), L[i]? = some x → w0.heap.size ≤ x.g
  ne : ∀ (i j : Nat) (x y : EB), i ≠ j → L[i]? = some x → L[j]? = some y → x.g ≠ y.g
theorem GB.start (w : World) : GB w w [] := ⟨Only.refl _ _, fun i x h => by simp at h, fun i x h => by simp at h, fun i j x y _ h => by simp at h⟩
theorem GB.step {w0 w w' : World} {L : List EB} (h : GB w0 w L) (ho : Only [] w w') : GB w0 w' L := ⟨h.only.nil_trans ho, fun i x hx => ⟨(h.all i x hx).1.only ho (by simp), (h.all i x hx).2⟩, h.base, h.ne⟩
theorem GB.lt {w0 w : World} {L : List EB} (h : GB w0 w L) (i : Nat) (y : EB) (hy : L[i]? = some y) : y.g < w.heap.size := (h.all i y hy).1.lt
theorem GB.take {w0 w w' : World} {L : List EB} (h : GB w0 w L) {g : Nat} {t : TypeId} {cs : List Value} (ho : Only [g] w w') (hb : Blk w' g t cs) (hn : NoLimb cs) (hg : w0.heap.size ≤ g) (hne : ∀ (i : Nat) (y : EB), L[i]? = some y → y.g ≠ g) : GB w0 w' (⟨g, t, cs⟩ :: L) := by
  refine ⟨h.only.trans ho (fun k hk => .inr (by simp at hk; omega)), fun i y hy => ?_, fun i y hy => ?_, fun i j y z hij hy hz => ?_⟩
  · rcases i with _ | i
    · obtain rfl := (Option.some.inj hy).symm
      exact ⟨hb, hn⟩
    · obtain ⟨h1, h2⟩ := h.all i y hy
      exact ⟨h1.only ho (by simp; exact hne i y hy), h2⟩
  · rcases i with _ | i
    · obtain rfl := (Option.some.inj hy).symm
      exact hg
    · exact h.base i y hy
  · rcases i with _ | i
    · rcases j with _ | j
      · omega
      · obtain rfl := (Option.some.inj hy).symm
        exact fun hc => hne j z hz hc.symm
    · rcases j with _ | j
      · obtain rfl := (Option.some.inj hz).symm
        exact hne i y hy
      · exact h.ne i j y z (by omega) hy hz
theorem GB.new {w0 w : World} {L : List EB} (h : GB w0 w L) (t : TypeId) (cs : List Value) (hn : NoLimb cs) : GB w0 (w.alloc (.cells cs.toArray t)) (⟨w.heap.size, t, cs⟩ :: L) :=
  h.take ((Only.refl _ w).alloc _) (Blk.new w t cs) hn h.only.size (fun i y hy => by have := h.lt i y hy; omega)
theorem GB.put {w0 w w' : World} {L : List EB} (h : GB w0 w L) (i : Nat) {g : Nat} {t : TypeId} {cs cs' : List Value} (hi : L[i]? = some ⟨g, t, cs⟩) (ho : Only [g] w w') (hb : Blk w' g t cs') (hn : NoLimb cs') : GB w0 w' (L.set i ⟨g, t, cs'⟩) := by
  have hg : w0.heap.size ≤ g := h.base i _ hi
  have hlen : i < L.length := (List.getElem?_eq_some_iff.1 hi).1
  have hne : ∀ (j : Nat) (y : EB), L[j]? = some y → j ≠ i → y.g ≠ g := fun j y hy hj => h.ne j i y _ hj hy hi
  have key : ∀ (j : Nat) (y : EB), (L.set i ⟨g, t, cs'⟩)[j]? = some y → (j = i ∧ y = ⟨g, t, cs'⟩) ∨ (j ≠ i ∧ L[j]? = some y) := fun j y hy => by
    by_cases hij : i = j
    · subst hij
      rw [List.getElem?_set_self hlen] at hy
      exact .inl ⟨rfl, (Option.some.inj hy).symm⟩
    · rw [List.getElem?_set_ne hij] at hy
      exact .inr ⟨Ne.symm hij, hy⟩
  have gk : ∀ (j : Nat) (y : EB), (L.set i ⟨g, t, cs'⟩)[j]? = some y → ∃ y', L[j]? = some y' ∧ y'.g = y.g := fun j y hy => by
    rcases key j y hy with ⟨rfl, rfl⟩ | ⟨_, h2⟩
    · exact ⟨_, hi, rfl⟩
    · exact ⟨_, h2, rfl⟩
  refine ⟨h.only.trans ho (fun k hk => .inr (by simp at hk; omega)), fun j y hy => ?_, fun j y hy => ?_, fun j l y z hjl hy hz => ?_⟩
  · rcases key j y hy with ⟨rfl, rfl⟩ | ⟨h1, h2⟩
    · exact ⟨hb, hn⟩
    · obtain ⟨h3, h4⟩ := h.all j y h2
      exact ⟨h3.only ho (by simp; exact hne j y h2 h1), h4⟩
  · obtain ⟨y', h1, h2⟩ := gk j y hy
    have := h.base j y' h1; omega
  · obtain ⟨y', h1, h2⟩ := gk j y hy
    obtain ⟨z', h3, h4⟩ := gk l z hz
    have := h.ne j l y' z' hjl h1 h3; omega
theorem GB.blk {w0 w : World} {L : List EB} (h : Hid (GB w0 w L)) (i : Nat) {g : Nat} {t : TypeId} {cs : List Value} (hi : L[i]? = some ⟨g, t, cs⟩) : Blk w g t cs := (h.out.all i _ hi).1
theorem GB.c3 {w0 w : World} {L : List EB} (h : Hid (GB w0 w L)) (i : Nat) {g : Nat} {t : TypeId} {a b c : Value} (hi : L[i]? = some ⟨g, t, [a, b, c]⟩) :
    w.cell? ⟨g, 0, none⟩ = some a ∧ w.cell? ⟨g, 1, none⟩ = some b ∧ w.cell? ⟨g, 2, none⟩ = some c :=
  have hb := GB.blk h i hi
  ⟨hb.cell 0, hb.cell 1, hb.cell 2⟩
theorem GB.f3 {w0 w : World} {L : List EB} (h : Hid (GB w0 w L)) (i : Nat) {g : Nat} {t : TypeId} {cs : List Value} (hi : L[i]? = some ⟨g, t, cs⟩) :
    w.frozen? ⟨g, 0, none⟩ = false ∧ w.frozen? ⟨g, 1, none⟩ = false ∧ w.frozen? ⟨g, 2, none⟩ = false :=
  have hb := GB.blk h i hi
  ⟨hb.frozen 0, hb.frozen 1, hb.frozen 2⟩
theorem GB.c6 {w0 w : World} {L : List EB} (h : Hid (GB w0 w L)) (i : Nat) {g : Nat} {t : TypeId} {a b c d e f : Value} (hi : L[i]? = some ⟨g, t, [a, b, c, d, e, f]⟩) :
    w.cell? ⟨g, 0, none⟩ = some a ∧ w.cell? ⟨g, 1, none⟩ = some b ∧ w.cell? ⟨g, 2, none⟩ = some c ∧ w.cell? ⟨g, 3, none⟩ = some d ∧ w.cell? ⟨g, 4, none⟩ = some e ∧ w.cell? ⟨g, 5, none⟩ = some f :=
  have hb := GB.blk h i hi
  ⟨hb.cell 0, hb.cell 1, hb.cell 2, hb.cell 3, hb.cell 4, hb.cell 5⟩
theorem GB.f6 {w0 w : World} {L : List EB} (h : Hid (GB w0 w L)) (i : Nat) {g : Nat} {t : TypeId} {cs : List Value} (hi : L[i]? = some ⟨g, t, cs⟩) :
    w.frozen? ⟨g, 0, none⟩ = false ∧ w.frozen? ⟨g, 1, none⟩ = false ∧ w.frozen? ⟨g, 2, none⟩ = false ∧ w.frozen? ⟨g, 3, none⟩ = false ∧ w.frozen? ⟨g, 4, none⟩ = false ∧ w.frozen? ⟨g, 5, none⟩ = false :=
  have hb := GB.blk h i hi
  ⟨hb.frozen 0, hb.frozen 1, hb.frozen 2, hb.frozen 3, hb.frozen 4, hb.frozen 5⟩
theorem GB.tail {w0 w : World} {L : List EB} {b : EB} (h : GB w0 w (b :: L)) : GB w0 w L :=
  ⟨h.only, fun i x hx => h.all (i + 1) x hx, fun i x hx => h.base (i + 1) x hx, fun i j x y hij hx hy => h.ne (i + 1) (j + 1) x y (by omega) hx hy⟩
structure WX where
  s : Bool
  a : Option Addr
  k : Nat
  c : Nat
  z : Int
def WL (w : World) (L : List WX) : Prop := ∀ (i : Nat) (y : WX), L[i]? = some y → IV w (.agg #[.bool y.s, .slice y.a y.k y.c]) y.z
theorem WL.nil (w : World) : WL w [] := fun i y h => by simp at h
theorem WL.cons {w : World} {L : List WX} (h : WL w L) {s : Bool} {A : Option Addr} {k c : Nat} {z : Int} (hv : Hid (IV w (.agg #[.bool s, .slice A k c]) z)) : WL w (⟨s, A, k, c, z⟩ :: L) := fun i y hy => by
  rcases i with _ | i
  · obtain rfl := (Option.some.inj hy).symm; exact hv.out
  · exact h i y hy
theorem WL.step {w w' : World} {L : List WX} (h : WL w L) (ho : Only [] w w') : WL w' L := fun i y hy => (h i y hy).only ho
theorem WL.far {w w' : World} {L : List WX} (h : WL w L) {g : Nat} {t : TypeId} {cs : List Value} (ho : Only [g] w w') (hb : Blk w g t cs) (hn : NoLimb cs) : WL w' L := fun i z hz =>
  (h i z hz).farS ho (fun g' hg' => by rw [List.mem_singleton] at hg'; subst hg'; exact (h i z hz).far_blk hb hn)
theorem WL.at {w : World} {L : List WX} (h : Hid (WL w L)) (i : Nat) {s : Bool} {A : Option Addr} {k c : Nat} {z : Int} (hi : L[i]? = some ⟨s, A, k, c, z⟩) : Hid (IV w (.agg #[.bool s, .slice A k c]) z) := h.out i _ hi
theorem WL.dv {w : World} {L : List WX} (h : Hid (WL w L)) (i : Nat) {s : Bool} {A : Option Addr} {k c : Nat} {x : Dy} (hi : L[i]? = some ⟨s, A, k, c, x.z⟩) : Hid (DV w (.agg #[.bool s, .slice A k c, .int .i64 x.e]) x) := DV.of (WL.at h i hi)
end Go.Proofs.YtigpnopeacicpaaGreatDoor

/-
  Balls: what a struct reads as; At, Not, Add, Sub, Sign, Has.
-/
namespace Go.Proofs.YtigpnopeacicpaaGreatDoor
set_option linter.unusedSimpArgs false
open Go.RowKit

def BV (w : World) (v : Value) (x y : Dy) : Prop := ∃ s A k c t B m d, v = .agg #[.bool s, .slice A k c, .int .i64 x.e, .bool t, .slice B m d, .int .i64 y.e] ∧ IV w (.agg #[.bool s, .slice A k c]) x.z ∧ IV w (.agg #[.bool t, .slice B m d]) y.z
theorem BV.only {w w' : World} {v : Value} {x y : Dy} (h : BV w v x y) (ho : Only [] w w') : BV w' v x y := by
  obtain ⟨s, A, k, c, t, B, m, d, h1, h2, h3⟩ := h
  exact ⟨s, A, k, c, t, B, m, d, h1, h2.only ho, h3.only ho⟩
def BPost (x y : Dy) (w : World) (e : Ending) (w' : World) : Prop := ∃ s A k c t B m d, e = .returned (.agg #[.bool s, .slice A k c, .int .i64 x.e, .bool t, .slice B m d, .int .i64 y.e]) ∧ Cn s k x.z ∧ IV w' (.agg #[.bool s, .slice A k c]) x.z ∧ Cn t m y.z ∧ IV w' (.agg #[.bool t, .slice B m d]) y.z ∧ Only [] w w'
theorem KB.c6 {w0 w : World} {L : List EB} (h : KB w0 w L) (i : Nat) {g : Nat} {t : TypeId} {a b c d e f : Value} (hi : L[i]? = some ⟨g, t, [a, b, c, d, e, f]⟩) :
    w.cell? ⟨g, 0, none⟩ = some a ∧ w.cell? ⟨g, 1, none⟩ = some b ∧ w.cell? ⟨g, 2, none⟩ = some c ∧ w.cell? ⟨g, 3, none⟩ = some d ∧ w.cell? ⟨g, 4, none⟩ = some e ∧ w.cell? ⟨g, 5, none⟩ = some f :=
  ⟨(h.blk i hi).cell 0, (h.blk i hi).cell 1, (h.blk i hi).cell 2, (h.blk i hi).cell 3, (h.blk i hi).cell 4, (h.blk i hi).cell 5⟩
theorem KB.f6 {w0 w : World} {L : List EB} (h : KB w0 w L) (i : Nat) {g : Nat} {t : TypeId} {cs : List Value} (hi : L[i]? = some ⟨g, t, cs⟩) :
    w.frozen? ⟨g, 0, none⟩ = false ∧ w.frozen? ⟨g, 1, none⟩ = false ∧ w.frozen? ⟨g, 2, none⟩ = false ∧ w.frozen? ⟨g, 3, none⟩ = false ∧ w.frozen? ⟨g, 4, none⟩ = false ∧ w.frozen? ⟨g, 5, none⟩ = false :=
  ⟨(h.blk i hi).frozen 0, (h.blk i hi).frozen 1, (h.blk i hi).frozen 2, (h.blk i hi).frozen 3, (h.blk i hi).frozen 4, (h.blk i hi).frozen 5⟩
theorem noLimb6 (s : Bool) (A : Option Addr) (k c : Nat) (e : Int) (t : Bool) (B : Option Addr) (m d : Nat) (f : Int) : NoLimb [.bool s, .slice A k c, .int .i64 e, .bool t, .slice B m d, .int .i64 f] := fun o n h => by
  rcases o with _ | _ | _ | _ | _ | _ | o <;> simp at h
theorem only_set6 (w : World) (b : Nat) (u0 u1 u2 u3 u4 u5 : Value) : Only [b] w ((((((w.setCell ⟨b, 0, none⟩ u0).setCell ⟨b, 1, none⟩ u1).setCell ⟨b, 2, none⟩ u2).setCell ⟨b, 3, none⟩ u3).setCell ⟨b, 4, none⟩ u4).setCell ⟨b, 5, none⟩ u5) :=
  ((((((Only.refl [b] w).setCell (.inl (by simp)) u0).setCell (.inl (by simp)) u1).setCell (.inl (by simp)) u2).setCell (.inl (by simp)) u3).setCell (.inl (by simp)) u4).setCell (.inl (by simp)) u5
theorem bfin {x y : Dy} {w w1 w2 : World} {b : Nat} {t : TypeId} {cs : List Value} {s s' : Bool} {A A' : Option Addr} {k c k' c' : Nat} (hc : Hid (Cn s k x.z)) (hv : Hid (IV w1 (.agg #[.bool s, .slice A k c]) x.z)) (hc' : Hid (Cn s' k' y.z)) (hv' : Hid (IV w1 (.agg #[.bool s', .slice A' k' c']) y.z)) (hb : w.heap.size ≤ b) (hB : Blk w1 b t cs) (hn : NoLimb cs) (ho : Only [] w w1) (ho2 : Only [b] w1 w2) :
    BPost x y w (.returned (.agg #[.bool s, .slice A k c, .int .i64 x.e, .bool s', .slice A' k' c', .int .i64 y.e])) w2 :=
  ⟨s, A, k, c, s', A', k', c', rfl, hc.out, hv.out.farS ho2 (fun g hg => by rw [List.mem_singleton] at hg; subst hg; exact hv.out.far_blk hB hn), hc'.out, hv'.out.farS ho2 (fun g hg => by rw [List.mem_singleton] at hg; subst hg; exact hv'.out.far_blk hB hn), ho.trans ho2 (fun k hk => .inr (by simp at hk; omega))⟩
set_option maxHeartbeats 3200000 in
set_option maxRecDepth 100000 in
theorem same_d {w : World} {a : Value} {x : Dy} {N : Nat} (ha : Hid (DV w a x)) (bx : Hid (Bnd N x)) (hN : N ≤ 8000000) (hT : Hid (Tab6 w)) : Calls Tryz.prog 69 #[a] w (DPost (nrm x.z x.e) w) := by
  have he := lim_i64 bx.out hN
  have HBt : Hid (bitsN x.z.natAbs ≤ 16777216) := bits_few bx.out.z (by omega)
  obtain ⟨s, A, k, c, rfl, hv⟩ := ha.out
  have hk := ((KB.start w).new 32 [.bool s, .slice A k c, .int .i64 x.e]).new 32 [.bool false, .slice none 0 0, .int .i64 0]
  simp only [World.size_alloc] at hk
  obtain ⟨i0, i1, i2, -, -, -⟩ := hk.c3 1 rfl
  have HV := Lib.hid (hv.only hk.only)
  have HK := Lib.hid hk
  clear hk hv ha
  go_enter Tryz.func69, Tryz.ntmps69
  go_wp2_with fail
  (with_reducible refine (make_d HV HBt (by omega) (by omega) (Lib.hid (hT.out.keep HK.out.only))).mono ?_)
  rintro e w2 ⟨s2, A2, k2, c2, rfl, hs2, hk2, hv2, ho⟩
  replace HK := Lib.hid (HK.out.step ho)
  have HC : Hid (Cn s2 k2 (nrm x.z x.e).z) := ⟨hs2, hk2⟩
  have HV2 := Lib.hid hv2
  obtain ⟨c0, c1', c2', f0, f1, f2⟩ := HK.out.c3 0 rfl
  clear ho hs2 hk2 hv2 HV i0 i1 i2
  generalize nrm x.z x.e = r at *
  go_wp2_with fail
  refine bodyPost_ret (v := .agg #[.bool s2, .slice A2 k2 c2, .int .i64 (r.e)]) (by simp [results, Tryz.results69, go_sem, c0, c1', c2']) rfl ?_
  exact dfin HC HV2 (by omega) (HK.out.blk 0 rfl) (noLimb3 _ _ _ _ _) HK.out.only (only_set3 _ _ _ _ _)
set_option maxHeartbeats 3200000 in
set_option maxRecDepth 100000 in
theorem at_b {w : World} {a : Value} {x : Dy} {N : Nat} (ha : Hid (DV w a x)) (bx : Hid (Bnd N x)) (hN : N ≤ 8000000) (hT : Hid (Tab6 w)) : Calls Tryz.prog 32 #[a] w (BPost (nrm x.z x.e) (nrm x.z x.e) w) := by
  obtain ⟨s, A, k, c, rfl, hv⟩ := ha.out
  have hk := ((KB.start w).new 32 [.bool s, .slice A k c, .int .i64 x.e]).new 34 [.bool false, .slice none 0 0, .int .i64 0, .bool false, .slice none 0 0, .int .i64 0]
  simp only [World.size_alloc] at hk
  have HX : Hid (DV _ (.agg #[.bool s, .slice A k c, .int .i64 x.e]) x) := ha.out.only hk.only
  have HK := Lib.hid hk
  clear hk hv ha
  go_enter Tryz.func32, Tryz.ntmps32
  go_upto_region 1 with fail
  apply wp_region_typed_tail2 4 (by kernel_rfl) [isV _, isD (nrm x.z x.e), isV _, isD (nrm x.z x.e)] [[], [0], [], [2]] (by kernel_rfl) (by kernel_rfl) (by kernel_rfl)
  case ho =>
    simp only [List.take_succ_cons, List.take_zero]
    refine owes2_cons (fun wx hox => ?_) ?_
    · skip
      have hk := HK.out.step hox
      obtain ⟨i0, i1, i2, -, -, -⟩ := hk.c3 1 rfl
      refine withs_plain rfl ?_
      simp only [withs, List.getElem?_cons_zero, List.getElem?_cons_succ, Option.bind, Option.getD]
      repeat (first | (with_reducible refine all_isV ?_) | (with_reducible refine all_isD ?_; intro sx Ax kx cx hvx hwx))
      go_simp
      exact ⟨Only.refl _ _, isV.self _ _⟩
    refine owes2_cons (fun wx hox => ?_) ?_
    · skip
      have hk := HK.out.step hox
      obtain ⟨i0, i1, i2, -, -, -⟩ := hk.c3 1 rfl
      refine withs_plain rfl ?_
      simp only [withs, List.getElem?_cons_zero, List.getElem?_cons_succ, Option.bind, Option.getD]
      repeat (first | (with_reducible refine all_isV ?_) | (with_reducible refine all_isD ?_; intro sx Ax kx cx hvx hwx))
      go_simp
      (with_reducible exact grow_d (same_d (Lib.hid (HX.out.only hox)) bx (by omega) (Lib.hid (hT.out.keep hk.only))))
    refine owes2_cons (fun wx hox => ?_) ?_
    · skip
      have hk := HK.out.step hox
      obtain ⟨i0, i1, i2, -, -, -⟩ := hk.c3 1 rfl
      refine withs_plain rfl ?_
      simp only [withs, List.getElem?_cons_zero, List.getElem?_cons_succ, Option.bind, Option.getD]
      repeat (first | (with_reducible refine all_isV ?_) | (with_reducible refine all_isD ?_; intro sx Ax kx cx hvx hwx))
      go_simp
      exact ⟨Only.refl _ _, isV.self _ _⟩
    refine owes2_cons (fun wx hox => ?_) ?_
    · skip
      have hk := HK.out.step hox
      obtain ⟨i0, i1, i2, -, -, -⟩ := hk.c3 1 rfl
      refine withs_plain rfl ?_
      simp only [withs, List.getElem?_cons_zero, List.getElem?_cons_succ, Option.bind, Option.getD]
      repeat (first | (with_reducible refine all_isV ?_) | (with_reducible refine all_isD ?_; intro sx Ax kx cx hvx hwx))
      go_simp
      (with_reducible exact grow_d (same_d (Lib.hid (HX.out.only hox)) bx (by omega) (Lib.hid (hT.out.keep hk.only))))
    exact owes2_nil
  case he =>
    simp only [List.drop_succ_cons, List.drop_zero]
    intro wx hox
    refine withs_of (by simp only [List.length, List.range, List.range.loop]; exact rfl) ?_
    simp only [withs, List.getElem?_cons_zero, List.getElem?_cons_succ, Option.bind, Option.getD]
    with_reducible refine all_isV ?_
    with_reducible refine all_isD ?_
    intro s1 A1 k1 c1 hv1 hw1
    with_reducible refine all_isV ?_
    with_reducible refine all_isD ?_
    intro s3 A3 k3 c3 hv3 hw3
    go_simp
    have hk := HK.out.step hox
    obtain ⟨q0, q1, q2, q3, q4, q5⟩ := hk.c6 0 rfl
    obtain ⟨f0, f1, f2, f3, f4, f5⟩ := hk.f6 0 rfl
    have HB := Lib.hid (hk.blk 0 rfl)
    have HO := Lib.hid hk.only
    clear hk hox HK
    generalize nrm x.z x.e = rx at *
    go_wp2_with fail
    refine bodyPost_ret (v := .agg #[.bool s1, .slice A1 k1 c1, .int .i64 (rx.e), .bool s3, .slice A3 k3 c3, .int .i64 (rx.e)]) (by simp [results, Tryz.results32, go_sem, q0, q1, q2, q3, q4, q5]) rfl ?_
    exact bfin hw1 hv1 hw3 hv3 (by omega) HB.out (noLimb6 _ _ _ _ _ _ _ _ _ _) HO.out (only_set6 _ _ _ _ _ _ _ _)
  case hl =>
    repeat (refine List.forall_mem_cons.2 ⟨?_, ?_⟩; first | exact isV.lasts _ | exact isD.lasts _)
    exact fun _ h => (by cases h)
end Go.Proofs.YtigpnopeacicpaaGreatDoor

/-
  Balls: Sign, Has.
-/
namespace Go.Proofs.YtigpnopeacicpaaGreatDoor
set_option linter.unusedSimpArgs false
open Go.RowKit
theorem cmpQ_le {a b : Rat} : cmpQ a b ≤ 0 ↔ a ≤ b := by
  rcases rat_tri a b with h | h | h
  · rw [cmpQ_lt h]; exact ⟨fun _ => by grind, fun _ => by decide⟩
  · rw [cmpQ_eq h]; exact ⟨fun _ => by grind, fun _ => by decide⟩
  · rw [cmpQ_gt h]; exact ⟨fun hc => absurd hc (by decide), fun hc => absurd hc (by grind)⟩
set_option maxHeartbeats 3200000 in
set_option maxRecDepth 100000 in
theorem has_b {w : World} {a b : Value} {x y z : Dy} {N : Nat} (r : Bool) (hr : (decide (x.q ≤ z.q) && decide (z.q ≤ y.q)) = r) (ha : Hid (BV w a x y)) (hb : Hid (DV w b z)) (bx : Hid (Bnd N x)) (by_ : Hid (Bnd N y)) (bz : Hid (Bnd N z)) (hN : N ≤ 2000000) : Calls Tryz.prog 29 #[a, b] w fun e w' => e = .returned (.bool r) ∧ Only [] w w' := by
  obtain ⟨s1, A1, k1, c1, t1, B1, m1, d1, rfl, hx1, hy1⟩ := ha.out
  obtain ⟨s2, A2, k2, c2, rfl, hz⟩ := hb.out
  have hk := ((KB.start w).new 34 [.bool s1, .slice A1 k1 c1, .int .i64 x.e, .bool t1, .slice B1 m1 d1, .int .i64 y.e]).new 32 [.bool s2, .slice A2 k2 c2, .int .i64 z.e]
  simp only [World.size_alloc] at hk
  have HX := Lib.hid (hx1.only hk.only)
  have HY := Lib.hid (hy1.only hk.only)
  have HZ := Lib.hid (hz.only hk.only)
  obtain ⟨i0, i1, i2, i3, i4, i5⟩ := hk.c6 1 rfl
  obtain ⟨j0, j1, j2, -, -, -⟩ := hk.c3 0 rfl
  have HK := Lib.hid hk
  obtain ⟨c1', h1⟩ : ∃ q, cmpQ x.q z.q = q := ⟨_, rfl⟩
  obtain ⟨c2', h2⟩ : ∃ q, cmpQ z.q y.q = q := ⟨_, rfl⟩
  have e1 : decide (x.q ≤ z.q) = decide (c1' ≤ 0) := by rw [← h1]; exact decide_eq_decide.2 cmpQ_le.symm
  have e2 : decide (z.q ≤ y.q) = decide (c2' ≤ 0) := by rw [← h2]; exact decide_eq_decide.2 cmpQ_le.symm
  rw [e1, e2] at hr
  have H1 := Lib.hid h1
  have H2 := Lib.hid h2
  clear hk hx1 hy1 hz ha hb h1 h2 e1 e2
  go_enter Tryz.func29, Tryz.ntmps29
  go_wp2_with fail
  (with_reducible refine (cmpV_d c1' (DV.of HX) (DV.of HZ) bx bz hN H1.out).mono ?_)
  rintro e w2 ⟨rfl, ho⟩
  replace HK := Lib.hid (HK.out.step ho)
  replace HY := Lib.hid (HY.out.only ho)
  replace HZ := Lib.hid (HZ.out.only ho)
  clear ho i0 i1 i2 i3 i4 i5 j0 j1 j2
  obtain ⟨i0, i1, i2, i3, i4, i5⟩ := HK.out.c6 1 rfl
  obtain ⟨j0, j1, j2, -, -, -⟩ := HK.out.c3 0 rfl
  by_cases h : c1' ≤ 0
  · rw [decide_eq_true h, Bool.true_and] at hr
    go_wp2_with fail
    (with_reducible refine (cmpV_d c2' (DV.of HZ) (DV.of HY) bz by_ hN H2.out).mono ?_)
    rintro e w3 ⟨rfl, ho⟩
    replace HK := Lib.hid (HK.out.step ho)
    clear ho
    go_wp2_with fail
    go_ret
    exact ⟨rfl, HK.out.only⟩
  · rw [decide_eq_false h, Bool.false_and] at hr
    subst hr
    go_wp2_with fail
    go_ret
    exact ⟨rfl, HK.out.only⟩

end Go.Proofs.YtigpnopeacicpaaGreatDoor
