/-
  Joined texts.
-/
import Derived.Test.YtigpnopeacicpaaDoorProg
import Derived.Test.YtigpnopeacicpaaDoorTbJ0
import Derived.Maps.Own
import Derived.Maps.Views
import Derived.Maps.OwnSet
import Derived.Test.YtigpnopeacicpaaDoorTbJ7
import Derived.Laws.MakeOwn
import Derived.Test.YtigpnopeacicpaaDoorTbJ5
/-
  A map[int]int that the call has made, as a function of its keys.
-/
namespace Go.Proofs.YtigpnopeacicpaaDoor
open Go.RowKit Go.Maps

def Small (k : Int) : Prop := -4611686018427387904 ≤ k ∧ k ≤ 4611686018427387904
theorem Small.wf {k : Int} (h : Small k) : (Lit.int .i64 k).wf = true := by
  obtain ⟨h1, h2⟩ := h
  have e1 : IntKind.i64.min = -9223372036854775808 := by decide
  have e2 : IntKind.i64.max = 9223372036854775807 := by decide
  simp only [Lit.wf, Bool.and_eq_true, decide_eq_true_eq, e1, e2]
  omega

/-- Block b is a map of at most n entries; f k is what key k has. -/
def MapI (w : World) (b n : Nat) (f : Int → Option Int) : Prop :=
  ∃ D : DataW Unit, w.ownsMap Tryd.prog 3 (plainElem Tryd.prog 3) b n D ∧ ∀ k, Small k → Maps.has D (.int .i64 k) = (f k).isSome ∧ D.atKey (.int .i64 k) (.lit (.int .i64 0)) = .lit (.int .i64 ((f k).getD 0))
theorem zeroInt (w : World) : (zeroValue 3).run Tryd.prog w = .ok (.int .i64 0) w := by kernel_rfl
theorem MapI.lt {w : World} {b n : Nat} {f : Int → Option Int} (h : MapI w b n f) : b < w.heap.size := by
  obtain ⟨D, h1, _⟩ := h
  exact h1.lt
theorem MapI.only {w w' : World} {b n : Nat} {f : Int → Option Int} {S : List Nat} (h : MapI w b n f) (ho : Only S w w') (hb : b ∉ S) : MapI w' b n f := by
  obtain ⟨D, ⟨es, clock, h1, h2⟩, h3⟩ := h
  exact ⟨D, ⟨es, clock, ho.heap h1 hb, h2⟩, h3⟩
theorem MapI.made (w : World) : MapI (w.alloc (.map #[] 0)) w.heap.size 0 (fun _ => none) :=
  ⟨.map [], World.ownsMap_made w _ _ _, fun _ _ => ⟨rfl, rfl⟩⟩
set_option maxRecDepth 100000 in
theorem MapI.look {w : World} {b n : Nat} {f : Int → Option Int} (h : MapI w b n f) {k : Int} (hk : Small k) :
    (Instr.lookup 110 (.map (some b)) (.int .i64 k) false).run Tryd.prog w = .ok (.int .i64 ((f k).getD 0)) w := by
  obtain ⟨D, h1, h2⟩ := h
  obtain ⟨c, hr, hc, _⟩ := h1.lookup_int (q := .i64) (int_keyed Tryd.underlying3) Tryd.underlying110 Tryd.underlying3 (zeroInt w) (keyOf_int_mk Tryd.underlying3 hk.wf)
  have h3 := (h2 k hk).2
  rw [hc] at h3
  simp only [DataW.lit.injEq, Lit.int.injEq, true_and] at h3
  rw [hr, h3]
theorem MapI.store {w : World} {b n : Nat} {f : Int → Option Int} (h : MapI w b n f) (hn : n < 1000000) {k v : Int} (hk : Small k) (hv : Small v) :
    ∃ w', (Instr.mapUpdate 110 (.map (some b)) (.int .i64 k) (.int .i64 v)).run Tryd.prog w = .ok () w' ∧ MapI w' b (n + 1) (fun x => if x = k then some v else f x) ∧ Only [b] w w' := by
  obtain ⟨D, h1, h2⟩ := h
  obtain ⟨w', hr, ho, hg⟩ := h1.update (int_keyed Tryd.underlying3) Tryd.underlying110 (by simp only [maxLen]; omega) (keyOf_int_mk Tryd.underlying3 hk.wf) (plainElem_int Tryd.underlying3 hv.wf)
  refine ⟨w', hr, ⟨_, ho, fun x hx => ?_⟩, Only.of_grown hg (by simp)⟩
  show _ = (if x = k then some v else f x).isSome ∧ _ = DataW.lit (Lit.int .i64 ((if x = k then some v else f x).getD 0))
  by_cases e : x = k
  · subst e
    have hD := h1.isMap
    rw [if_pos rfl]
    exact ⟨by rw [has_put_same hD (by trivial)]; rfl, by rw [atKey_put_same hD (by trivial)]; rfl⟩
  · rw [if_neg e]
    have hne : Lit.int .i64 x ≠ Lit.int .i64 k := fun h => e (by injection h)
    exact ⟨by rw [has_put_other hne]; exact (h2 x hx).1, by rw [atKey_put_other hne]; exact (h2 x hx).2⟩
end Go.Proofs.YtigpnopeacicpaaDoor

/-
  A region that draws its order, whose operations read and whose callees only make new memory: one walk in the order of the text (over the kit's wp_region_quiet, at the class 'w but for new blocks').
-/
namespace Go.Proofs.YtigpnopeacicpaaDoor
open Go.RowKit

/-- The worlds that are w but for new blocks and draws. -/
def Ext (w : World) : Type := { x : World // Only [] w x }
instance extNonempty (w : World) : Nonempty (Ext w) := ⟨⟨w, Only.refl [] w⟩⟩
def Ext.w {w : World} (g : Ext w) : World := g.1
theorem Ext.ho {w : World} (g : Ext w) : Only [] w g.w := g.2
theorem Ext.cell {w : World} {p : Addr} {v : Value} (h : w.cell? p = some v) (g : Ext w) : g.w.cell? p = some v := g.ho.cell h (by simp)

end Go.Proofs.YtigpnopeacicpaaDoor

/-
  code.Check: the first node that may not be there.
-/
namespace Go.Proofs.YtigpnopeacicpaaDoor
open Go.RowKit

/-- Does a node of a valid form stand behind i others? -/
def standsB (i : Int) (k : Int) (f : Nat) (a b : Int) : Bool := if k = 0 then finB f else if k = 5 then decide (a < i) else decide (a < i) && decide (b < i)

set_option maxHeartbeats 400000 in
theorem stands_any (k : Int) (f : Nat) (a b i : Int) (hf : Hid (f < 2 ^ 64)) (w : World) :
    Calls Tryd.prog 98 #[.agg #[.int .i64 k, .float .f64 f, .int .i64 a, .int .i64 b], .int .i64 i] w fun e w' => e = .returned (.bool (standsB i k f a b)) ∧ Only [] w w' := by
  go_enter Tryd.func98, Tryd.ntmps98
  go_wp2_with (go_at_call 127; (with_reducible refine (finite_any _ hf.out _).mono ?_); rintro e w' ⟨rfl, rfl⟩)
  all_goals go_ret
  all_goals (refine ⟨?_, ((Only.refl [] w).alloc _)⟩)
  all_goals (simp_all [standsB]; try omega)

theorem run_store_float (P : Program) (w : World) (a : Addr) (k : FloatKind) (n : Nat) (m : Mode) : (store a (.float k n) m).run P w = stored P w a (.float k n) m := run_store P w a _ m rfl
attribute [local go_sem] run_store_float

/-- A slice of nodes reads as L. -/
def NRead (w : World) (A : Option Addr) (L : List Nd) : Prop := ∀ k, k < L.length → ∃ b o, A = some ⟨b, o, none⟩ ∧ Cells4 w b (o + k * 4) (L[k]?.getD nd0)
theorem NRead.only {w w' : World} {A : Option Addr} {L : List Nd} (h : NRead w A L) (ho : Only [] w w') : NRead w' A L := fun k hk => by
  obtain ⟨b, o, h1, h2⟩ := h k hk
  exact ⟨b, o, h1, h2.only ho (by simp)⟩

theorem NodesAt.read {w : World} {A : Option Addr} {n c : Nat} {ns : List Nd} (h : NodesAt w (.slice A n c) ns) : n = ns.length ∧ NRead w A ns := by
  obtain ⟨A', c', e, _, _, hc⟩ := h.shape
  injection e with e1 e2 e3
  subst e1
  refine ⟨e2, fun k hk => ?_⟩
  obtain ⟨g, h1, h2⟩ := hc k hk
  exact ⟨g, 0, h1, by rw [Nat.zero_add]; exact h2⟩
theorem addr_add (b o j : Nat) : (⟨b, o, none⟩ : Addr).add j = ⟨b, o + j, none⟩ := by
  unfold Addr.add
  by_cases h : j = 0 <;> simp [h]
/-- A slice of ints reads as xs. -/
def IRead (w : World) (A : Option Addr) (xs : List Int) : Prop := ∀ k, k < xs.length → ∃ b o, A = some ⟨b, o, none⟩ ∧ w.cell? ⟨b, o + k, none⟩ = some (.int .i64 (xs[k]?.getD 0))
theorem IRead.only {w w' : World} {A : Option Addr} {xs : List Int} (h : IRead w A xs) (ho : Only [] w w') : IRead w' A xs := fun k hk => by
  obtain ⟨b, o, h1, h2⟩ := h k hk
  exact ⟨b, o, h1, ho.cell h2 (by simp)⟩

/-- May node j of L be where it is? -/
def okB (L : List Nd) (j : Nat) : Bool := takesB j (L[j]?.getD nd0).k (L[j]?.getD nd0).f (L[j]?.getD nd0).a (L[j]?.getD nd0).b
def AllOk (L : List Nd) : Prop := ∀ j, j < L.length → okB L j = true
def FirstBad (L : List Nd) (i : Nat) : Prop := i < L.length ∧ (∀ j, j < i → okB L j = true) ∧ okB L i = false
theorem takes_stands (j : Nat) (k : Int) (f : Nat) (a b : Int) : takesB j k f a b = (validB k f a b && standsB j k f a b) := by
  unfold takesB
  cases hv : validB k f a b
  · rfl
  · have hv' : (k = 0 ∨ 0 ≤ a ∧ 0 ≤ b) := by
      simp only [validB, decide_eq_true_eq] at hv
      omega
    simp only [Bool.true_and, standsB, hasB]
    by_cases h0 : k = 0
    · simp [h0]
    · simp only [h0, if_false]
      have h1 : 0 ≤ a ∧ 0 ≤ b := by omega
      by_cases h5 : k = 5
      · simp [h5, h1]
      · simp [h5, h1]

/-- The value that Check answers. -/
def CkPost (L : List Nd) (w : World) (e : Ending) (w' : World) : Prop :=
  ((AllOk L ∧ e = .returned .nilIface) ∨ ∃ i, FirstBad L i ∧ ∃ v, e = .returned v ∧ IsAt w w' (i : Int) (.iface 175 (.int .i64 1)) v) ∧ Only [] w w'

set_option maxHeartbeats 1600000 in
set_option maxRecDepth 100000 in
theorem ccheck_any (A : Option Addr) (c : Nat) (L : List Nd) (w : World) (hA : Hid (NRead w A L)) (hf : Hid (∀ k, k < L.length → (L[k]?.getD nd0).f < 2 ^ 64)) (hl : (L.length : Int) ≤ 1000) :
    Calls Tryd.prog 69 #[.slice A L.length c] w (CkPost L w) := by
  go_enter Tryd.func69, Tryd.ntmps69
  go_wp2_with fail
  go_loopw [11] (fun i wr => ∃ k : Nat, k ≤ L.length ∧ i = .int .i64 (k : Int) ∧ Only [] w wr ∧ (∀ j, j < k → okB L j = true)) (fun i _ => L.length - (intOf i).toNat)
  case atStart => exact ⟨0, Nat.zero_le _, rfl, Only.refl _ _, fun j hj => by omega⟩
  case round =>
    obtain ⟨k, hk, rfl, ho, hall⟩ := hrel
    have Ho := Lib.hid ho
    have Hall := Lib.hid hall
    clear ho hall
    by_cases hlt : k < L.length
    · obtain ⟨b, o, rfl, h1⟩ := hA.out k hlt
      obtain ⟨p0, p1, p2, p3⟩ := h1.only Ho.out (by simp)
      have hn := Lib.hid (hf.out k hlt)
      have hok : Hid (okB L k = (validB (L[k]?.getD nd0).k (L[k]?.getD nd0).f (L[k]?.getD nd0).a (L[k]?.getD nd0).b && standsB k (L[k]?.getD nd0).k (L[k]?.getD nd0).f (L[k]?.getD nd0).a (L[k]?.getD nd0).b)) := by show _ = _; exact takes_stands _ _ _ _ _
      clear h1
      generalize L[k]?.getD nd0 = n at p0 p1 p2 p3 hn hok
      obtain ⟨nk, nf, na, nb⟩ := n
      have hk' : (k : Int) < (L.length : Int) := by omega
      go_wp2_with fail
      refine (cvalid_any nk nf na nb _).mono ?_
      rintro e w1 ⟨rfl, ho1⟩
      have hB := (Blk.new wr 31 [.int .i64 nk, .float .f64 nf, .int .i64 na, .int .i64 nb])
      obtain ⟨q0, q1, q2, q3⟩ := box_cells hB ho1 (by simp)
      have Ho1 := Lib.hid ((Ho.out.alloc (.cells #[.int .i64 nk, .float .f64 nf, .int .i64 na, .int .i64 nb] 31)).nil_trans ho1)
      clear ho1 hB
      cases hv : validB nk nf na nb
      · have hok' : Hid (okB L k = false) := by show _ = _; rw [hok.out, hv]; rfl
        clear hok
        go_wp2_with fail
        (with_reducible refine (malformed_any _).mono ?_)
        rintro e w' ⟨rfl, rfl⟩
        go_wp2_with fail
        (with_reducible refine (node_any _ _ _ _).mono ?_)
        rintro e w2 ⟨v, rfl, hv2, ho2⟩
        go_wp2_with fail
        go_ret
        exact ⟨.inr ⟨k, ⟨hlt, Hall.out, hok'.out⟩, v, rfl, hv2.old Ho1.out.size⟩, Ho1.out.nil_trans ho2⟩
      · cases hs : standsB (k : Int) nk nf na nb
        · have hok' : Hid (okB L k = false) := by show _ = _; rw [hok.out, hv, hs]; rfl
          clear hok
          go_wp2_with fail
          (with_reducible refine (stands_any _ _ _ _ _ hn _).mono ?_)
          rintro e w2 ⟨rfl, ho2⟩
          have Ho2 := Lib.hid (Ho1.out.nil_trans ho2)
          clear ho2
          go_wp2_with fail
          (with_reducible refine (malformed_any _).mono ?_)
          rintro e w' ⟨rfl, rfl⟩
          go_wp2_with fail
          (with_reducible refine (node_any _ _ _ _).mono ?_)
          rintro e w3 ⟨v, rfl, hv2, ho3⟩
          go_wp2_with fail
          go_ret
          exact ⟨.inr ⟨k, ⟨hlt, Hall.out, hok'.out⟩, v, rfl, hv2.old Ho2.out.size⟩, Ho2.out.nil_trans ho3⟩
        · have hok' : Hid (okB L k = true) := by show _ = _; rw [hok.out, hv, hs]; rfl
          clear hok
          go_wp2_with fail
          (with_reducible refine (stands_any _ _ _ _ _ hn _).mono ?_)
          rintro e w2 ⟨rfl, ho2⟩
          have Ho2 := Lib.hid (Ho1.out.nil_trans ho2)
          clear ho2
          go_wp2_with fail
          go_roundw
          case rel =>
            refine ⟨k + 1, by omega, by go_num, Ho2.out, fun j hj => ?_⟩
            by_cases e : j = k
            · rw [e]; exact hok'.out
            · exact Hall.out j (by omega)
          case measure => simp [intOf]; omega
    · have hnl : ¬ (k : Int) < (L.length : Int) := by omega
      go_wp2_with fail
      go_ret
      exact ⟨.inl ⟨fun j hj => Hall.out j (by omega), rfl⟩, Ho.out⟩
end Go.Proofs.YtigpnopeacicpaaDoor

/-
  What Load makes of nodes: the plain law.
-/
namespace Go.Proofs.YtigpnopeacicpaaDoor
open Go.RowKit

/-- A node whose operands are what the nodes before it have become. -/
def reNd (ids : List Int) (n : Nd) : Nd := ⟨n.k, n.f, if n.k = 0 then n.a else ids[n.a.toNat]?.getD 0, if n.k = 0 ∨ n.k = 5 then n.b else ids[n.b.toNat]?.getD 0⟩
def ldStep (r : Option Nat) (q : List Nd × List Int) (n : Nd) : List Nd × List Int := (putNs r q.1 (reNd q.2 n), q.2 ++ [putId r q.1 (reNd q.2 n)])
def ld (r : Option Nat) (L : List Nd) : List Nd × List Int := L.foldl (ldStep r) ([], [])
theorem ld_snoc (r : Option Nat) (L : List Nd) (n : Nd) : ld r (L ++ [n]) = ldStep r (ld r L) n := by simp [ld]
theorem ld_take (r : Option Nat) (L : List Nd) {k : Nat} (hk : k < L.length) : ld r (L.take (k + 1)) = ldStep r (ld r (L.take k)) (L[k]?.getD nd0) := by
  rw [List.take_succ_eq_append_getElem hk, ld_snoc]
  simp [hk]
/-- What holds of a part that has been loaded. -/
structure LdOk (q : List Nd × List Int) (k : Nat) : Prop where
  ids : q.2.length = k
  ns : q.1.length ≤ k
  at_ : ∀ j, j < k → 0 ≤ q.2[j]?.getD 0 ∧ q.2[j]?.getD 0 < q.1.length

theorem reNd_takes {q : List Nd × List Int} {k : Nat} (h : LdOk q k) (hk : k ≤ 1000) {n : Nd} (hn : takesB k n.k n.f n.a n.b = true) :
    takesB q.1.length (reNd q.2 n).k (reNd q.2 n).f (reNd q.2 n).a (reNd q.2 n).b = true := by
  obtain ⟨nk, nf, na, nb⟩ := n
  have hl := h.ns
  simp only at hn
  have hfine := fine_of _ _ _ _ _ hn
  unfold Fine at hfine
  rcases hfine with ⟨hv, h0, hf⟩ | ⟨hv, h5, ha⟩ | ⟨hv, h0, h5, ha, hb⟩
  · subst h0
    simp [reNd, takesB, hv, hf]
  · subst h5
    simp only [validB, decide_eq_true_eq] at hv
    have hb : nb = 0 := by
      rcases hv with h | h
      · omega
      · exact h.2.2.1 trivial
    subst hb
    obtain ⟨g1, g2⟩ := h.at_ na.toNat (by omega)
    simp only [reNd, takesB, validB, hasB]
    simp
    omega
  · simp only [validB, decide_eq_true_eq] at hv
    obtain ⟨g1, g2⟩ := h.at_ na.toNat (by omega)
    obtain ⟨g3, g4⟩ := h.at_ nb.toNat (by omega)
    simp only [reNd, takesB, validB, hasB, h0, h5, if_false, or_self]
    simp
    omega
theorem ldStep_ok (r : Option Nat) {q : List Nd × List Int} {k : Nat} (h : LdOk q k) (hk : k ≤ 1000) {n : Nd} (hn : takesB k n.k n.f n.a n.b = true) : LdOk (ldStep r q n) (k + 1) := by
  have ht := reNd_takes h hk hn
  have hle := putNs_le r q.1 (reNd q.2 n)
  have h1 := h.ids
  have h2 := h.ns
  have hmono : q.1.length ≤ (putNs r q.1 (reNd q.2 n)).length := by
    unfold putNs
    rw [if_pos ht]
    split <;> simp
  have hid : 0 ≤ putId r q.1 (reNd q.2 n) ∧ putId r q.1 (reNd q.2 n) < (putNs r q.1 (reNd q.2 n)).length := by
    unfold putNs putId
    rw [if_pos ht, if_pos ht]
    by_cases hm : r ≠ none ∧ reNd q.2 n ∈ q.1
    · rw [if_pos hm, if_pos hm]
      have := List.idxOf_lt_length_iff.2 hm.2
      omega
    · rw [if_neg hm, if_neg hm]
      simp
      omega
  refine ⟨by simp [ldStep, h1], by simp only [ldStep]; omega, fun j hj => ?_⟩
  simp only [ldStep]
  by_cases e : j = k
  · subst e
    rw [List.getElem?_append_right (by omega), h1]
    simpa using hid
  · rw [List.getElem?_append_left (by omega)]
    have := h.at_ j (by omega)
    omega
theorem ld_ok (r : Option Nat) {L : List Nd} (hL : L.length ≤ 1000) (hok : AllOk L) : ∀ k, k ≤ L.length → LdOk (ld r (L.take k)) k
  | 0, _ => ⟨rfl, by simp [ld], fun j hj => by omega⟩
  | k + 1, hk => by
    rw [ld_take r L (by omega)]
    exact ldStep_ok r (ld_ok r hL hok k (by omega)) (by omega) (hok k (by omega))
end Go.Proofs.YtigpnopeacicpaaDoor

/-
  dag.Load.
-/
namespace Go.Proofs.YtigpnopeacicpaaDoor
open Go.RowKit
attribute [local go_sem] run_store_float

theorem Tryd.intInfo : (Tryd.prog.info? 3).map (fun i => (i.zero, i.size, i.bytes)) = some (some (.int .i64 0), 1, 8) := by kernel_rfl
theorem int_parts : ∃ i : TypeInfo, Tryd.prog.info? 3 = some i ∧ i.zero = some (.int .i64 0) ∧ i.size = 1 ∧ i.bytes = 8 := by
  obtain ⟨i, h, e⟩ := Option.map_eq_some_iff.1 Tryd.intInfo
  simp only [Prod.mk.injEq] at e
  exact ⟨i, h, e.1, e.2.1, e.2.2⟩

/-- A row of ints of its own. -/
def ints (xs : List Int) : List Value := xs.map fun x => .int .i64 x
def IntsAt (w : World) (u : Value) (xs : List Int) : Prop := w.ownsRow 0 3 1 u xs.length (ints xs)
theorem IntsAt.shape {w : World} {u : Value} {xs : List Int} (h : IntsAt w u xs) : ∃ A c, u = .slice A xs.length c ∧ IRead w A xs := by
  rcases h.2 with ⟨rfl, h0⟩ | ⟨g, cap, cur, rfl, _, hg, hn, hm, _⟩
  · exact ⟨none, 0, by rw [h0], fun k hk => by omega⟩
  · refine ⟨_, cap, rfl, fun k hk => ⟨g, 0, rfl, ?_⟩⟩
    have hc := World.ownsRow.cells h (g := g) rfl
    have h1 := hc k (.int .i64 (xs[k]?.getD 0)) (by simp [ints, hk])
    rw [addr_add] at h1
    exact h1
theorem IntsAt.only {w w' : World} {u : Value} {xs : List Int} {S : List Nat} (h : IntsAt w u xs) (ho : Only S w w') (hn : ∀ g, u.ownBlock = some g → g ∉ S) : IntsAt w' u xs := ownsRow_only h ho hn
theorem IntsAt.lt {w : World} {u : Value} {xs : List Int} (h : IntsAt w u xs) : ∀ g, u.ownBlock = some g → g < w.heap.size := fun g hg => (World.ownsRow.lt h g hg).2

/-- Where Load's loop stands: the dag, and the ids. -/
structure LdRel (w0 : World) (d : Nat) (r : Option Nat) (q : List Nd × List Int) (v u : Value) (wr : World) : Prop where
  own : Own w0 wr d v r q.1
  ids : IntsAt wr u q.2
  fresh : ∀ g, u.ownBlock = some g → w0.heap.size ≤ g ∧ g ∉ foot d v r
theorem LdRel.only {w0 w w' : World} {d : Nat} {r : Option Nat} {q : List Nd × List Int} {v u : Value} (h : LdRel w0 d r q v u w) (ho : Only [] w w') : LdRel w0 d r q v u w' :=
  ⟨h.own.other ho (by simp) (by simp), h.ids.only ho (by simp), h.fresh⟩
theorem LdRel.put {w0 w w' : World} {d : Nat} {r : Option Nat} {q : List Nd × List Int} {v v' u : Value} {ns' : List Nd} (h : LdRel w0 d r q v u w) (hs : Step d v r w v' w') (hd : DagIs w' d v' r ns') : LdRel w0 d r (ns', q.2) v' u w' :=
  ⟨h.own.step hs hd, h.ids.only hs.2 (fun g hg => (h.fresh g hg).2), fun g hg => ⟨(h.fresh g hg).1, fun hm => by
    rcases hs.foot g hm with h1 | h1
    · exact (h.fresh g hg).2 h1
    · have := h.ids.lt g hg
      omega⟩⟩
theorem LdRel.pre {w0 w1 w : World} {d : Nat} {r : Option Nat} {q : List Nd × List Int} {v u : Value} (h : LdRel w1 d r q v u w) (ho : Only [] w0 w1) : LdRel w0 d r q v u w :=
  ⟨⟨h.own.is, fun k hk => Nat.le_trans ho.size (h.own.fresh k hk), ho.nil_trans h.own.only⟩, h.ids, fun g hg => ⟨Nat.le_trans ho.size (h.fresh g hg).1, (h.fresh g hg).2⟩⟩
theorem LdRel.push {w0 w w' : World} {d : Nat} {r : Option Nat} {q : List Nd × List Int} {v u : Value} {g cap : Nat} {x : Int} (h : LdRel w0 d r q v u w) (hown : w'.ownsRow 0 3 1 (.slice (some ⟨g, 0, none⟩) (q.2.length + 1) cap) (q.2.length + 1) (ints q.2 ++ [.int .i64 x]))
    (hgr : (w.alloc (.cells #[.int .i64 x] 3)).grownBy w' u.ownBlock) (hat : u.ownBlock = some g ∨ g = w.heap.size + 1) : LdRel w0 d r (q.1, q.2 ++ [x]) v (.slice (some ⟨g, 0, none⟩) (q.2.length + 1) cap) w' := by
  have ho : Only u.ownBlock.toList w w' := ((Only.refl _ w).alloc _).trans (Only.of_grown (S := u.ownBlock.toList) hgr (by simp)) (fun k hk => .inl hk)
  refine ⟨h.own.other ho (fun k hk => (h.fresh k (by simpa using hk)).1) (fun k hk hm => (h.fresh k (by simpa using hm)).2 hk), ?_, ?_⟩
  · unfold IntsAt
    simpa [ints] using hown
  · intro g' hg'
    have e : g = g' := by simpa [Value.ownBlock] using hg'
    subst e
    rcases hat with e | e
    · exact h.fresh g e
    · refine ⟨by have := h.own.only.size; omega, fun hm => ?_⟩
      have := h.own.is.lt g hm
      omega

theorem ld_at {r : Option Nat} {ns : List Nd} {ids : List Int} {n m : Nd} {X : List Nd × List Int} (e : reNd ids n = m) (hT : takesB (ns, ids).1.length (reNd (ns, ids).2 n).k (reNd (ns, ids).2 n).f (reNd (ns, ids).2 n).a (reNd (ns, ids).2 n).b = true) (hL : X = ldStep r (ns, ids) n) :
    takesB ns.length m.k m.f m.a m.b = true ∧ X = (putNs r ns m, ids ++ [putId r ns m]) := by
  subst e
  exact ⟨hT, hL⟩

def LdGood (same : Bool) (L : List Nd) (w : World) (e : Ending) (w' : World) : Prop :=
  ∃ d r v u, e = .returned (.tuple #[.pointer (some ⟨d, 0, none⟩), u, .nilIface]) ∧ (r = none ↔ same = false) ∧ LdRel w d r (ld r L) v u w'

set_option maxHeartbeats 3200000 in
set_option maxRecDepth 100000 in
theorem load_good (same : Bool) (A : Option Addr) (c : Nat) (L : List Nd) (w : World) (hA : Hid (NRead w A L)) (hf : Hid (∀ k, k < L.length → (L[k]?.getD nd0).f < 2 ^ 64)) (hl : (L.length : Int) ≤ 1000) (hok : Hid (AllOk L)) :
    Calls Tryd.prog 41 #[.bool same, .slice A L.length c] w (LdGood same L w) := by
  obtain ⟨i0, hi, hz0, hz1, hz2⟩ := int_parts
  go_enter Tryd.func41, Tryd.ntmps41
  go_wp2_with fail
  refine (ccheck_any A c L _ hA hf hl).mono ?_
  rintro e w1 ⟨⟨-, rfl⟩ | ⟨i, hi, _⟩, ho1⟩
  rotate_left 1
  · have := hok.out i hi.1
    rw [hi.2.2] at this
    cases this
  have Ho1 := Lib.hid ho1
  clear ho1
  go_wp2_with fail
  refine (new_any same _).mono ?_
  rintro e w2 ⟨r, rfl, hd2, hr2, hm2, ho2⟩
  have A2 := Lib.hid (own_new hd2 hm2 ho2)
  have Hr := Lib.hid hr2
  clear hd2 hm2 ho2 hr2
  obtain ⟨w3, hmk, hrow, hgr⟩ := run_make_own (P := Tryd.prog) w2 0 22 3 i0 (.int .i64 0) 1 Tryd.underlying22 hi hz0 hz1 .i64 .i64 L.length (by rw [hz2]; omega) (by simp only [maxLen]; omega) (Nat.zero_le _)
  generalize hdd : w1.heap.size = d at *
  have R0 : Hid (LdRel w1 d r ([], []) (.slice none 0 0) (.slice (some ⟨w2.heap.size, 0, none⟩) 0 L.length) w3) :=
    ⟨A2.out.other (Only.of_grown (S := []) hgr (by simp)) (by simp) (by simp), hrow, fun g hg => by
      have e : w2.heap.size = g := by simpa [Value.ownBlock] using hg
      subst e
      exact ⟨A2.out.only.size, fun hm => by
        have := A2.out.is.lt _ hm
        omega⟩⟩
  clear A2 hrow hgr
  go_wp2_with fail
  clear hmk
  go_loopw [9, 26] (fun u i wr => ∃ (k : Nat) (v : Value), k ≤ L.length ∧ i = .int .i64 (k : Int) ∧ LdRel w1 d r (ld r (L.take k)) v u wr) (fun _ i _ => L.length - (intOf i).toNat)
  case atStart => exact ⟨0, _, Nat.zero_le _, rfl, R0.out⟩
  case round =>
    obtain ⟨k, v, hk, rfl, hR⟩ := hrel
    have Hle := ld_ok r (by omega) hok.out k hk
    have Htake : k < L.length → ld r (L.take (k + 1)) = ldStep r (ld r (L.take k)) (L[k]?.getD nd0) := fun h => ld_take r L h
    have Hfin : k = L.length → ld r (L.take k) = ld r L := fun e => by rw [e, List.take_length]
    have HLe := Lib.hid Hle
    have HTake := Lib.hid Htake
    have HFin := Lib.hid Hfin
    have HR := Lib.hid hR
    clear Hle Htake Hfin hR R0
    generalize ld r (L.take k) = q at *
    obtain ⟨ns, ids⟩ := q
    by_cases hlt : k < L.length
    · obtain ⟨b, o, rfl, h1⟩ := hA.out k hlt
      obtain ⟨p0, p1, p2, p3⟩ := (h1.only Ho1.out (by simp)).only HR.out.own.only (by simp)
      have HN := Lib.hid (hf.out k hlt)
      have hokk : takesB k (L[k]?.getD nd0).k (L[k]?.getD nd0).f (L[k]?.getD nd0).a (L[k]?.getD nd0).b = true := hok.out k hlt
      have HT := Lib.hid (reNd_takes HLe.out (by omega) hokk)
      have HL1 := Lib.hid (HTake.out hlt)
      clear h1 HTake HFin
      generalize L[k]?.getD nd0 = n at p0 p1 p2 p3 HN hokk HT HL1
      obtain ⟨nk, nf, na, nb⟩ := n
      have hk' : (k : Int) < (L.length : Int) := by omega
      have hsplit : nk = 0 ∨ (nk = 5 ∧ nb = 0 ∧ ∃ x : Nat, na = (x : Int) ∧ x < k) ∨ ((nk = 1 ∨ nk = 2 ∨ nk = 3 ∨ nk = 4) ∧ ∃ x y : Nat, na = (x : Int) ∧ nb = (y : Int) ∧ x < k ∧ y < k) := by
        have h := fine_of _ _ _ _ _ hokk
        unfold Fine at h
        simp only [validB, decide_eq_true_eq] at h
        rcases h with ⟨_, h, _⟩ | ⟨hv, h, ha⟩ | ⟨hv, h0, h5, ha, hb⟩
        · exact .inl h
        · refine .inr (.inl ⟨h, by omega, na.toNat, by omega, by omega⟩)
        · exact .inr (.inr ⟨by omega, na.toNat, nb.toNat, by omega, by omega, by omega, by omega⟩)
      clear hokk
      obtain ⟨uA, uc, rfl, hread⟩ := HR.out.ids.shape
      simp only at hread
      have hil := HLe.out.ids
      simp only at hil
      have HRead := Lib.hid hread
      have HIL : Hid (ids.length ≤ 1000 ∧ ids.length = k) := by show _ ∧ _; omega
      clear hread hil
      simp only at p0 p1 p2 p3
      replace HN : Hid (nf < 2 ^ 64) := HN
      have hns : ns.length < 20000 := by have := HLe.out.ns; simp only at this; omega
      rcases hsplit with rfl | ⟨rfl, rfl, x, rfl, hx⟩ | ⟨h4, x, y, rfl, rfl, hx, hy⟩
      · have HX := Lib.hid (ld_at (m := ⟨0, nf, na, nb⟩) (by simp [reNd]) HT.out HL1.out)
        clear HT HL1
        go_wp2_with fail
        refine (put_any d v r ns 0 nf na nb _ HN (HR.out.only ((Only.refl _ _).alloc _)).own.is hns).mono ?_
        rintro e w5 ⟨ev, v5, rfl, hd5, hblk, ho5, hev⟩
        rw [if_pos HX.out.1] at hev
        subst hev
        have R5 := Lib.hid ((HR.out.only ((Only.refl _ _).alloc _)).put ⟨hblk, ho5⟩ hd5)
        clear hblk ho5 hd5 HR HRead
        go_wp2_with (at_builtin; refine wpList_append_lies _ rfl _ _ _ rfl 0 3 i0 _ 1 8 Tryd.underlying22 hi hz0 hz1 hz2 rfl (by decide) (.slice _ ids.length uc) ids.length (ints ids) rfl (by exact R5.out.ids.alloc _) ⟨w5.heap.size, 0, none⟩ 1 1 [.int .i64 (putId r ns ⟨0, nf, na, nb⟩)] rfl rfl (by exact cell_one_new _ _ _) (by simp [Value.oneCell']) (by decide) (by have := HIL.out.1; simp only [maxLen]; omega) (by have := HIL.out.1; omega) (Nat.zero_le _) (w5.heap.size + 1) (by simp) ?_; intro g cap w6 hown6 hgr6 hat6 hlt6; have R6 := Lib.hid (R5.out.push hown6 hgr6 hat6); clear hown6 hgr6 hat6)
        go_roundw
        case rel => exact ⟨k + 1, v5, by omega, by go_num, by rw [HX.out.2]; exact R6.out⟩
        case measure => simp [intOf]; omega
      · have HX := Lib.hid (ld_at (m := ⟨5, nf, ids[x]?.getD 0, 0⟩) (by simp [reNd]) HT.out HL1.out)
        clear HT HL1
        obtain ⟨ib, io, rfl, ix⟩ := HRead.out x (by have := HIL.out.2; omega)
        have hx1 : x < ids.length := by have := HIL.out.2; omega
        have ix' := ((Only.refl [] wr).alloc (.cells #[.int .i64 5, .float .f64 nf, .int .i64 (x : Int), .int .i64 0] 31)).cell ix (by simp)
        clear ix
        generalize ids[x]?.getD 0 = ax at HX ix'
        go_wp2_with fail
        refine (put_any d v r ns 5 nf ax 0 _ HN (HR.out.only ((Only.refl _ _).alloc _)).own.is hns).mono ?_
        rintro e w5 ⟨ev, v5, rfl, hd5, hblk, ho5, hev⟩
        rw [if_pos HX.out.1] at hev
        subst hev
        have R5 := Lib.hid ((HR.out.only ((Only.refl _ _).alloc _)).put ⟨hblk, ho5⟩ hd5)
        clear hblk ho5 hd5 HR HRead
        go_wp2_with (at_builtin; refine wpList_append_lies _ rfl _ _ _ rfl 0 3 i0 _ 1 8 Tryd.underlying22 hi hz0 hz1 hz2 rfl (by decide) (.slice _ ids.length uc) ids.length (ints ids) rfl (by exact R5.out.ids.alloc _) ⟨w5.heap.size, 0, none⟩ 1 1 [.int .i64 (putId r ns ⟨5, nf, ax, 0⟩)] rfl rfl (by exact cell_one_new _ _ _) (by simp [Value.oneCell']) (by decide) (by have := HIL.out.1; simp only [maxLen]; omega) (by have := HIL.out.1; omega) (Nat.zero_le _) (w5.heap.size + 1) (by simp) ?_; intro g cap w6 hown6 hgr6 hat6 hlt6; have R6 := Lib.hid (R5.out.push hown6 hgr6 hat6); clear hown6 hgr6 hat6)
        go_roundw
        case rel => exact ⟨k + 1, v5, by omega, by go_num, by rw [HX.out.2]; exact R6.out⟩
        case measure => simp [intOf]; omega
      · have hx1 : x < ids.length := by have := HIL.out.2; omega
        have hy1 : y < ids.length := by have := HIL.out.2; omega
        have hkk : nk ≠ 0 ∧ nk ≠ 5 := by omega
        have HX := Lib.hid (ld_at (m := ⟨nk, nf, ids[x]?.getD 0, ids[y]?.getD 0⟩) (by simp [reNd, hkk]) HT.out HL1.out)
        clear HT HL1
        obtain ⟨ib, io, rfl, ix⟩ := HRead.out x hx1
        obtain ⟨ib', io', e, iy⟩ := HRead.out y hy1
        injection e with e
        injection e with e1 e2
        subst e1 e2
        clear hkk
        generalize ids[x]?.getD 0 = ax at HX ix
        generalize ids[y]?.getD 0 = ay at HX iy
        have iy' := ((Only.refl [] wr).alloc (.cells #[.int .i64 nk, .float .f64 nf, .int .i64 (x : Int), .int .i64 (y : Int)] 31)).cell iy (by simp)
        have ix' := ((Only.refl [] wr).alloc (.cells #[.int .i64 nk, .float .f64 nf, .int .i64 (x : Int), .int .i64 ay] 31)).cell ix (by simp)
        clear ix iy
        rcases h4 with rfl | rfl | rfl | rfl
        · go_wp2_with fail
          refine (put_any d v r ns 1 nf ax ay _ HN (HR.out.only ((Only.refl _ _).alloc _)).own.is hns).mono ?_
          rintro e w5 ⟨ev, v5, rfl, hd5, hblk, ho5, hev⟩
          rw [if_pos HX.out.1] at hev
          subst hev
          have R5 := Lib.hid ((HR.out.only ((Only.refl _ _).alloc _)).put ⟨hblk, ho5⟩ hd5)
          clear hblk ho5 hd5 HR HRead
          go_wp2_with (at_builtin; refine wpList_append_lies _ rfl _ _ _ rfl 0 3 i0 _ 1 8 Tryd.underlying22 hi hz0 hz1 hz2 rfl (by decide) (.slice _ ids.length uc) ids.length (ints ids) rfl (by exact R5.out.ids.alloc _) ⟨w5.heap.size, 0, none⟩ 1 1 [.int .i64 (putId r ns ⟨1, nf, ax, ay⟩)] rfl rfl (by exact cell_one_new _ _ _) (by simp [Value.oneCell']) (by decide) (by have := HIL.out.1; simp only [maxLen]; omega) (by have := HIL.out.1; omega) (Nat.zero_le _) (w5.heap.size + 1) (by simp) ?_; intro g cap w6 hown6 hgr6 hat6 hlt6; have R6 := Lib.hid (R5.out.push hown6 hgr6 hat6); clear hown6 hgr6 hat6)
          go_roundw
          case rel => exact ⟨k + 1, v5, by omega, by go_num, by rw [HX.out.2]; exact R6.out⟩
          case measure => simp [intOf]; omega
        · go_wp2_with fail
          refine (put_any d v r ns 2 nf ax ay _ HN (HR.out.only ((Only.refl _ _).alloc _)).own.is hns).mono ?_
          rintro e w5 ⟨ev, v5, rfl, hd5, hblk, ho5, hev⟩
          rw [if_pos HX.out.1] at hev
          subst hev
          have R5 := Lib.hid ((HR.out.only ((Only.refl _ _).alloc _)).put ⟨hblk, ho5⟩ hd5)
          clear hblk ho5 hd5 HR HRead
          go_wp2_with (at_builtin; refine wpList_append_lies _ rfl _ _ _ rfl 0 3 i0 _ 1 8 Tryd.underlying22 hi hz0 hz1 hz2 rfl (by decide) (.slice _ ids.length uc) ids.length (ints ids) rfl (by exact R5.out.ids.alloc _) ⟨w5.heap.size, 0, none⟩ 1 1 [.int .i64 (putId r ns ⟨2, nf, ax, ay⟩)] rfl rfl (by exact cell_one_new _ _ _) (by simp [Value.oneCell']) (by decide) (by have := HIL.out.1; simp only [maxLen]; omega) (by have := HIL.out.1; omega) (Nat.zero_le _) (w5.heap.size + 1) (by simp) ?_; intro g cap w6 hown6 hgr6 hat6 hlt6; have R6 := Lib.hid (R5.out.push hown6 hgr6 hat6); clear hown6 hgr6 hat6)
          go_roundw
          case rel => exact ⟨k + 1, v5, by omega, by go_num, by rw [HX.out.2]; exact R6.out⟩
          case measure => simp [intOf]; omega
        · go_wp2_with fail
          refine (put_any d v r ns 3 nf ax ay _ HN (HR.out.only ((Only.refl _ _).alloc _)).own.is hns).mono ?_
          rintro e w5 ⟨ev, v5, rfl, hd5, hblk, ho5, hev⟩
          rw [if_pos HX.out.1] at hev
          subst hev
          have R5 := Lib.hid ((HR.out.only ((Only.refl _ _).alloc _)).put ⟨hblk, ho5⟩ hd5)
          clear hblk ho5 hd5 HR HRead
          go_wp2_with (at_builtin; refine wpList_append_lies _ rfl _ _ _ rfl 0 3 i0 _ 1 8 Tryd.underlying22 hi hz0 hz1 hz2 rfl (by decide) (.slice _ ids.length uc) ids.length (ints ids) rfl (by exact R5.out.ids.alloc _) ⟨w5.heap.size, 0, none⟩ 1 1 [.int .i64 (putId r ns ⟨3, nf, ax, ay⟩)] rfl rfl (by exact cell_one_new _ _ _) (by simp [Value.oneCell']) (by decide) (by have := HIL.out.1; simp only [maxLen]; omega) (by have := HIL.out.1; omega) (Nat.zero_le _) (w5.heap.size + 1) (by simp) ?_; intro g cap w6 hown6 hgr6 hat6 hlt6; have R6 := Lib.hid (R5.out.push hown6 hgr6 hat6); clear hown6 hgr6 hat6)
          go_roundw
          case rel => exact ⟨k + 1, v5, by omega, by go_num, by rw [HX.out.2]; exact R6.out⟩
          case measure => simp [intOf]; omega
        · go_wp2_with fail
          refine (put_any d v r ns 4 nf ax ay _ HN (HR.out.only ((Only.refl _ _).alloc _)).own.is hns).mono ?_
          rintro e w5 ⟨ev, v5, rfl, hd5, hblk, ho5, hev⟩
          rw [if_pos HX.out.1] at hev
          subst hev
          have R5 := Lib.hid ((HR.out.only ((Only.refl _ _).alloc _)).put ⟨hblk, ho5⟩ hd5)
          clear hblk ho5 hd5 HR HRead
          go_wp2_with (at_builtin; refine wpList_append_lies _ rfl _ _ _ rfl 0 3 i0 _ 1 8 Tryd.underlying22 hi hz0 hz1 hz2 rfl (by decide) (.slice _ ids.length uc) ids.length (ints ids) rfl (by exact R5.out.ids.alloc _) ⟨w5.heap.size, 0, none⟩ 1 1 [.int .i64 (putId r ns ⟨4, nf, ax, ay⟩)] rfl rfl (by exact cell_one_new _ _ _) (by simp [Value.oneCell']) (by decide) (by have := HIL.out.1; simp only [maxLen]; omega) (by have := HIL.out.1; omega) (Nat.zero_le _) (w5.heap.size + 1) (by simp) ?_; intro g cap w6 hown6 hgr6 hat6 hlt6; have R6 := Lib.hid (R5.out.push hown6 hgr6 hat6); clear hown6 hgr6 hat6)
          go_roundw
          case rel => exact ⟨k + 1, v5, by omega, by go_num, by rw [HX.out.2]; exact R6.out⟩
          case measure => simp [intOf]; omega
    · have hnl : ¬ (k : Int) < (L.length : Int) := by omega
      have HL1 := Lib.hid (HFin.out (by omega))
      clear HTake HFin HLe
      go_wp2_with fail
      go_returns
      exact ⟨d, r, v, _, rfl, Hr.out, by rw [← HL1.out]; exact HR.out.pre Ho1.out⟩
end Go.Proofs.YtigpnopeacicpaaDoor

/-
  What numbers are made of: the plain law (no program in sight): who is reached, a list that rises, a depth-first search and a scan that both find it.
-/
namespace Go.Proofs.YtigpnopeacicpaaDoor

theorem asc_ext : ∀ (xs ys : List Int), xs.Pairwise (· < ·) → ys.Pairwise (· < ·) → (∀ x, x ∈ xs ↔ x ∈ ys) → xs = ys
  | [], [], _, _, _ => rfl
  | [], y :: ys, _, _, h => by have := (h y).2 (by simp); simp at this
  | x :: xs, [], _, _, h => by have := (h x).1 (by simp); simp at this
  | x :: xs, y :: ys, hx, hy, h => by
    rw [List.pairwise_cons] at hx hy
    have e : x = y := by
      rcases List.mem_cons.1 ((h x).1 (by simp)) with h1 | h1
      · exact h1
      · rcases List.mem_cons.1 ((h y).2 (by simp)) with h2 | h2
        · exact h2.symm
        · have := hy.1 x h1
          have := hx.1 y h2
          omega
    subst e
    rw [asc_ext xs ys hx.2 hy.2 (fun z => ?_)]
    constructor
    · intro hz
      rcases List.mem_cons.1 ((h z).1 (by simp [hz])) with h1 | h1
      · have := hx.1 z hz
        omega
      · exact h1
    · intro hz
      rcases List.mem_cons.1 ((h z).2 (by simp [hz])) with h1 | h1
      · have := hy.1 z hz
        omega
      · exact h1

/-- The operands of a node. -/
def kids (n : Nd) : List Int := if n.k = 0 then [] else if n.k = 5 then [n.a] else [n.a, n.b]
def nodeAt (ns : List Nd) (x : Int) : Nd := ns[x.toNat]?.getD ⟨0, 0, 0, 0⟩
/-- Each node's operands stand before it. -/
def OkDag (ns : List Nd) : Prop := ∀ x : Int, 0 ≤ x → x < ns.length → ∀ c ∈ kids (nodeAt ns x), 0 ≤ c ∧ c < x

/-- Who is reached from those in R. -/
inductive Reach (ns : List Nd) (R : Int → Prop) : Int → Prop where
  | root (x : Int) (h : R x) (h0 : 0 ≤ x) (h1 : x < ns.length) : Reach ns R x
  | kid (x c : Int) (h : Reach ns R x) (hc : c ∈ kids (nodeAt ns x)) : Reach ns R c
theorem Reach.range {ns : List Nd} (ok : OkDag ns) {R : Int → Prop} {x : Int} (h : Reach ns R x) : 0 ≤ x ∧ x < ns.length := by
  induction h with
  | root x _ h0 h1 => exact ⟨h0, h1⟩
  | kid x c _ hc ih =>
    have := ok x ih.1 ih.2 c hc
    omega

open Classical in
/-- All that are reached, rising. -/
noncomputable def belowL (ns : List Nd) (R : Int → Prop) : List Int := ((List.range ns.length).filter fun (i : Nat) => decide (Reach ns R (i : Int))).map fun (i : Nat) => (i : Int)
theorem mem_belowL {ns : List Nd} (ok : OkDag ns) {R : Int → Prop} {x : Int} : x ∈ belowL ns R ↔ Reach ns R x := by
  unfold belowL
  rw [List.mem_map]
  constructor
  · rintro ⟨i, hi, rfl⟩
    rw [List.mem_filter] at hi
    simpa using hi.2
  · intro h
    obtain ⟨h0, h1⟩ := h.range ok
    refine ⟨x.toNat, ?_, by omega⟩
    rw [List.mem_filter, List.mem_range, show ((x.toNat : Nat) : Int) = x by omega]
    exact ⟨by omega, by simpa using h⟩
theorem belowL_asc (ns : List Nd) (R : Int → Prop) : (belowL ns R).Pairwise (· < ·) := by
  unfold belowL
  rw [List.pairwise_map]
  refine (List.Pairwise.filter _ (List.pairwise_lt_range (n := ns.length))).imp ?_
  intro a b h
  omega

/-- A set that is closed, holds the roots, and holds only what is reached. -/
theorem closed_eq {ns : List Nd} (ok : OkDag ns) {R : Int → Prop} {xs : List Int} (hasc : xs.Pairwise (· < ·)) (h1 : ∀ x ∈ xs, Reach ns R x) (hr : ∀ x, R x → 0 ≤ x → x < ns.length → x ∈ xs) (hk : ∀ x ∈ xs, ∀ c ∈ kids (nodeAt ns x), c ∈ xs) : xs = belowL ns R := by
  refine asc_ext _ _ hasc (belowL_asc ns R) (fun x => ?_)
  rw [mem_belowL ok]
  refine ⟨h1 x, fun h => ?_⟩
  induction h with
  | root x h h0 h1 => exact hr x h h0 h1
  | kid x c _ hc ih => exact hk x ih c hc

theorem nodup_len : ∀ (n : Nat) (xs : List Int), xs.Nodup → (∀ x ∈ xs, 0 ≤ x ∧ x < (n : Int)) → xs.length ≤ n
  | 0, [], _, _ => by simp
  | 0, x :: xs, _, h => by have := h x (by simp); omega
  | n + 1, xs, hn, h => by
    by_cases hm : (n : Int) ∈ xs
    · have h1 := nodup_len n (xs.erase (n : Int)) (hn.erase _) (fun x hx => by
        rw [hn.mem_erase_iff] at hx
        have := h x hx.2
        have h3 := hx.1
        omega)
      rw [List.length_erase_of_mem hm] at h1
      omega
    · have h1 := nodup_len n xs hn (fun x hx => by
        have h2 := h x hx
        have h3 : x ≠ (n : Int) := fun e => hm (e ▸ hx)
        omega)
      omega

/-- A depth-first search: F found, S to do. -/
structure Dfs (ns : List Nd) (R : Int → Prop) (F S : List Int) (V : Int → Prop) : Prop where
  nd : (F ++ S).Nodup
  v : ∀ x, V x ↔ x ∈ F ++ S
  r : ∀ x ∈ F ++ S, Reach ns R x
theorem Dfs.visit {ns : List Nd} {R : Int → Prop} {F S : List Int} {V V' : Int → Prop} {x : Int} (h : Dfs ns R F S V) (hx : Reach ns R x) (hv : ¬ V x) (hV : ∀ y, V' y ↔ V y ∨ y = x) : Dfs ns R F (S ++ [x]) V' := by
  have hn : x ∉ F ++ S := fun hm => hv ((h.v x).2 hm)
  refine ⟨?_, ?_, ?_⟩
  · rw [← List.append_assoc, List.nodup_append]
    refine ⟨h.nd, by simp, fun a ha b hb => ?_⟩
    rintro rfl
    have e : a = x := by simpa using hb
    exact hn (e ▸ ha)
  · intro y
    rw [hV, h.v y, ← List.append_assoc, List.mem_append (s := F ++ S)]
    simp
  · intro y hy
    rw [← List.append_assoc, List.mem_append] at hy
    rcases hy with hy | hy
    · exact h.r y hy
    · have e : y = x := by simpa using hy
      exact e ▸ hx
theorem Dfs.pop {ns : List Nd} {R : Int → Prop} {F S : List Int} {V : Int → Prop} {x : Int} (h : Dfs ns R F (S ++ [x]) V) : Dfs ns R (F ++ [x]) S V := by
  have hp : (F ++ (S ++ [x])).Perm ((F ++ [x]) ++ S) := by
    rw [List.append_assoc]
    exact List.Perm.append_left F List.perm_append_comm
  exact ⟨hp.nodup_iff.1 h.nd, fun y => by rw [h.v y, hp.mem_iff], fun y hy => h.r y (hp.mem_iff.2 hy)⟩
theorem Dfs.len {ns : List Nd} (ok : OkDag ns) {R : Int → Prop} {F S : List Int} {V : Int → Prop} (h : Dfs ns R F S V) : F.length + S.length ≤ ns.length := by
  have := nodup_len ns.length (F ++ S) h.nd (fun x hx => (h.r x hx).range ok)
  rwa [List.length_append] at this
theorem sort_eq {xs : List Int} (hn : xs.Nodup) : (xs.mergeSort fun x y => decide (x ≤ y)).Pairwise (· < ·) := by
  have h1 : (xs.mergeSort fun x y => decide (x ≤ y)).Pairwise (fun x y => decide (x ≤ y) = true) :=
    List.pairwise_mergeSort (fun a b c h1 h2 => by simp at *; omega) (fun a b => by simp; omega) xs
  have h2 : (xs.mergeSort fun x y => decide (x ≤ y)).Nodup := (List.mergeSort_perm xs _).nodup_iff.2 hn
  have h3 := h1.and h2
  refine h3.imp ?_
  rintro a b ⟨ha, hb⟩
  have ha' : a ≤ b := by simpa using ha
  omega
theorem dfs_done {ns : List Nd} (ok : OkDag ns) {R : Int → Prop} {F : List Int} {V : Int → Prop} (h : Dfs ns R F [] V) (hk : ∀ x ∈ F, ∀ c ∈ kids (nodeAt ns x), V c) (hr : ∀ x, R x → 0 ≤ x → x < ns.length → V x) :
    (F.mergeSort fun x y => decide (x ≤ y)) = belowL ns R := by
  have hp := List.mergeSort_perm F (fun x y => decide (x ≤ y))
  have hnd : F.Nodup := by simpa using h.nd
  have hv : ∀ x, V x ↔ x ∈ F := fun x => by simpa using h.v x
  refine closed_eq ok (sort_eq hnd) (fun x hx => h.r x (by simpa using hp.mem_iff.1 hx)) (fun x hx h0 h1 => hp.mem_iff.2 ((hv x).1 (hr x hx h0 h1))) (fun x hx c hc => hp.mem_iff.2 ((hv c).1 (hk x (hp.mem_iff.1 hx) c hc)))
end Go.Proofs.YtigpnopeacicpaaDoor
