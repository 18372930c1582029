/-
  Joined texts.
-/
import Derived.Test.YtigpnopeacicpaaGreatDoorTrJ28
import Derived.Laws.MakeOwn
import Derived.Test.YtigpnopeacicpaaGreatDoorTrJ27
/-
  code.Check: the first node that may not be there.
-/
namespace Go.Proofs.YtigpnopeacicpaaGreatDoor
open Go.RowKit

def standsB (i : Int) (k : Int) (f : Nat) (a b : Int) : Bool := if k = 0 then finB f else if k = 5 then decide (a < i) else decide (a < i) && decide (b < i)

set_option maxHeartbeats 400000 in
theorem stands_any (k : Int) (f : Nat) (a b i : Int) (hf : Hid (f < 2 ^ 64)) (w : World) :
    Calls Tryz.prog 159 #[.agg #[.int .i64 k, .float .f64 f, .int .i64 a, .int .i64 b], .int .i64 i] w fun e w' => e = .returned (.bool (standsB i k f a b)) ∧ Only [] w w' := by
  go_enter Tryz.func159, Tryz.ntmps159
  go_wp2_with (go_at_call 160; (with_reducible refine (finite_any _ hf.out _).mono ?_); rintro e w' ⟨rfl, rfl⟩)
  all_goals go_ret
  all_goals (refine ⟨?_, ((Only.refl [] w).alloc _)⟩)
  all_goals (simp_all [standsB]; try omega)

theorem run_store_float (P : Program) (w : World) (a : Addr) (k : FloatKind) (n : Nat) (m : Mode) : (store a (.float k n) m).run P w = stored P w a (.float k n) m := run_store P w a _ m rfl
attribute [local go_sem] run_store_float

def NRead (w : World) (A : Option Addr) (L : List Nd) : Prop := ∀ k, k < L.length → ∃ b o, A = some ⟨b, o, none⟩ ∧ Cells4 w b (o + k * 4) (L[k]?.getD nd0)
theorem NRead.only {w w' : World} {A : Option Addr} {L : List Nd} (h : NRead w A L) (ho : Only [] w w') : NRead w' A L := fun k hk => by
  obtain ⟨b, o, h1, h2⟩ := h k hk
  exact ⟨b, o, h1, h2.only ho (by simp)⟩

theorem NodesAt.read {w : World} {A : Option Addr} {n c : Nat} {ns : List Nd} (h : NodesAt w (.slice A n c) ns) : n = ns.length ∧ NRead w A ns := by
  obtain ⟨A', c', e, _, _, hc⟩ := h.shape
  injection e with e1 e2 e3
  subst e1
  refine ⟨e2, fun k hk => ?_⟩
  obtain ⟨g, h1, h2⟩ := hc k hk
  exact ⟨g, 0, h1, by rw [Nat.zero_add]; exact h2⟩
theorem addr_add (b o j : Nat) : (⟨b, o, none⟩ : Addr).add j = ⟨b, o + j, none⟩ := by
  unfold Addr.add
  by_cases h : j = 0 <;> simp [h]
theorem NRead.news {w : World} {b o : Nat} {L : List Nd} (h : NRead w (some ⟨b, o, none⟩) L) : ∀ j u, (flat L)[j]? = some u → w.cell? ((⟨b, o, none⟩ : Addr).add j) = some u := by
  intro j u hu
  have hj : j < (flat L).length := (List.getElem?_eq_some_iff.1 hu).1
  rw [flat_length] at hj
  obtain ⟨b', o', e, h0, h1, h2, h3⟩ := h (j / 4) (by omega)
  injection e with e
  injection e with e1 e2
  subst e1 e2
  have hf := flat_get L (j / 4) (j % 4) (by omega) (by omega)
  rw [show j / 4 * 4 + j % 4 = j by omega, hu] at hf
  rw [addr_add]
  have e : o + j = o + j / 4 * 4 + j % 4 := by omega
  rw [e, hf]
  have h4 : j % 4 < 4 := by omega
  generalize j % 4 = r at h4
  match r, h4 with
  | 0, _ => exact h0
  | 1, _ => exact h1
  | 2, _ => exact h2
  | 3, _ => exact h3

def IRead (w : World) (A : Option Addr) (xs : List Int) : Prop := ∀ k, k < xs.length → ∃ b o, A = some ⟨b, o, none⟩ ∧ w.cell? ⟨b, o + k, none⟩ = some (.int .i64 (xs[k]?.getD 0))
theorem IRead.only {w w' : World} {A : Option Addr} {xs : List Int} (h : IRead w A xs) (ho : Only [] w w') : IRead w' A xs := fun k hk => by
  obtain ⟨b, o, h1, h2⟩ := h k hk
  exact ⟨b, o, h1, ho.cell h2 (by simp)⟩

def okB (L : List Nd) (j : Nat) : Bool := takesB j (L[j]?.getD nd0).k (L[j]?.getD nd0).f (L[j]?.getD nd0).a (L[j]?.getD nd0).b
def AllOk (L : List Nd) : Prop := ∀ j, j < L.length → okB L j = true
def FirstBad (L : List Nd) (i : Nat) : Prop := i < L.length ∧ (∀ j, j < i → okB L j = true) ∧ okB L i = false
theorem takes_stands (j : Nat) (k : Int) (f : Nat) (a b : Int) : takesB j k f a b = (validB k f a b && standsB j k f a b) := by
  unfold takesB
  cases hv : validB k f a b
  · rfl
  · have hv' : (k = 0 ∨ 0 ≤ a ∧ 0 ≤ b) := by
      simp only [validB, decide_eq_true_eq] at hv
      omega
    simp only [Bool.true_and, standsB, hasB]
    by_cases h0 : k = 0
    · simp [h0]
    · simp only [h0, if_false]
      have h1 : 0 ≤ a ∧ 0 ≤ b := by omega
      by_cases h5 : k = 5
      · simp [h5, h1]
      · simp [h5, h1]

def CkPost (L : List Nd) (w : World) (e : Ending) (w' : World) : Prop :=
  ((AllOk L ∧ e = .returned .nilIface) ∨ ∃ i, FirstBad L i ∧ ∃ v, e = .returned v ∧ IsAt w w' (i : Int) (.iface 188 (.int .i64 1)) v) ∧ Only [] w w'

set_option maxHeartbeats 1600000 in
set_option maxRecDepth 100000 in
theorem ccheck_any (A : Option Addr) (c : Nat) (L : List Nd) (w : World) (hA : Hid (NRead w A L)) (hf : Hid (∀ k, k < L.length → (L[k]?.getD nd0).f < 2 ^ 64)) (hl : (L.length : Int) ≤ 1000) :
    Calls Tryz.prog 135 #[.slice A L.length c] w (CkPost L w) := by
  go_enter Tryz.func135, Tryz.ntmps135
  go_wp2_with fail
  go_loopw [11] (fun i wr => ∃ k : Nat, k ≤ L.length ∧ i = .int .i64 (k : Int) ∧ Only [] w wr ∧ (∀ j, j < k → okB L j = true)) (fun i _ => L.length - (intOf i).toNat)
  case atStart => exact ⟨0, Nat.zero_le _, rfl, Only.refl _ _, fun j hj => by omega⟩
  case round =>
    obtain ⟨k, hk, rfl, ho, hall⟩ := hrel
    have Ho := Lib.hid ho
    have Hall := Lib.hid hall
    clear ho hall
    by_cases hlt : k < L.length
    · obtain ⟨b, o, rfl, h1⟩ := hA.out k hlt
      obtain ⟨p0, p1, p2, p3⟩ := h1.only Ho.out (by simp)
      have hn := Lib.hid (hf.out k hlt)
      have hok : Hid (okB L k = (validB (L[k]?.getD nd0).k (L[k]?.getD nd0).f (L[k]?.getD nd0).a (L[k]?.getD nd0).b && standsB k (L[k]?.getD nd0).k (L[k]?.getD nd0).f (L[k]?.getD nd0).a (L[k]?.getD nd0).b)) := by show _ = _; exact takes_stands _ _ _ _ _
      clear h1
      generalize L[k]?.getD nd0 = n at p0 p1 p2 p3 hn hok
      obtain ⟨nk, nf, na, nb⟩ := n
      have hk' : (k : Int) < (L.length : Int) := by omega
      go_wp2_with fail
      refine (cvalid_any nk nf na nb _).mono ?_
      rintro e w1 ⟨rfl, ho1⟩
      have hB := (Blk.new wr 95 [.int .i64 nk, .float .f64 nf, .int .i64 na, .int .i64 nb])
      obtain ⟨q0, q1, q2, q3⟩ := box_cells hB ho1 (by simp)
      have Ho1 := Lib.hid ((Ho.out.alloc (.cells #[.int .i64 nk, .float .f64 nf, .int .i64 na, .int .i64 nb] 95)).nil_trans ho1)
      clear ho1 hB
      cases hv : validB nk nf na nb
      · have hok' : Hid (okB L k = false) := by show _ = _; rw [hok.out, hv]; rfl
        clear hok
        go_wp2_with fail
        (with_reducible refine (malformed_any _).mono ?_)
        rintro e w' ⟨rfl, rfl⟩
        go_wp2_with fail
        (with_reducible refine (node_any _ _ _ _).mono ?_)
        rintro e w2 ⟨v, rfl, hv2, ho2⟩
        go_wp2_with fail
        go_ret
        exact ⟨.inr ⟨k, ⟨hlt, Hall.out, hok'.out⟩, v, rfl, hv2.old Ho1.out.size⟩, Ho1.out.nil_trans ho2⟩
      · cases hs : standsB (k : Int) nk nf na nb
        · have hok' : Hid (okB L k = false) := by show _ = _; rw [hok.out, hv, hs]; rfl
          clear hok
          go_wp2_with fail
          (with_reducible refine (stands_any _ _ _ _ _ hn _).mono ?_)
          rintro e w2 ⟨rfl, ho2⟩
          have Ho2 := Lib.hid (Ho1.out.nil_trans ho2)
          clear ho2
          go_wp2_with fail
          (with_reducible refine (malformed_any _).mono ?_)
          rintro e w' ⟨rfl, rfl⟩
          go_wp2_with fail
          (with_reducible refine (node_any _ _ _ _).mono ?_)
          rintro e w3 ⟨v, rfl, hv2, ho3⟩
          go_wp2_with fail
          go_ret
          exact ⟨.inr ⟨k, ⟨hlt, Hall.out, hok'.out⟩, v, rfl, hv2.old Ho2.out.size⟩, Ho2.out.nil_trans ho3⟩
        · have hok' : Hid (okB L k = true) := by show _ = _; rw [hok.out, hv, hs]; rfl
          clear hok
          go_wp2_with fail
          (with_reducible refine (stands_any _ _ _ _ _ hn _).mono ?_)
          rintro e w2 ⟨rfl, ho2⟩
          have Ho2 := Lib.hid (Ho1.out.nil_trans ho2)
          clear ho2
          go_wp2_with fail
          go_roundw
          case rel =>
            refine ⟨k + 1, by omega, by go_num, Ho2.out, fun j hj => ?_⟩
            by_cases e : j = k
            · rw [e]; exact hok'.out
            · exact Hall.out j (by omega)
          case measure => simp [intOf]; omega
    · have hnl : ¬ (k : Int) < (L.length : Int) := by omega
      go_wp2_with fail
      go_ret
      exact ⟨.inl ⟨fun j hj => Hall.out j (by omega), rfl⟩, Ho.out⟩
end Go.Proofs.YtigpnopeacicpaaGreatDoor

/-
  What Load makes of nodes: the plain law.
-/
namespace Go.Proofs.YtigpnopeacicpaaGreatDoor
open Go.RowKit

def reNd (ids : List Int) (n : Nd) : Nd := ⟨n.k, n.f, if n.k = 0 then n.a else ids[n.a.toNat]?.getD 0, if n.k = 0 ∨ n.k = 5 then n.b else ids[n.b.toNat]?.getD 0⟩
def ldStep (r : Option Nat) (q : List Nd × List Int) (n : Nd) : List Nd × List Int := (putNs r q.1 (reNd q.2 n), q.2 ++ [putId r q.1 (reNd q.2 n)])
def ld (r : Option Nat) (L : List Nd) : List Nd × List Int := L.foldl (ldStep r) ([], [])
theorem ld_snoc (r : Option Nat) (L : List Nd) (n : Nd) : ld r (L ++ [n]) = ldStep r (ld r L) n := by simp [ld]
theorem ld_take (r : Option Nat) (L : List Nd) {k : Nat} (hk : k < L.length) : ld r (L.take (k + 1)) = ldStep r (ld r (L.take k)) (L[k]?.getD nd0) := by
  rw [List.take_succ_eq_append_getElem hk, ld_snoc]
  simp [hk]
structure LdOk (q : List Nd × List Int) (k : Nat) : Prop where
  ids : q.2.length = k
  ns : q.1.length ≤ k
  at_ : ∀ j, j < k → 0 ≤ q.2[j]?.getD 0 ∧ q.2[j]?.getD 0 < q.1.length

theorem reNd_takes {q : List Nd × List Int} {k : Nat} (h : LdOk q k) (hk : k ≤ 1000) {n : Nd} (hn : takesB k n.k n.f n.a n.b = true) :
    takesB q.1.length (reNd q.2 n).k (reNd q.2 n).f (reNd q.2 n).a (reNd q.2 n).b = true := by
  obtain ⟨nk, nf, na, nb⟩ := n
  have hl := h.ns
  simp only at hn
  have hfine := fine_of _ _ _ _ _ hn
  unfold Fine at hfine
  rcases hfine with ⟨hv, h0, hf⟩ | ⟨hv, h5, ha⟩ | ⟨hv, h0, h5, ha, hb⟩
  · subst h0
    simp [reNd, takesB, hv, hf]
  · subst h5
    simp only [validB, decide_eq_true_eq] at hv
    have hb : nb = 0 := by
      rcases hv with h | h
      · omega
      · exact h.2.2.1 trivial
    subst hb
    obtain ⟨g1, g2⟩ := h.at_ na.toNat (by omega)
    simp only [reNd, takesB, validB, hasB]
    simp
    omega
  · simp only [validB, decide_eq_true_eq] at hv
    obtain ⟨g1, g2⟩ := h.at_ na.toNat (by omega)
    obtain ⟨g3, g4⟩ := h.at_ nb.toNat (by omega)
    simp only [reNd, takesB, validB, hasB, h0, h5, if_false, or_self]
    simp
    omega
theorem ldStep_ok (r : Option Nat) {q : List Nd × List Int} {k : Nat} (h : LdOk q k) (hk : k ≤ 1000) {n : Nd} (hn : takesB k n.k n.f n.a n.b = true) : LdOk (ldStep r q n) (k + 1) := by
  have ht := reNd_takes h hk hn
  have hle := putNs_le r q.1 (reNd q.2 n)
  have h1 := h.ids
  have h2 := h.ns
  have hmono : q.1.length ≤ (putNs r q.1 (reNd q.2 n)).length := by
    unfold putNs
    rw [if_pos ht]
    split <;> simp
  have hid : 0 ≤ putId r q.1 (reNd q.2 n) ∧ putId r q.1 (reNd q.2 n) < (putNs r q.1 (reNd q.2 n)).length := by
    unfold putNs putId
    rw [if_pos ht, if_pos ht]
    by_cases hm : r ≠ none ∧ reNd q.2 n ∈ q.1
    · rw [if_pos hm, if_pos hm]
      have := List.idxOf_lt_length_iff.2 hm.2
      omega
    · rw [if_neg hm, if_neg hm]
      simp
      omega
  refine ⟨by simp [ldStep, h1], by simp only [ldStep]; omega, fun j hj => ?_⟩
  simp only [ldStep]
  by_cases e : j = k
  · subst e
    rw [List.getElem?_append_right (by omega), h1]
    simpa using hid
  · rw [List.getElem?_append_left (by omega)]
    have := h.at_ j (by omega)
    omega
theorem ld_ok (r : Option Nat) {L : List Nd} (hL : L.length ≤ 1000) (hok : AllOk L) : ∀ k, k ≤ L.length → LdOk (ld r (L.take k)) k
  | 0, _ => ⟨rfl, by simp [ld], fun j hj => by omega⟩
  | k + 1, hk => by
    rw [ld_take r L (by omega)]
    exact ldStep_ok r (ld_ok r hL hok k (by omega)) (by omega) (hok k (by omega))
end Go.Proofs.YtigpnopeacicpaaGreatDoor

/-
  dag.Load.
-/
namespace Go.Proofs.YtigpnopeacicpaaGreatDoor
open Go.RowKit
attribute [local go_sem] run_store_float

theorem Tryz.intInfo : (Tryz.prog.info? 3).map (fun i => (i.zero, i.size, i.bytes)) = some (some (.int .i64 0), 1, 8) := by kernel_rfl
theorem int_parts : ∃ i : TypeInfo, Tryz.prog.info? 3 = some i ∧ i.zero = some (.int .i64 0) ∧ i.size = 1 ∧ i.bytes = 8 := by
  obtain ⟨i, h, e⟩ := Option.map_eq_some_iff.1 Tryz.intInfo
  simp only [Prod.mk.injEq] at e
  exact ⟨i, h, e.1, e.2.1, e.2.2⟩

def ints (xs : List Int) : List Value := xs.map fun x => .int .i64 x
def IntsAt (w : World) (u : Value) (xs : List Int) : Prop := w.ownsRow 0 3 1 u xs.length (ints xs)
theorem IntsAt.shape {w : World} {u : Value} {xs : List Int} (h : IntsAt w u xs) : ∃ A c, u = .slice A xs.length c ∧ IRead w A xs := by
  rcases h.2 with ⟨rfl, h0⟩ | ⟨g, cap, cur, rfl, _, hg, hn, hm, _⟩
  · exact ⟨none, 0, by rw [h0], fun k hk => by omega⟩
  · refine ⟨_, cap, rfl, fun k hk => ⟨g, 0, rfl, ?_⟩⟩
    have hc := World.ownsRow.cells h (g := g) rfl
    have h1 := hc k (.int .i64 (xs[k]?.getD 0)) (by simp [ints, hk])
    rw [addr_add] at h1
    exact h1
theorem IntsAt.only {w w' : World} {u : Value} {xs : List Int} {S : List Nat} (h : IntsAt w u xs) (ho : Only S w w') (hn : ∀ g, u.ownBlock = some g → g ∉ S) : IntsAt w' u xs := ownsRow_only h ho hn
theorem IntsAt.lt {w : World} {u : Value} {xs : List Int} (h : IntsAt w u xs) : ∀ g, u.ownBlock = some g → g < w.heap.size := fun g hg => (World.ownsRow.lt h g hg).2

structure LdRel (w0 : World) (d : Nat) (r : Option Nat) (q : List Nd × List Int) (v u : Value) (wr : World) : Prop where
  own : Own w0 wr d v r q.1
  ids : IntsAt wr u q.2
  fresh : ∀ g, u.ownBlock = some g → w0.heap.size ≤ g ∧ g ∉ foot d v r
theorem LdRel.only {w0 w w' : World} {d : Nat} {r : Option Nat} {q : List Nd × List Int} {v u : Value} (h : LdRel w0 d r q v u w) (ho : Only [] w w') : LdRel w0 d r q v u w' :=
  ⟨h.own.other ho (by simp) (by simp), h.ids.only ho (by simp), h.fresh⟩
theorem LdRel.put {w0 w w' : World} {d : Nat} {r : Option Nat} {q : List Nd × List Int} {v v' u : Value} {ns' : List Nd} (h : LdRel w0 d r q v u w) (hs : Step d v r w v' w') (hd : DagIs w' d v' r ns') : LdRel w0 d r (ns', q.2) v' u w' :=
  ⟨h.own.step hs hd, h.ids.only hs.2 (fun g hg => (h.fresh g hg).2), fun g hg => ⟨(h.fresh g hg).1, fun hm => by
    rcases hs.foot g hm with h1 | h1
    · exact (h.fresh g hg).2 h1
    · have := h.ids.lt g hg
      omega⟩⟩
theorem LdRel.pre {w0 w1 w : World} {d : Nat} {r : Option Nat} {q : List Nd × List Int} {v u : Value} (h : LdRel w1 d r q v u w) (ho : Only [] w0 w1) : LdRel w0 d r q v u w :=
  ⟨⟨h.own.is, fun k hk => Nat.le_trans ho.size (h.own.fresh k hk), ho.nil_trans h.own.only⟩, h.ids, fun g hg => ⟨Nat.le_trans ho.size (h.fresh g hg).1, (h.fresh g hg).2⟩⟩
theorem LdRel.push {w0 w w' : World} {d : Nat} {r : Option Nat} {q : List Nd × List Int} {v u : Value} {g cap : Nat} {x : Int} (h : LdRel w0 d r q v u w) (hown : w'.ownsRow 0 3 1 (.slice (some ⟨g, 0, none⟩) (q.2.length + 1) cap) (q.2.length + 1) (ints q.2 ++ [.int .i64 x]))
    (hgr : (w.alloc (.cells #[.int .i64 x] 3)).grownBy w' u.ownBlock) (hat : u.ownBlock = some g ∨ g = w.heap.size + 1) : LdRel w0 d r (q.1, q.2 ++ [x]) v (.slice (some ⟨g, 0, none⟩) (q.2.length + 1) cap) w' := by
  have ho : Only u.ownBlock.toList w w' := ((Only.refl _ w).alloc _).trans (Only.of_grown (S := u.ownBlock.toList) hgr (by simp)) (fun k hk => .inl hk)
  refine ⟨h.own.other ho (fun k hk => (h.fresh k (by simpa using hk)).1) (fun k hk hm => (h.fresh k (by simpa using hm)).2 hk), ?_, ?_⟩
  · unfold IntsAt
    simpa [ints] using hown
  · intro g' hg'
    have e : g = g' := by simpa [Value.ownBlock] using hg'
    subst e
    rcases hat with e | e
    · exact h.fresh g e
    · refine ⟨by have := h.own.only.size; omega, fun hm => ?_⟩
      have := h.own.is.lt g hm
      omega

theorem ld_at {r : Option Nat} {ns : List Nd} {ids : List Int} {n m : Nd} {X : List Nd × List Int} (e : reNd ids n = m) (hT : takesB (ns, ids).1.length (reNd (ns, ids).2 n).k (reNd (ns, ids).2 n).f (reNd (ns, ids).2 n).a (reNd (ns, ids).2 n).b = true) (hL : X = ldStep r (ns, ids) n) :
    takesB ns.length m.k m.f m.a m.b = true ∧ X = (putNs r ns m, ids ++ [putId r ns m]) := by
  subst e
  exact ⟨hT, hL⟩

def LdGood (same : Bool) (L : List Nd) (w : World) (e : Ending) (w' : World) : Prop :=
  ∃ d r v u, e = .returned (.tuple #[.pointer (some ⟨d, 0, none⟩), u, .nilIface]) ∧ (r = none ↔ same = false) ∧ LdRel w d r (ld r L) v u w'

set_option maxHeartbeats 3200000 in
set_option maxRecDepth 100000 in
theorem load_good (same : Bool) (A : Option Addr) (c : Nat) (L : List Nd) (w : World) (hA : Hid (NRead w A L)) (hf : Hid (∀ k, k < L.length → (L[k]?.getD nd0).f < 2 ^ 64)) (hl : (L.length : Int) ≤ 1000) (hok : Hid (AllOk L)) :
    Calls Tryz.prog 111 #[.bool same, .slice A L.length c] w (LdGood same L w) := by
  obtain ⟨i0, hi, hz0, hz1, hz2⟩ := int_parts
  go_enter Tryz.func111, Tryz.ntmps111
  go_wp2_with fail
  refine (ccheck_any A c L _ hA hf hl).mono ?_
  rintro e w1 ⟨⟨-, rfl⟩ | ⟨i, hi, _⟩, ho1⟩
  rotate_left 1
  · have := hok.out i hi.1
    rw [hi.2.2] at this
    cases this
  have Ho1 := Lib.hid ho1
  clear ho1
  go_wp2_with fail
  refine (new_any same _).mono ?_
  rintro e w2 ⟨r, rfl, hd2, hr2, hm2, ho2⟩
  have A2 := Lib.hid (own_new hd2 hm2 ho2)
  have Hr := Lib.hid hr2
  clear hd2 hm2 ho2 hr2
  obtain ⟨w3, hmk, hrow, hgr⟩ := run_make_own (P := Tryz.prog) w2 0 108 3 i0 (.int .i64 0) 1 Tryz.underlying108 hi hz0 hz1 .i64 .i64 L.length (by rw [hz2]; omega) (by simp only [maxLen]; omega) (Nat.zero_le _)
  generalize hdd : w1.heap.size = d at *
  have R0 : Hid (LdRel w1 d r ([], []) (.slice none 0 0) (.slice (some ⟨w2.heap.size, 0, none⟩) 0 L.length) w3) :=
    ⟨A2.out.other (Only.of_grown (S := []) hgr (by simp)) (by simp) (by simp), hrow, fun g hg => by
      have e : w2.heap.size = g := by simpa [Value.ownBlock] using hg
      subst e
      exact ⟨A2.out.only.size, fun hm => by
        have := A2.out.is.lt _ hm
        omega⟩⟩
  clear A2 hrow hgr
  go_wp2_with fail
  clear hmk
  go_loopw [9, 26] (fun u i wr => ∃ (k : Nat) (v : Value), k ≤ L.length ∧ i = .int .i64 (k : Int) ∧ LdRel w1 d r (ld r (L.take k)) v u wr) (fun _ i _ => L.length - (intOf i).toNat)
  case atStart => exact ⟨0, _, Nat.zero_le _, rfl, R0.out⟩
  case round =>
    obtain ⟨k, v, hk, rfl, hR⟩ := hrel
    have Hle := ld_ok r (by omega) hok.out k hk
    have Htake : k < L.length → ld r (L.take (k + 1)) = ldStep r (ld r (L.take k)) (L[k]?.getD nd0) := fun h => ld_take r L h
    have Hfin : k = L.length → ld r (L.take k) = ld r L := fun e => by rw [e, List.take_length]
    have HLe := Lib.hid Hle
    have HTake := Lib.hid Htake
    have HFin := Lib.hid Hfin
    have HR := Lib.hid hR
    clear Hle Htake Hfin hR R0
    generalize ld r (L.take k) = q at *
    obtain ⟨ns, ids⟩ := q
    by_cases hlt : k < L.length
    · obtain ⟨b, o, rfl, h1⟩ := hA.out k hlt
      obtain ⟨p0, p1, p2, p3⟩ := (h1.only Ho1.out (by simp)).only HR.out.own.only (by simp)
      have HN := Lib.hid (hf.out k hlt)
      have hokk : takesB k (L[k]?.getD nd0).k (L[k]?.getD nd0).f (L[k]?.getD nd0).a (L[k]?.getD nd0).b = true := hok.out k hlt
      have HT := Lib.hid (reNd_takes HLe.out (by omega) hokk)
      have HL1 := Lib.hid (HTake.out hlt)
      clear h1 HTake HFin
      generalize L[k]?.getD nd0 = n at p0 p1 p2 p3 HN hokk HT HL1
      obtain ⟨nk, nf, na, nb⟩ := n
      have hk' : (k : Int) < (L.length : Int) := by omega
      have hsplit : nk = 0 ∨ (nk = 5 ∧ nb = 0 ∧ ∃ x : Nat, na = (x : Int) ∧ x < k) ∨ ((nk = 1 ∨ nk = 2 ∨ nk = 3 ∨ nk = 4) ∧ ∃ x y : Nat, na = (x : Int) ∧ nb = (y : Int) ∧ x < k ∧ y < k) := by
        have h := fine_of _ _ _ _ _ hokk
        unfold Fine at h
        simp only [validB, decide_eq_true_eq] at h
        rcases h with ⟨_, h, _⟩ | ⟨hv, h, ha⟩ | ⟨hv, h0, h5, ha, hb⟩
        · exact .inl h
        · refine .inr (.inl ⟨h, by omega, na.toNat, by omega, by omega⟩)
        · exact .inr (.inr ⟨by omega, na.toNat, nb.toNat, by omega, by omega, by omega, by omega⟩)
      clear hokk
      obtain ⟨uA, uc, rfl, hread⟩ := HR.out.ids.shape
      simp only at hread
      have hil := HLe.out.ids
      simp only at hil
      have HRead := Lib.hid hread
      have HIL : Hid (ids.length ≤ 1000 ∧ ids.length = k) := by show _ ∧ _; omega
      clear hread hil
      simp only at p0 p1 p2 p3
      replace HN : Hid (nf < 2 ^ 64) := HN
      have hns : ns.length < 20000 := by have := HLe.out.ns; simp only at this; omega
      rcases hsplit with rfl | ⟨rfl, rfl, x, rfl, hx⟩ | ⟨h4, x, y, rfl, rfl, hx, hy⟩
      · have HX := Lib.hid (ld_at (m := ⟨0, nf, na, nb⟩) (by simp [reNd]) HT.out HL1.out)
        clear HT HL1
        go_wp2_with fail
        refine (put_any d v r ns 0 nf na nb _ HN (HR.out.only ((Only.refl _ _).alloc _)).own.is hns).mono ?_
        rintro e w5 ⟨ev, v5, rfl, hd5, hblk, ho5, hev⟩
        rw [if_pos HX.out.1] at hev
        subst hev
        have R5 := Lib.hid ((HR.out.only ((Only.refl _ _).alloc _)).put ⟨hblk, ho5⟩ hd5)
        clear hblk ho5 hd5 HR HRead
        go_wp2_with (at_builtin; refine wpList_append_lies _ rfl _ _ _ rfl 0 3 i0 _ 1 8 Tryz.underlying108 hi hz0 hz1 hz2 rfl (by decide) (.slice _ ids.length uc) ids.length (ints ids) rfl (by exact R5.out.ids.alloc _) ⟨w5.heap.size, 0, none⟩ 1 1 [.int .i64 (putId r ns ⟨0, nf, na, nb⟩)] rfl rfl (by exact cell_one_new _ _ _) (by simp [Value.oneCell']) (by decide) (by have := HIL.out.1; simp only [maxLen]; omega) (by have := HIL.out.1; omega) (Nat.zero_le _) (w5.heap.size + 1) (by simp) ?_; intro g cap w6 hown6 hgr6 hat6 hlt6; have R6 := Lib.hid (R5.out.push hown6 hgr6 hat6); clear hown6 hgr6 hat6)
        go_roundw
        case rel => exact ⟨k + 1, v5, by omega, by go_num, by rw [HX.out.2]; exact R6.out⟩
        case measure => simp [intOf]; omega
      · have HX := Lib.hid (ld_at (m := ⟨5, nf, ids[x]?.getD 0, 0⟩) (by simp [reNd]) HT.out HL1.out)
        clear HT HL1
        obtain ⟨ib, io, rfl, ix⟩ := HRead.out x (by have := HIL.out.2; omega)
        have hx1 : x < ids.length := by have := HIL.out.2; omega
        have ix' := ((Only.refl [] wr).alloc (.cells #[.int .i64 5, .float .f64 nf, .int .i64 (x : Int), .int .i64 0] 95)).cell ix (by simp)
        clear ix
        generalize ids[x]?.getD 0 = ax at HX ix'
        go_wp2_with fail
        refine (put_any d v r ns 5 nf ax 0 _ HN (HR.out.only ((Only.refl _ _).alloc _)).own.is hns).mono ?_
        rintro e w5 ⟨ev, v5, rfl, hd5, hblk, ho5, hev⟩
        rw [if_pos HX.out.1] at hev
        subst hev
        have R5 := Lib.hid ((HR.out.only ((Only.refl _ _).alloc _)).put ⟨hblk, ho5⟩ hd5)
        clear hblk ho5 hd5 HR HRead
        go_wp2_with (at_builtin; refine wpList_append_lies _ rfl _ _ _ rfl 0 3 i0 _ 1 8 Tryz.underlying108 hi hz0 hz1 hz2 rfl (by decide) (.slice _ ids.length uc) ids.length (ints ids) rfl (by exact R5.out.ids.alloc _) ⟨w5.heap.size, 0, none⟩ 1 1 [.int .i64 (putId r ns ⟨5, nf, ax, 0⟩)] rfl rfl (by exact cell_one_new _ _ _) (by simp [Value.oneCell']) (by decide) (by have := HIL.out.1; simp only [maxLen]; omega) (by have := HIL.out.1; omega) (Nat.zero_le _) (w5.heap.size + 1) (by simp) ?_; intro g cap w6 hown6 hgr6 hat6 hlt6; have R6 := Lib.hid (R5.out.push hown6 hgr6 hat6); clear hown6 hgr6 hat6)
        go_roundw
        case rel => exact ⟨k + 1, v5, by omega, by go_num, by rw [HX.out.2]; exact R6.out⟩
        case measure => simp [intOf]; omega
      · have hx1 : x < ids.length := by have := HIL.out.2; omega
        have hy1 : y < ids.length := by have := HIL.out.2; omega
        have hkk : nk ≠ 0 ∧ nk ≠ 5 := by omega
        have HX := Lib.hid (ld_at (m := ⟨nk, nf, ids[x]?.getD 0, ids[y]?.getD 0⟩) (by simp [reNd, hkk]) HT.out HL1.out)
        clear HT HL1
        obtain ⟨ib, io, rfl, ix⟩ := HRead.out x hx1
        obtain ⟨ib', io', e, iy⟩ := HRead.out y hy1
        injection e with e
        injection e with e1 e2
        subst e1 e2
        clear hkk
        generalize ids[x]?.getD 0 = ax at HX ix
        generalize ids[y]?.getD 0 = ay at HX iy
        have iy' := ((Only.refl [] wr).alloc (.cells #[.int .i64 nk, .float .f64 nf, .int .i64 (x : Int), .int .i64 (y : Int)] 95)).cell iy (by simp)
        have ix' := ((Only.refl [] wr).alloc (.cells #[.int .i64 nk, .float .f64 nf, .int .i64 (x : Int), .int .i64 ay] 95)).cell ix (by simp)
        clear ix iy
        rcases h4 with rfl | rfl | rfl | rfl
        · go_wp2_with fail
          refine (put_any d v r ns 1 nf ax ay _ HN (HR.out.only ((Only.refl _ _).alloc _)).own.is hns).mono ?_
          rintro e w5 ⟨ev, v5, rfl, hd5, hblk, ho5, hev⟩
          rw [if_pos HX.out.1] at hev
          subst hev
          have R5 := Lib.hid ((HR.out.only ((Only.refl _ _).alloc _)).put ⟨hblk, ho5⟩ hd5)
          clear hblk ho5 hd5 HR HRead
          go_wp2_with (at_builtin; refine wpList_append_lies _ rfl _ _ _ rfl 0 3 i0 _ 1 8 Tryz.underlying108 hi hz0 hz1 hz2 rfl (by decide) (.slice _ ids.length uc) ids.length (ints ids) rfl (by exact R5.out.ids.alloc _) ⟨w5.heap.size, 0, none⟩ 1 1 [.int .i64 (putId r ns ⟨1, nf, ax, ay⟩)] rfl rfl (by exact cell_one_new _ _ _) (by simp [Value.oneCell']) (by decide) (by have := HIL.out.1; simp only [maxLen]; omega) (by have := HIL.out.1; omega) (Nat.zero_le _) (w5.heap.size + 1) (by simp) ?_; intro g cap w6 hown6 hgr6 hat6 hlt6; have R6 := Lib.hid (R5.out.push hown6 hgr6 hat6); clear hown6 hgr6 hat6)
          go_roundw
          case rel => exact ⟨k + 1, v5, by omega, by go_num, by rw [HX.out.2]; exact R6.out⟩
          case measure => simp [intOf]; omega
        · go_wp2_with fail
          refine (put_any d v r ns 2 nf ax ay _ HN (HR.out.only ((Only.refl _ _).alloc _)).own.is hns).mono ?_
          rintro e w5 ⟨ev, v5, rfl, hd5, hblk, ho5, hev⟩
          rw [if_pos HX.out.1] at hev
          subst hev
          have R5 := Lib.hid ((HR.out.only ((Only.refl _ _).alloc _)).put ⟨hblk, ho5⟩ hd5)
          clear hblk ho5 hd5 HR HRead
          go_wp2_with (at_builtin; refine wpList_append_lies _ rfl _ _ _ rfl 0 3 i0 _ 1 8 Tryz.underlying108 hi hz0 hz1 hz2 rfl (by decide) (.slice _ ids.length uc) ids.length (ints ids) rfl (by exact R5.out.ids.alloc _) ⟨w5.heap.size, 0, none⟩ 1 1 [.int .i64 (putId r ns ⟨2, nf, ax, ay⟩)] rfl rfl (by exact cell_one_new _ _ _) (by simp [Value.oneCell']) (by decide) (by have := HIL.out.1; simp only [maxLen]; omega) (by have := HIL.out.1; omega) (Nat.zero_le _) (w5.heap.size + 1) (by simp) ?_; intro g cap w6 hown6 hgr6 hat6 hlt6; have R6 := Lib.hid (R5.out.push hown6 hgr6 hat6); clear hown6 hgr6 hat6)
          go_roundw
          case rel => exact ⟨k + 1, v5, by omega, by go_num, by rw [HX.out.2]; exact R6.out⟩
          case measure => simp [intOf]; omega
        · go_wp2_with fail
          refine (put_any d v r ns 3 nf ax ay _ HN (HR.out.only ((Only.refl _ _).alloc _)).own.is hns).mono ?_
          rintro e w5 ⟨ev, v5, rfl, hd5, hblk, ho5, hev⟩
          rw [if_pos HX.out.1] at hev
          subst hev
          have R5 := Lib.hid ((HR.out.only ((Only.refl _ _).alloc _)).put ⟨hblk, ho5⟩ hd5)
          clear hblk ho5 hd5 HR HRead
          go_wp2_with (at_builtin; refine wpList_append_lies _ rfl _ _ _ rfl 0 3 i0 _ 1 8 Tryz.underlying108 hi hz0 hz1 hz2 rfl (by decide) (.slice _ ids.length uc) ids.length (ints ids) rfl (by exact R5.out.ids.alloc _) ⟨w5.heap.size, 0, none⟩ 1 1 [.int .i64 (putId r ns ⟨3, nf, ax, ay⟩)] rfl rfl (by exact cell_one_new _ _ _) (by simp [Value.oneCell']) (by decide) (by have := HIL.out.1; simp only [maxLen]; omega) (by have := HIL.out.1; omega) (Nat.zero_le _) (w5.heap.size + 1) (by simp) ?_; intro g cap w6 hown6 hgr6 hat6 hlt6; have R6 := Lib.hid (R5.out.push hown6 hgr6 hat6); clear hown6 hgr6 hat6)
          go_roundw
          case rel => exact ⟨k + 1, v5, by omega, by go_num, by rw [HX.out.2]; exact R6.out⟩
          case measure => simp [intOf]; omega
        · go_wp2_with fail
          refine (put_any d v r ns 4 nf ax ay _ HN (HR.out.only ((Only.refl _ _).alloc _)).own.is hns).mono ?_
          rintro e w5 ⟨ev, v5, rfl, hd5, hblk, ho5, hev⟩
          rw [if_pos HX.out.1] at hev
          subst hev
          have R5 := Lib.hid ((HR.out.only ((Only.refl _ _).alloc _)).put ⟨hblk, ho5⟩ hd5)
          clear hblk ho5 hd5 HR HRead
          go_wp2_with (at_builtin; refine wpList_append_lies _ rfl _ _ _ rfl 0 3 i0 _ 1 8 Tryz.underlying108 hi hz0 hz1 hz2 rfl (by decide) (.slice _ ids.length uc) ids.length (ints ids) rfl (by exact R5.out.ids.alloc _) ⟨w5.heap.size, 0, none⟩ 1 1 [.int .i64 (putId r ns ⟨4, nf, ax, ay⟩)] rfl rfl (by exact cell_one_new _ _ _) (by simp [Value.oneCell']) (by decide) (by have := HIL.out.1; simp only [maxLen]; omega) (by have := HIL.out.1; omega) (Nat.zero_le _) (w5.heap.size + 1) (by simp) ?_; intro g cap w6 hown6 hgr6 hat6 hlt6; have R6 := Lib.hid (R5.out.push hown6 hgr6 hat6); clear hown6 hgr6 hat6)
          go_roundw
          case rel => exact ⟨k + 1, v5, by omega, by go_num, by rw [HX.out.2]; exact R6.out⟩
          case measure => simp [intOf]; omega
    · have hnl : ¬ (k : Int) < (L.length : Int) := by omega
      have HL1 := Lib.hid (HFin.out (by omega))
      clear HTake HFin HLe
      go_wp2_with fail
      go_returns
      exact ⟨d, r, v, _, rfl, Hr.out, by rw [← HL1.out]; exact HR.out.pre Ho1.out⟩
end Go.Proofs.YtigpnopeacicpaaGreatDoor

/-
  walk.Below: its closure 'visit'; what stands in memory.
-/
namespace Go.Proofs.YtigpnopeacicpaaGreatDoor
open Go.RowKit

structure BelowSt (w0 w : World) (vb m nn : Nat) (f : Int → Option Int) (sb : Nat) (sv : Value) (S : List Int) (fv : Value) (F : List Int) : Prop where
  vis : Blk w vb 147 [.map (some m)]
  map : MapI w m nn f
  stk : Blk w sb 108 [sv]
  s : IntsAt w sv S
  f : IntsAt w fv F
  ap : ∀ g, sv.ownBlock = some g → fv.ownBlock ≠ some g
  fv_ : w0.heap.size ≤ vb
  fm : w0.heap.size ≤ m
  fs : w0.heap.size ≤ sb
  fsv : ∀ g, sv.ownBlock = some g → w0.heap.size ≤ g
  ffv : ∀ g, fv.ownBlock = some g → w0.heap.size ≤ g
  only : Only [] w0 w

theorem MapI.obj {w : World} {b n : Nat} {f : Int → Option Int} (h : MapI w b n f) : ∃ es clock, w.heap[b]? = some (.map es clock) := by
  obtain ⟨D, ⟨es, clock, h1, _⟩, _⟩ := h
  exact ⟨es, clock, h1⟩
theorem IntsAt.typ {w : World} {u : Value} {xs : List Int} (h : IntsAt w u xs) {g : Nat} (hg : u.ownBlock = some g) : ∃ cs fr, w.heap[g]? = some (.cells cs 3 fr) := by
  rcases h.2 with ⟨rfl, _⟩ | ⟨g', cap, cur, rfl, _, h1, _⟩
  · simp [Value.ownBlock] at hg
  · have e : g' = g := by simpa [Value.ownBlock] using hg
    subst e
    exact ⟨_, _, h1⟩
theorem heap_ne {w : World} {g g' : Nat} {o o' : Obj} (h : w.heap[g]? = some o) (h' : w.heap[g']? = some o') (hne : o ≠ o') : g ≠ g' := by
  rintro rfl
  rw [h] at h'
  exact hne (Option.some.inj h')

section
variable {w0 w w' : World} {vb m nn : Nat} {f : Int → Option Int} {sb : Nat} {sv : Value} {S : List Int} {fv : Value} {F : List Int}
theorem BelowSt.nil (h : BelowSt w0 w vb m nn f sb sv S fv F) (ho : Only [] w w') : BelowSt w0 w' vb m nn f sb sv S fv F :=
  ⟨h.vis.only ho (by simp), h.map.only ho (by simp), h.stk.only ho (by simp), h.s.only ho (by simp), h.f.only ho (by simp), h.ap, h.fv_, h.fm, h.fs, h.fsv, h.ffv, h.only.nil_trans ho⟩
theorem BelowSt.ne_mv (h : BelowSt w0 w vb m nn f sb sv S fv F) : vb ≠ m ∧ sb ≠ m ∧ (∀ g, sv.ownBlock = some g → g ≠ m) ∧ (∀ g, fv.ownBlock = some g → g ≠ m) := by
  obtain ⟨es, clock, hm⟩ := h.map.obj
  refine ⟨heap_ne h.vis hm (by simp), heap_ne h.stk hm (by simp), fun g hg => ?_, fun g hg => ?_⟩
  · obtain ⟨cs, fr, hc⟩ := h.s.typ hg
    exact heap_ne hc hm (by simp)
  · obtain ⟨cs, fr, hc⟩ := h.f.typ hg
    exact heap_ne hc hm (by simp)
theorem BelowSt.ne_s (h : BelowSt w0 w vb m nn f sb sv S fv F) : vb ≠ sb ∧ (∀ g, sv.ownBlock = some g → g ≠ vb ∧ g ≠ sb) ∧ (∀ g, fv.ownBlock = some g → g ≠ vb ∧ g ≠ sb) := by
  refine ⟨heap_ne h.vis h.stk (by intro e; injection e with _ e2; exact absurd e2 (by decide)), fun g hg => ?_, fun g hg => ?_⟩
  · obtain ⟨cs, fr, hc⟩ := h.s.typ hg
    exact ⟨heap_ne hc h.vis (by intro e; injection e with _ e2; exact absurd e2 (by decide)), heap_ne hc h.stk (by intro e; injection e with _ e2; exact absurd e2 (by decide))⟩
  · obtain ⟨cs, fr, hc⟩ := h.f.typ hg
    exact ⟨heap_ne hc h.vis (by intro e; injection e with _ e2; exact absurd e2 (by decide)), heap_ne hc h.stk (by intro e; injection e with _ e2; exact absurd e2 (by decide))⟩
theorem BelowSt.mark (h : BelowSt w0 w vb m nn f sb sv S fv F) {n' : Nat} {f' : Int → Option Int} (hm : MapI w' m n' f') (ho : Only [m] w w') : BelowSt w0 w' vb m n' f' sb sv S fv F := by
  obtain ⟨e1, e2, e3, e4⟩ := h.ne_mv
  exact ⟨h.vis.only ho (by simpa using e1), hm, h.stk.only ho (by simpa using e2), h.s.only ho (fun g hg => by simpa using e3 g hg), h.f.only ho (fun g hg => by simpa using e4 g hg), h.ap, h.fv_, h.fm, h.fs, h.fsv, h.ffv,
    h.only.trans ho (fun k hk => .inr (by have e : k = m := by simpa using hk
                                          have := h.fm
                                          omega))⟩
theorem BelowSt.stack (h : BelowSt w0 w vb m nn f sb sv S fv F) {sv' : Value} {S' : List Int} (hs : IntsAt w sv' S') (hap : ∀ g, sv'.ownBlock = some g → fv.ownBlock ≠ some g) (hf : ∀ g, sv'.ownBlock = some g → w0.heap.size ≤ g) :
    BelowSt w0 (w.setCell ⟨sb, 0, none⟩ sv') vb m nn f sb sv' S' fv F := by
  have ho : Only [sb] w (w.setCell ⟨sb, 0, none⟩ sv') := (Only.refl _ _).setCell (.inl (by simp)) _
  obtain ⟨e1, e2, e3, e4⟩ := h.ne_mv
  obtain ⟨d1, d2, d3⟩ := h.ne_s
  have hsn : ∀ g, sv'.ownBlock = some g → g ≠ sb := by
    intro g hg
    obtain ⟨cs, fr, hc⟩ := hs.typ hg
    exact heap_ne hc h.stk (by intro e; injection e with _ e2; exact absurd e2 (by decide))
  refine ⟨h.vis.only ho (by simpa using d1), h.map.only ho (by simpa using e2.symm), h.stk.set_ 0 _, hs.only ho (fun g hg => by simpa using hsn g hg), h.f.only ho (fun g hg => by simpa using (d3 g hg).2), hap, h.fv_, h.fm, h.fs, hf, h.ffv, ?_⟩
  refine h.only.trans ho (fun k hk => .inr ?_)
  have e : k = sb := by simpa using hk
  have := h.fs
  omega
theorem BelowSt.grow_s (h : BelowSt w0 w vb m nn f sb sv S fv F) {g cap : Nat} {x : Int} (hown : w'.ownsRow 0 3 1 (.slice (some ⟨g, 0, none⟩) (S.length + 1) cap) (S.length + 1) (ints S ++ [.int .i64 x]))
    (hgr : (w.alloc (.cells #[.int .i64 x] 3)).grownBy w' sv.ownBlock) (hat : sv.ownBlock = some g ∨ g = w.heap.size + 1) :
    Blk w' sb 108 [sv] ∧ BelowSt w0 (w'.setCell ⟨sb, 0, none⟩ (.slice (some ⟨g, 0, none⟩) (S.length + 1) cap)) vb m nn f sb (.slice (some ⟨g, 0, none⟩) (S.length + 1) cap) (S ++ [x]) fv F := by
  have ho : Only sv.ownBlock.toList w w' := ((Only.refl _ w).alloc _).trans (Only.of_grown (S := sv.ownBlock.toList) hgr (by simp)) (fun k hk => .inl hk)
  obtain ⟨e1, e2, e3, e4⟩ := h.ne_mv
  obtain ⟨d1, d2, d3⟩ := h.ne_s
  have hs' : IntsAt w' (.slice (some ⟨g, 0, none⟩) (S.length + 1) cap) (S ++ [x]) := by
    unfold IntsAt
    simpa [ints] using hown
  have hstk : Blk w' sb 108 [sv] := h.stk.only ho (fun hm => (d2 sb (by simpa using hm)).2 rfl)
  have hmid : ∀ k, (∀ q, sv.ownBlock = some q → q ≠ k) → k ∉ sv.ownBlock.toList := fun k hk hm => hk k (by simpa using hm) rfl
  refine ⟨hstk, ?_⟩
  have h1 : Blk w' vb 147 [.map (some m)] := h.vis.only ho (hmid vb (fun q hq => (d2 q hq).1))
  have h2 : MapI w' m nn f := h.map.only ho (hmid m (fun q hq => e3 q hq))
  have h3 : IntsAt w' fv F := h.f.only ho (fun q hq hm => h.ap q (by simpa using hm) hq)
  have hgf : w0.heap.size ≤ g := by
    rcases hat with e | e
    · exact h.fsv g e
    · have := h.only.size
      omega
  have hgap : ∀ q, (Value.slice (some ⟨g, 0, none⟩) (S.length + 1) cap).ownBlock = some q → fv.ownBlock ≠ some q := by
    intro q hq hq2
    have e : g = q := by simpa [Value.ownBlock] using hq
    subst e
    rcases hat with e | e
    · exact h.ap g e hq2
    · have := h.f.lt g hq2
      omega
  have hsn : g ≠ sb := by
    obtain ⟨cs, fr, hc⟩ := hs'.typ (g := g) rfl
    exact heap_ne hc hstk (by intro e; injection e with _ e2; exact absurd e2 (by decide))
  have hO : Only [] w0 w' := h.only.trans ho (fun k hk => .inr (h.fsv k (by simpa using hk)))
  have ho2 : Only [sb] w' (w'.setCell ⟨sb, 0, none⟩ (.slice (some ⟨g, 0, none⟩) (S.length + 1) cap)) := (Only.refl _ _).setCell (.inl (by simp)) _
  exact ⟨h1.only ho2 (by simpa using d1), h2.only ho2 (by simpa using e2.symm), hstk.set_ 0 _, hs'.only ho2 (fun q hq => by
    have e : g = q := by simpa [Value.ownBlock] using hq
    subst e
    simpa using hsn), h3.only ho2 (fun q hq => by simpa using (d3 q hq).2), hgap, h.fv_, h.fm, h.fs, fun q hq => by
    have e : g = q := by simpa [Value.ownBlock] using hq
    omega, h.ffv, hO.trans ho2 (fun k hk => .inr (by
      have e : k = sb := by simpa using hk
      have := h.fs
      omega))⟩
end
end Go.Proofs.YtigpnopeacicpaaGreatDoor

/-
  walk.Below: 'visit', the walk.
-/
namespace Go.Proofs.YtigpnopeacicpaaGreatDoor
open Go.RowKit

def Met (f : Int → Option Int) (x : Int) : Prop := f x = some 1
def Plain01 (f : Int → Option Int) : Prop := ∀ x, f x = none ∨ f x = some 1
def metF (f : Int → Option Int) (id : Int) : Int → Option Int := fun x => if x = id then some 1 else f x
theorem metF_plain {f : Int → Option Int} (h : Plain01 f) (id : Int) : Plain01 (metF f id) := fun x => by
  unfold metF
  by_cases e : x = id
  · exact .inr (by rw [if_pos e])
  · rw [if_neg e]
    exact h x
theorem met_metF {f : Int → Option Int} (id : Int) (y : Int) : Met (metF f id) y ↔ Met f y ∨ y = id := by
  unfold Met metF
  by_cases e : y = id
  · simp [e]
  · simp [e]

def Keep2 (w w' : World) : Prop := ∀ q cs, Blk w q 170 cs → Blk w' q 170 cs
theorem BelowSt.keep_map {w0 w w' : World} {vb m nn : Nat} {f : Int → Option Int} {sb : Nat} {sv : Value} {S : List Int} {fv : Value} {F : List Int} (h : BelowSt w0 w vb m nn f sb sv S fv F) (ho : Only [m] w w') : Keep2 w w' := by
  intro q cs hq
  obtain ⟨es, clock, hm⟩ := h.map.obj
  exact hq.only ho (by simpa using heap_ne hq hm (by simp))
theorem BelowSt.keep_s {w0 w w' : World} {vb m nn : Nat} {f : Int → Option Int} {sb : Nat} {sv : Value} {S : List Int} {fv : Value} {F : List Int} (h : BelowSt w0 w vb m nn f sb sv S fv F) {x : Int} {u : Value}
    (hgr : (w.alloc (.cells #[.int .i64 x] 3)).grownBy w' sv.ownBlock) : Keep2 w (w'.setCell ⟨sb, 0, none⟩ u) := by
  intro q cs hq
  have ho : Only sv.ownBlock.toList w w' := ((Only.refl _ w).alloc _).trans (Only.of_grown (S := sv.ownBlock.toList) hgr (by simp)) (fun k hk => .inl hk)
  have h1 : Blk w' q 170 cs := hq.only ho (fun hm => by
    obtain ⟨cs', fr, hc⟩ := h.s.typ (g := q) (by simpa using hm)
    exact heap_ne hq hc (by intro e; injection e with _ e2; exact absurd e2 (by decide)) rfl)
  have hne : q ≠ sb := heap_ne hq h.stk (by intro e; injection e with _ e2; exact absurd e2 (by decide))
  exact h1.far hne u
def VPost (w0 w : World) (vb m nn : Nat) (f : Int → Option Int) (sb : Nat) (sv : Value) (S : List Int) (fv : Value) (F : List Int) (id : Int) (e : Ending) (w' : World) : Prop :=
  e = .returned (.tuple #[]) ∧ Keep2 w w' ∧ ((Met f id ∧ BelowSt w0 w' vb m nn f sb sv S fv F) ∨ (¬ Met f id ∧ ∃ sv', BelowSt w0 w' vb m (nn + 1) (metF f id) sb sv' (S ++ [id]) fv F))

set_option maxHeartbeats 800000 in
set_option maxRecDepth 100000 in
theorem visit_any (w0 w : World) (vb m nn : Nat) (f : Int → Option Int) (sb : Nat) (sv : Value) (S : List Int) (fv : Value) (F : List Int) (id : Int) (h : BelowSt w0 w vb m nn f sb sv S fv F) (hf : Plain01 f) (hid : Small id) (hnn : nn < 100000) (hS : Hid (S.length ≤ 100000)) :
    Calls Tryz.prog 142 #[.int .i64 id, .pointer (some ⟨vb, 0, none⟩), .pointer (some ⟨sb, 0, none⟩)] w (VPost w0 w vb m nn f sb sv S fv F id) := by
  obtain ⟨i0, hi, hz0, hz1, hz2⟩ := int_parts
  have cv : w.cell? ⟨vb, 0, none⟩ = some (.map (some m)) := h.vis.cell 0
  have hl := h.map.look hid
  rcases hf id with e | e
  · have hn : ¬ Met f id := by unfold Met; rw [e]; simp
    rw [e] at hl
    obtain ⟨w1, hup, hm1, ho1⟩ := h.map.store (by omega) hid (v := 1) (by unfold Small; omega)
    have H1 := h.mark (f' := metF f id) hm1 ho1
    have HKm := Lib.hid (h.keep_map ho1)
    have HH := Lib.hid H1
    have Hn := Lib.hid hn
    obtain ⟨A, c, rfl, -⟩ := H1.s.shape
    have cs1 : w1.cell? ⟨sb, 0, none⟩ = some (.slice A S.length c) := H1.stk.cell 0
    have cs1' := ((Only.refl [] w1).alloc (.cells #[.int .i64 id] 3)).cell cs1 (by simp)
    clear h hm1 ho1 H1 e hn hf
    go_enter Tryz.func142, Tryz.ntmps142
    go_wp2_with (at_builtin; refine wpList_append_lies _ rfl _ _ _ rfl 0 3 i0 _ 1 8 Tryz.underlying108 hi hz0 hz1 hz2 rfl (by decide) (.slice A S.length c) S.length (ints S) rfl (by exact HH.out.s.alloc _) ⟨w1.heap.size, 0, none⟩ 1 1 [.int .i64 id] rfl rfl (by exact cell_one_new _ _ _) (by simp [Value.oneCell']) (by decide) (by have := hS.out; simp only [maxLen]; omega) (by have := hS.out; omega) (Nat.zero_le _) (w1.heap.size + 1) (by simp) ?_; intro g cap w2 hown2 hgr2 hat2 hlt2; have G := Lib.hid (HH.out.grow_s hown2 hgr2 hat2); have HKs := Lib.hid (HH.out.keep_s (u := .slice (some ⟨g, 0, none⟩) (S.length + 1) cap) hgr2); have a0 := G.out.1.cell 0; have f0 := G.out.1.frozen 0; simp only [List.getElem?_cons_zero] at a0)
    go_returns
    exact ⟨rfl, fun q cs hq => HKs.out q cs (HKm.out q cs hq), .inr ⟨Hn.out, _, G.out.2⟩⟩
  · rw [e] at hl
    have HH := Lib.hid h
    have Hn : Hid (Met f id) := e
    clear h hf e
    go_enter Tryz.func142, Tryz.ntmps142
    go_wp2_with fail
    go_returns
    exact ⟨rfl, fun _ _ hq => hq, .inl ⟨Hn.out, HH.out⟩⟩
end Go.Proofs.YtigpnopeacicpaaGreatDoor
