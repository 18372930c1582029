/-
  DagMakes: SameNodes, Int, the reference's put and chain.
-/
import Derived.Test.YtkiongpfpjfaaaaPlainB
namespace Go.Proofs.Ytkiongpfpjfaaaa
open Go.RowKit

/-- A slice of nodes reads as L. -/
def NRead (w : World) (A : Option Addr) (L : List Nd) : Prop := ∀ k, k < L.length → ∃ b o, A = some ⟨b, o, none⟩ ∧ Cells4 w b (o + k * 4) (L[k]?.getD nd0)
theorem NRead.only {w w' : World} {A : Option Addr} {L : List Nd} (h : NRead w A L) (ho : Only [] w w') : NRead w' A L := fun k hk => by
  obtain ⟨b, o, h1, h2⟩ := h k hk
  exact ⟨b, o, h1, h2.only ho (by simp)⟩
theorem NodesAt.read {w : World} {A : Option Addr} {n c : Nat} {ns : List Nd} (h : NodesAt w (.slice A n c) ns) : n = ns.length ∧ NRead w A ns := by
  obtain ⟨A', c', e, _, _, hc⟩ := h.shape
  injection e with e1 e2 e3
  subst e1
  refine ⟨e2, fun k hk => ?_⟩
  obtain ⟨g, h1, h2⟩ := hc k hk
  exact ⟨g, 0, h1, by rw [Nat.zero_add]; exact h2⟩

set_option maxHeartbeats 1600000 in
set_option maxRecDepth 100000 in
theorem samenodes_any (A B : Option Addr) (c c' : Nat) (L : List Nd) (w : World) (hA : Hid (NRead w A L)) (hB : Hid (NRead w B L)) (hl : (L.length : Int) ≤ 20001) :
    Calls Try.prog 26 #[.slice A L.length c, .slice B L.length c'] w fun e w' => e = .returned (.bool true) ∧ Only [] w w' := by
  have hbits := bits_run
  go_enter Try.func26, Try.ntmps26
  go_wp2_with fail
  go_loopw [5] (fun i wr => ∃ k : Nat, k ≤ L.length ∧ i = .int .i64 (k : Int) ∧ Only [] w wr) (fun i _ => L.length - (intOf i).toNat)
  case atStart => exact ⟨0, Nat.zero_le _, rfl, Only.refl _ _⟩
  case round =>
    obtain ⟨k, hk, rfl, ho⟩ := hrel
    have Ho := Lib.hid ho
    clear ho
    by_cases hlt : k < L.length
    · obtain ⟨b, o, rfl, h1⟩ := hA.out k hlt
      obtain ⟨b', o', rfl, h2⟩ := hB.out k hlt
      obtain ⟨p0, p1, p2, p3⟩ := h1.only Ho.out (by simp)
      obtain ⟨q0, q1, q2, q3⟩ := h2.only Ho.out (by simp)
      clear h1 h2
      generalize L[k]?.getD nd0 = n at p0 p1 p2 p3 q0 q1 q2 q3
      obtain ⟨nk, nf, na, nb⟩ := n
      have hk' : (k : Int) < (L.length : Int) := by omega
      go_wp2_with fail
      go_quiet (fail)
      go_wp2_with fail
      go_roundw
      case rel => exact ⟨k + 1, by omega, by go_num, Ho.out.drewN _⟩
      case measure => simp [intOf]; omega
    · have hnl : ¬ (k : Int) < (L.length : Int) := by omega
      go_wp2_with fail
      go_ret
      exact ⟨rfl, Ho.out⟩

theorem shr_false : shr false = none := rfl

theorem pputF_any (p : Nat) (v : Value) (ns : List Nd) (k : Int) (f : Nat) (a b : Int) (w : World) (hd : PlainIs w p v false ns) (hlen : Hid (ns.length < 20000)) :
    Calls Try.prog 22 #[.pointer (some ⟨p, 0, none⟩), .agg #[.int .i64 k, .float .f64 f, .int .i64 a, .int .i64 b]] w (PlPost p v false ns ⟨k, f, a, b⟩ w) := by
  cases ht : takesB ns.length k f a b
  · exact pput_bad p v false ns k f a b w hd ht
  · exact pput_none p v ns k f a b w hd hlen ht

/-- What (*plain).chain leaves. -/
def CPost (p : Nat) (v : Value) (r : List Nd × Int) (w : World) (e : Ending) (w' : World) : Prop :=
  ∃ v', e = .returned (.int .i64 r.2) ∧ PlainIs w' p v' false r.1 ∧ Step p v none w v' w'

theorem foldRun_neg (kind : Int) (hk : kind ≠ 0) (ns : List Nd) : ∀ xs : List Int, foldRun none kind ns (-1) xs = (ns, -1)
  | [] => rfl
  | x :: xs => by
    have ht : takesB ns.length kind 0 (-1) x = false := by
      have hv : validB kind 0 (-1) x = false := by simp [validB]
      simp [takesB, hv]
    have e1 : putNs none ns ⟨kind, 0, -1, x⟩ = ns := by simp [putNs, ht]
    have e2 : putId none ns ⟨kind, 0, -1, x⟩ = -1 := by simp [putId, ht]
    simp only [foldRun, e1, e2]
    exact foldRun_neg kind hk ns xs

def CRel (p : Nat) (v : Value) (ns : List Nd) (kind st : Int) (xs : List Int) (w : World) (k : Nat) (id : Value) (wr : World) : Prop :=
  ∃ v', id = .int .i64 (foldRun none kind ns st (xs.take k)).2 ∧ PlainIs wr p v' false (foldRun none kind ns st (xs.take k)).1 ∧ Step p v none w v' wr

set_option maxRecDepth 100000 in
set_option maxHeartbeats 1600000 in
theorem chain_any (p : Nat) (v : Value) (ns : List Nd) (kind : Int) (hkind : Hid (kind ≠ 0)) (lb lo c : Nat) (x : Int) (xs : List Int) (w : World) (hd : PlainIs w p v false ns) (hlen : Hid (ns.length + xs.length < 20000))
    (hb : lb ∉ foot p v none) (hx : w.cell? ⟨lb, lo, none⟩ = some (.int .i64 x)) (hxs : Hid (∀ j, j < xs.length → w.cell? ⟨lb, lo + (j + 1), none⟩ = some (.int .i64 (xs[j]?.getD 0)))) :
    Calls Try.prog 27 #[.pointer (some ⟨p, 0, none⟩), .int .i64 kind, .slice (some ⟨lb, lo, none⟩) (xs.length + 1) c] w (CPost p v (foldS none kind ns (x :: xs)) w) := by
  obtain ⟨A, cv, hv, _⟩ := hd.shape
  have h0 : w.cell? ⟨p, 0, none⟩ = some (.slice A ns.length cv) := by rw [← hv]; exact hd.blk.cell 0
  have Hv := Lib.hid hv
  have HB := Lib.hid hb
  have hb20 : (xs.length : Int) < 20000 := by have := hlen.out; omega
  clear hv hb
  cases hh : hasB ns.length x
  · have E1 : Hid (foldS none kind ns (x :: xs) = foldRun none kind ns (-1) xs) := by show _ = _; rw [foldRun_neg kind hkind.out]; simp [foldS, hh]
    have hx2 : (decide (x < 0) = true) ∨ (decide (x < 0) = false ∧ decide ((ns.length : Int) ≤ x) = true) := by
      simp only [hasB, decide_eq_false_iff_not] at hh
      by_cases h : x < 0
      · exact .inl (by simpa using h)
      · exact .inr ⟨by simpa using h, by simp; omega⟩
    clear hh
    rcases hx2 with g1 | ⟨g1, g2⟩
    · go_enter Try.func27, Try.ntmps27
      go_wp2_with fail
      go_loopw [7, 8] (fun id i wr => ∃ k : Nat, k ≤ xs.length ∧ i = .int .i64 ((k : Int) + 1) ∧ CRel p v ns kind (-1) xs w k id wr) (fun _ i _ => xs.length + 1 - (intOf i).toNat)
      case atStart => exact ⟨0, Nat.zero_le _, by go_num, v, rfl, hd, Step.refl _ _ _ _⟩
      case round =>
        obtain ⟨k, hk, rfl, v1, rfl, hd1, hst⟩ := hrel
        have hst' := Lib.hid hst
        clear hst
        have hle := foldRun_le none kind (xs.take k) ns (-1)
        have hsn : k < xs.length → foldRun none kind ns (-1) (xs.take (k + 1)) = (putNs none (foldRun none kind ns (-1) (xs.take k)).1 ⟨kind, 0, (foldRun none kind ns (-1) (xs.take k)).2, xs[k]?.getD 0⟩, putId none (foldRun none kind ns (-1) (xs.take k)).1 ⟨kind, 0, (foldRun none kind ns (-1) (xs.take k)).2, xs[k]?.getD 0⟩) := by
          intro hlt
          rw [List.take_succ_eq_append_getElem hlt, foldRun_snoc]
          simp [hlt]
        have hfin : k = xs.length → foldRun none kind ns (-1) (xs.take k) = foldRun none kind ns (-1) xs := by
          intro e
          rw [e, List.take_length]
        have Hsn := Lib.hid hsn
        have Hfin := Lib.hid hfin
        clear hsn hfin
        generalize foldRun none kind ns (-1) (xs.take k) = q at hle Hsn Hfin hd1 ⊢
        obtain ⟨ns1, id1⟩ := q
        by_cases hlt : k < xs.length
        · have hce := (hst'.out.2.cell (hxs.out k hlt) HB.out)
          have h2 := Hsn.out hlt
          generalize xs[k]?.getD 0 = y at hce h2
          have h1 := Lib.hid h2
          clear h2 Hsn Hfin
          have hlt' : (k : Int) + 1 < (xs.length : Int) + 1 := by omega
          have hl1 : Hid (ns1.length < 20000) := by
            have h1 := hlen.out
            simp only [List.length_take] at hle
            show ns1.length < 20000
            omega
          clear hle
          go_wp2_with fail
          (with_reducible refine (pputF_any p v1 ns1 kind 0 id1 y _ hd1 hl1).mono ?_)
          rintro e w2 ⟨v2, rfl, hd2, hst2⟩
          have hst2' := Lib.hid hst2
          clear hst2
          go_wp2_with fail
          go_roundw
          case rel => exact ⟨k + 1, by omega, by go_num, v2, by rw [h1.out]; rfl, by rw [h1.out]; exact hd2, hst'.out.trans hst2'.out⟩
          case measure => simp [intOf]; omega
        · have hk' : k = xs.length := by omega
          have hnl : ¬ (k : Int) + 1 < (xs.length : Int) + 1 := by omega
          have h1 := Lib.hid (Hfin.out hk')
          clear hle hk'
          go_wp2_with fail
          go_ret
          exact ⟨v1, by rw [E1.out, ← h1.out]; rfl, by rw [E1.out, ← h1.out]; exact hd1, hst'.out⟩
    · go_enter Try.func27, Try.ntmps27
      go_wp2_with fail
      go_loopw [7, 8] (fun id i wr => ∃ k : Nat, k ≤ xs.length ∧ i = .int .i64 ((k : Int) + 1) ∧ CRel p v ns kind (-1) xs w k id wr) (fun _ i _ => xs.length + 1 - (intOf i).toNat)
      case atStart => exact ⟨0, Nat.zero_le _, by go_num, v, rfl, hd, Step.refl _ _ _ _⟩
      case round =>
        obtain ⟨k, hk, rfl, v1, rfl, hd1, hst⟩ := hrel
        have hst' := Lib.hid hst
        clear hst
        have hle := foldRun_le none kind (xs.take k) ns (-1)
        have hsn : k < xs.length → foldRun none kind ns (-1) (xs.take (k + 1)) = (putNs none (foldRun none kind ns (-1) (xs.take k)).1 ⟨kind, 0, (foldRun none kind ns (-1) (xs.take k)).2, xs[k]?.getD 0⟩, putId none (foldRun none kind ns (-1) (xs.take k)).1 ⟨kind, 0, (foldRun none kind ns (-1) (xs.take k)).2, xs[k]?.getD 0⟩) := by
          intro hlt
          rw [List.take_succ_eq_append_getElem hlt, foldRun_snoc]
          simp [hlt]
        have hfin : k = xs.length → foldRun none kind ns (-1) (xs.take k) = foldRun none kind ns (-1) xs := by
          intro e
          rw [e, List.take_length]
        have Hsn := Lib.hid hsn
        have Hfin := Lib.hid hfin
        clear hsn hfin
        generalize foldRun none kind ns (-1) (xs.take k) = q at hle Hsn Hfin hd1 ⊢
        obtain ⟨ns1, id1⟩ := q
        by_cases hlt : k < xs.length
        · have hce := (hst'.out.2.cell (hxs.out k hlt) HB.out)
          have h2 := Hsn.out hlt
          generalize xs[k]?.getD 0 = y at hce h2
          have h1 := Lib.hid h2
          clear h2 Hsn Hfin
          have hlt' : (k : Int) + 1 < (xs.length : Int) + 1 := by omega
          have hl1 : Hid (ns1.length < 20000) := by
            have h1 := hlen.out
            simp only [List.length_take] at hle
            show ns1.length < 20000
            omega
          clear hle
          go_wp2_with fail
          (with_reducible refine (pputF_any p v1 ns1 kind 0 id1 y _ hd1 hl1).mono ?_)
          rintro e w2 ⟨v2, rfl, hd2, hst2⟩
          have hst2' := Lib.hid hst2
          clear hst2
          go_wp2_with fail
          go_roundw
          case rel => exact ⟨k + 1, by omega, by go_num, v2, by rw [h1.out]; rfl, by rw [h1.out]; exact hd2, hst'.out.trans hst2'.out⟩
          case measure => simp [intOf]; omega
        · have hk' : k = xs.length := by omega
          have hnl : ¬ (k : Int) + 1 < (xs.length : Int) + 1 := by omega
          have h1 := Lib.hid (Hfin.out hk')
          clear hle hk'
          go_wp2_with fail
          go_ret
          exact ⟨v1, by rw [E1.out, ← h1.out]; rfl, by rw [E1.out, ← h1.out]; exact hd1, hst'.out⟩
  · have E1 : Hid (foldS none kind ns (x :: xs) = foldRun none kind ns x xs) := by show _ = _; simp [foldS, hh]
    have g1 : decide (x < 0) = false := by simp [hasB] at hh ⊢; omega
    have g2 : decide ((ns.length : Int) ≤ x) = false := by simp [hasB] at hh ⊢; omega
    clear hh
    go_enter Try.func27, Try.ntmps27
    go_wp2_with fail
    go_loopw [7, 8] (fun id i wr => ∃ k : Nat, k ≤ xs.length ∧ i = .int .i64 ((k : Int) + 1) ∧ CRel p v ns kind x xs w k id wr) (fun _ i _ => xs.length + 1 - (intOf i).toNat)
    case atStart => exact ⟨0, Nat.zero_le _, by go_num, v, rfl, hd, Step.refl _ _ _ _⟩
    case round =>
      obtain ⟨k, hk, rfl, v1, rfl, hd1, hst⟩ := hrel
      have hst' := Lib.hid hst
      clear hst
      have hle := foldRun_le none kind (xs.take k) ns x
      have hsn : k < xs.length → foldRun none kind ns x (xs.take (k + 1)) = (putNs none (foldRun none kind ns x (xs.take k)).1 ⟨kind, 0, (foldRun none kind ns x (xs.take k)).2, xs[k]?.getD 0⟩, putId none (foldRun none kind ns x (xs.take k)).1 ⟨kind, 0, (foldRun none kind ns x (xs.take k)).2, xs[k]?.getD 0⟩) := by
        intro hlt
        rw [List.take_succ_eq_append_getElem hlt, foldRun_snoc]
        simp [hlt]
      have hfin : k = xs.length → foldRun none kind ns x (xs.take k) = foldRun none kind ns x xs := by
        intro e
        rw [e, List.take_length]
      have Hsn := Lib.hid hsn
      have Hfin := Lib.hid hfin
      clear hsn hfin
      generalize foldRun none kind ns x (xs.take k) = q at hle Hsn Hfin hd1 ⊢
      obtain ⟨ns1, id1⟩ := q
      by_cases hlt : k < xs.length
      · have hce := (hst'.out.2.cell (hxs.out k hlt) HB.out)
        have h2 := Hsn.out hlt
        generalize xs[k]?.getD 0 = y at hce h2
        have h1 := Lib.hid h2
        clear h2 Hsn Hfin
        have hlt' : (k : Int) + 1 < (xs.length : Int) + 1 := by omega
        have hl1 : Hid (ns1.length < 20000) := by
          have h1 := hlen.out
          simp only [List.length_take] at hle
          show ns1.length < 20000
          omega
        clear hle
        go_wp2_with fail
        (with_reducible refine (pputF_any p v1 ns1 kind 0 id1 y _ hd1 hl1).mono ?_)
        rintro e w2 ⟨v2, rfl, hd2, hst2⟩
        have hst2' := Lib.hid hst2
        clear hst2
        go_wp2_with fail
        go_roundw
        case rel => exact ⟨k + 1, by omega, by go_num, v2, by rw [h1.out]; rfl, by rw [h1.out]; exact hd2, hst'.out.trans hst2'.out⟩
        case measure => simp [intOf]; omega
      · have hk' : k = xs.length := by omega
        have hnl : ¬ (k : Int) + 1 < (xs.length : Int) + 1 := by omega
        have h1 := Lib.hid (Hfin.out hk')
        clear hle hk'
        go_wp2_with fail
        go_ret
        exact ⟨v1, by rw [E1.out, ← h1.out]; rfl, by rw [E1.out, ← h1.out]; exact hd1, hst'.out⟩
end Go.Proofs.Ytkiongpfpjfaaaa
