/-
  fold, Add, Mul: several operands from left to right.
-/
import Derived.Test.YtaifgjkbagcbeaaDagS
namespace Go.Proofs.Ytaifgjkbagcbeaa
open Go.RowKit

/-- What fold makes of the ids behind the first one. -/
def foldRun (r : Option Nat) (kind : Int) : List Nd → Int → List Int → List Nd × Int
  | ns, id, [] => (ns, id)
  | ns, id, x :: xs => foldRun r kind (putNs r ns ⟨kind, 0, id, x⟩) (putId r ns ⟨kind, 0, id, x⟩) xs

theorem foldRun_snoc (r : Option Nat) (kind : Int) (y : Int) : ∀ (xs : List Int) (ns : List Nd) (id : Int),
    foldRun r kind ns id (xs ++ [y]) = (putNs r (foldRun r kind ns id xs).1 ⟨kind, 0, (foldRun r kind ns id xs).2, y⟩, putId r (foldRun r kind ns id xs).1 ⟨kind, 0, (foldRun r kind ns id xs).2, y⟩)
  | [], _, _ => rfl
  | _ :: xs, _, _ => by simp only [List.cons_append, foldRun]; exact foldRun_snoc r kind y xs _ _

theorem putNs_le (r : Option Nat) (ns : List Nd) (n : Nd) : (putNs r ns n).length ≤ ns.length + 1 := by
  unfold putNs
  split
  · split <;> simp
  · omega
theorem foldRun_le (r : Option Nat) (kind : Int) : ∀ (xs : List Int) (ns : List Nd) (id : Int), (foldRun r kind ns id xs).1.length ≤ ns.length + xs.length
  | [], _, _ => by simp [foldRun]
  | x :: xs, ns, id => by
    simp only [foldRun, List.length_cons]
    have h1 := foldRun_le r kind xs (putNs r ns ⟨kind, 0, id, x⟩) (putId r ns ⟨kind, 0, id, x⟩)
    have h2 := putNs_le r ns ⟨kind, 0, id, x⟩
    omega

def foldS (r : Option Nat) (kind : Int) (ns : List Nd) (l : List Int) : List Nd × Int :=
  match l with
  | [] => (ns, -1)
  | x :: xs => if hasB ns.length x then foldRun r kind ns x xs else (ns, -1)

def FoldRel (d : Nat) (v : Value) (r : Option Nat) (ns : List Nd) (kind x : Int) (xs : List Int) (w : World) (k : Nat) (id : Value) (wr : World) : Prop :=
  ∃ v', id = .int .i64 (foldRun r kind ns x (xs.take k)).2 ∧ DagIs wr d v' r (foldRun r kind ns x (xs.take k)).1 ∧ Step d v r w v' wr

def FPost (d : Nat) (v : Value) (r : Option Nat) (p : List Nd × Int) (w : World) (e : Ending) (w' : World) : Prop :=
  ∃ v', e = .returned (.int .i64 p.2) ∧ DagIs w' d v' r p.1 ∧ Step d v r w v' w'

set_option maxRecDepth 100000 in
set_option maxHeartbeats 800000 in
theorem fold_any (d : Nat) (v : Value) (r : Option Nat) (ns : List Nd) (kind : Int) (lb lo c : Nat) (x : Int) (xs : List Int) (w : World) (hd : DagIs w d v r ns) (hlen : Hid (ns.length + xs.length < 20000))
    (hb : lb ∉ foot d v r) (hx : w.cell? ⟨lb, lo, none⟩ = some (.int .i64 x)) (hxs : Hid (∀ j, j < xs.length → w.cell? ⟨lb, lo + 1 + j, none⟩ = some (.int .i64 (xs[j]?.getD 0)))) (hc : xs.length + 1 ≤ c) (hcm : c ≤ maxLen) :
    Calls Try.prog 51 #[.pointer (some ⟨d, 0, none⟩), .int .i64 kind, .slice (some ⟨lb, lo, none⟩) (xs.length + 1) c] w (FPost d v r (foldS r kind ns (x :: xs)) w) := by
  obtain ⟨A, cv, hv⟩ := hd.shape
  have h0 : w.cell? ⟨d, 0, none⟩ = some (.slice A ns.length cv) := by rw [← hv]; exact hd.blk.cell 0
  have Hv := Lib.hid hv
  clear hv
  have hcm' : c ≤ 9223372036854775807 := hcm
  clear hcm
  cases hh : hasB ns.length x
  · have e1 : foldS r kind ns (x :: xs) = (ns, -1) := by simp [foldS, hh]
    rw [e1]
    go_enter Try.func51, Try.ntmps51
    go_wp2_with (go_at_call 54; (with_reducible refine (has_any d A ns.length cv _ _ h0).mono ?_); rintro e w' ⟨rfl, rfl⟩)
    go_ret
    exact ⟨v, rfl, hd, Step.refl _ _ _ _⟩
  · have e1 : foldS r kind ns (x :: xs) = foldRun r kind ns x xs := by simp [foldS, hh]
    rw [e1]
    go_enter Try.func51, Try.ntmps51
    go_wp2_with (go_at_call 54; (with_reducible refine (has_any d A ns.length cv _ _ h0).mono ?_); rintro e w' ⟨rfl, rfl⟩)
    · have hx0 : xs = [] := List.eq_nil_of_length_eq_zero (by omega)
      subst hx0
      go_loopw [7, 20] (fun id i wr => id = .int .i64 x ∧ i = .int .i64 0 ∧ wr = w) (fun _ _ _ => 0)
      case atStart => exact ⟨rfl, rfl, rfl⟩
      case round =>
        obtain ⟨rfl, rfl, rfl⟩ := hrel
        go_wp2_with fail
        go_ret
        exact ⟨v, rfl, hd, Step.refl _ _ _ _⟩
    · have HB := Lib.hid hb
      clear hx h0 e1 hb
      go_loopw [7, 20] (fun id i wr => ∃ k : Nat, k ≤ xs.length ∧ i = .int .i64 (k : Int) ∧ FoldRel d v r ns kind x xs w k id wr) (fun _ i _ => xs.length - (intOf i).toNat)
      case atStart => exact ⟨0, Nat.zero_le _, rfl, v, rfl, hd, Step.refl _ _ _ _⟩
      case round =>
        obtain ⟨k, hk, rfl, v1, rfl, hd1, hst⟩ := hrel
        have hst' := Lib.hid hst
        clear hst
        have hle := foldRun_le r kind (xs.take k) ns x
        have hsn : Hid (k < xs.length → foldRun r kind ns x (xs.take (k + 1)) = (putNs r (foldRun r kind ns x (xs.take k)).1 ⟨kind, 0, (foldRun r kind ns x (xs.take k)).2, xs[k]?.getD 0⟩, putId r (foldRun r kind ns x (xs.take k)).1 ⟨kind, 0, (foldRun r kind ns x (xs.take k)).2, xs[k]?.getD 0⟩)) := by
          intro hlt
          rw [List.take_succ_eq_append_getElem hlt, foldRun_snoc]
          simp [hlt]
        have hfin : Hid (k = xs.length → foldRun r kind ns x (xs.take k) = foldRun r kind ns x xs) := by
          intro e
          rw [e, List.take_length]
        generalize hp : foldRun r kind ns x (xs.take k) = p at *
        clear hp
        obtain ⟨ns1, id1⟩ := p
        by_cases hlt : k < xs.length
        · have hce := (hst'.out.2.cell (hxs.out k hlt) HB.out)
          have h2 := hsn.out hlt
          generalize xs[k]?.getD 0 = y at hce h2
          have h1 := Lib.hid h2
          clear h2 hsn hfin
          have hlt' : (k : Int) < (xs.length : Int) := by omega
          have hz : Hid (0 < 2 ^ 64) := by show 0 < 2 ^ 64; omega
          have hl1 : Hid (ns1.length < 20000) := by
            have h1 := hlen.out
            simp only [List.length_take] at hle
            show ns1.length < 20000
            omega
          clear hle
          go_wp2_with fail
          (with_reducible refine (dput_any d v1 r ns1 kind 0 id1 y _ hz hd1 hl1).mono ?_)
          rintro e w2 ⟨v2, rfl, hd2, hst2⟩
          have hst2' := Lib.hid hst2
          clear hst2
          go_wp2_with fail
          go_roundw
          case rel =>
            exact ⟨k + 1, by omega, by go_num, v2, by rw [h1.out], by rw [h1.out]; exact hd2, hst'.out.trans hst2'.out⟩
          case measure => simp [intOf]; omega
        · have hk' : k = xs.length := by omega
          have hnl : ¬ (k : Int) < (xs.length : Int) := by omega
          have h1 := Lib.hid (hfin.out hk')
          clear hle
          go_wp2_with fail
          go_ret
          rw [← h1.out]
          exact ⟨v1, rfl, hd1, hst'.out⟩
end Go.Proofs.Ytaifgjkbagcbeaa
