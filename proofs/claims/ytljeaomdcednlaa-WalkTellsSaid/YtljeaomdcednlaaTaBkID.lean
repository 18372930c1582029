/-
  The Book: marks; still and marked.
-/
import Derived.Test.YtljeaomdcednlaaTaBkIB
import Derived.Test.YtljeaomdcednlaaTaExt
namespace Go.Proofs.Ytljeaomdcednlaa
open Go.RowKit

def markE (i k : Nat) : Int := (-1000000 * (i : Int) - (k : Int) - 7)
def marks (i a n : Nat) : List Int := (List.range n).map fun k => markE i (a + k)
theorem marks_length (i a n : Nat) : (marks i a n).length = n := by simp [marks]
theorem marks_snoc (i a n : Nat) : marks i a (n + 1) = marks i a n ++ [markE i (a + n)] := by simp [marks, List.range_succ]
theorem marks_add (i : Nat) (n : Nat) : ∀ m, marks i 0 (n + m) = marks i 0 n ++ marks i n m
  | 0 => by simp [marks]
  | m + 1 => by rw [← Nat.add_assoc, marks_snoc, marks_add i n m, marks_snoc, List.append_assoc, Nat.zero_add]
theorem e_push {w' : World} {L : List Int} {g cap : Nat} {x : Int} (h : w'.ownsRow 0 3 1 (.slice (some ⟨g, 0, none⟩) (L.length + 1) cap) (L.length + 1) (ints L ++ [(.int .i64 x)])) : IntsAt w' (.slice (some ⟨g, 0, none⟩) (L.length + 1) cap) (L ++ [x]) := by
  show World.ownsRow _ _ _ _ _ _ _
  rw [vs_add, List.length_append]
  exact h

set_option maxHeartbeats 800000 in
set_option maxRecDepth 100000 in
theorem mark_any (i a n : Nat) (w : World) (hi : (i : Int) ≤ 250) (ha : (a : Int) ≤ 1000) (hn : (n : Int) ≤ 1000) :
    Calls Try.prog 55 #[.int .i64 (i : Int), .int .i64 (a : Int), .int .i64 (n : Int)] w fun e w' => ∃ u, e = .returned u ∧ IntsAt w' u (marks i a n) ∧ (∀ g, u.ownBlock = some g → w.heap.size ≤ g) ∧ Only [] w w' := by
  obtain ⟨i0, hi', hz0, hz1, hz2⟩ := int_parts
  go_enter Try.func55, Try.ntmps55
  go_wp2_with fail
  go_loopw [7, 8] (fun u k wr => ∃ j : Nat, j ≤ n ∧ k = .int .i64 ((a : Int) + (j : Int)) ∧ IntsAt wr u (marks i a j) ∧ (∀ g, u.ownBlock = some g → w.heap.size ≤ g) ∧ Only [] w wr) (fun _ k _ => a + n - (intOf k).toNat)
  case atStart => exact ⟨0, Nat.zero_le _, by simp, World.ownsRow_nil _ _ _ _, fun g hg => by simp [Value.ownBlock] at hg, Only.refl _ _⟩
  case round =>
    obtain ⟨j, hj, rfl, hu, hg, ho⟩ := hrel
    have Hg := Lib.hid hg
    have Ho := Lib.hid ho
    clear hg ho
    by_cases hlt : j < n
    · have hk' : (a : Int) + (j : Int) < (a : Int) + (n : Int) := by omega
      obtain ⟨A, c, rfl, -⟩ := e_shape hu
      have Hu := Lib.hid hu
      have Hl := Lib.hid (marks_length i a j)
      clear hu
      have hb1 : -2147483648 ≤ -1000000 * (i : Int) := by omega
      have hb2 : -1000000 * (i : Int) - ((a : Int) + (j : Int)) - 7 ≤ 0 := by omega
      have hb3 : -2147483648 ≤ -1000000 * (i : Int) - ((a : Int) + (j : Int)) - 7 := by omega
      have hmk : (-1000000 * (i : Int) - ((a : Int) + (j : Int)) - 7) = markE i (a + j) := by unfold markE; omega
      have HMK := Lib.hid hmk
      clear hmk
      go_wp2_with (at_builtin; refine wpList_append_lies _ rfl _ _ _ rfl 0 3 i0 _ 1 8 Try.underlying22 hi' hz0 hz1 hz2 rfl (by decide) (.slice A (marks i a j).length c) (marks i a j).length (ints (marks i a j)) rfl (by exact Hu.out.alloc _) ⟨wr.heap.size, 0, none⟩ 1 1 [(.int .i64 (-1000000 * (i : Int) - ((a : Int) + (j : Int)) - 7))] rfl rfl (by exact cell_one_new _ _ _) (by simp [Value.oneCell']) (by decide) (by have := Hl.out; simp only [maxLen]; omega) (by have := Hl.out; omega) (Nat.zero_le _) (wr.heap.size + 1) (by simp) ?_; intro g cap w2 hown2 hgr2 hat2 hlt2)
      have ho2 : Only (Value.slice A (marks i a j).length c).ownBlock.toList wr w2 := ((Only.refl _ wr).alloc (.cells #[(.int .i64 (-1000000 * (i : Int) - ((a : Int) + (j : Int)) - 7))] 3)).trans (Only.of_grown (S := (Value.slice A (marks i a j).length c).ownBlock.toList) hgr2 (by simp)) (fun k hk => .inl hk)
      go_roundw
      case rel =>
        refine ⟨j + 1, by omega, by go_num, ?_, ?_, Ho.out.trans ho2 (fun k hk => .inr (Hg.out k (by simpa using hk)))⟩
        · rw [marks_snoc]
          refine e_push (x := markE i (a + j)) ?_
          rw [← HMK.out]
          exact hown2
        · intro g' hg'
          have e : g = g' := by simpa [Value.ownBlock] using hg'
          subst e
          rcases hat2 with h | h
          · exact Hg.out g h
          · have := Ho.out.size
            omega
      case measure => simp [intOf]; omega
    · have hnl : ¬ (a : Int) + (j : Int) < (a : Int) + (n : Int) := by omega
      obtain rfl : j = n := by omega
      go_wp2_with fail
      go_ret
      exact ⟨_, rfl, hu, Hg.out, Ho.out⟩

/-- A slice of n lists, of which the k-th reads as f k. -/
def LLRead (w : World) (A : Option Addr) (n : Nat) (f : Nat → List Int) : Prop :=
  ∀ k, k < n → ∃ g B c, A = some ⟨g, 0, none⟩ ∧ w.cell? ⟨g, k, none⟩ = some (.slice B (f k).length c) ∧ IRead w B (f k)
theorem LLRead.only {w w' : World} {A : Option Addr} {n : Nat} {f : Nat → List Int} (h : LLRead w A n f) (ho : Only [] w w') : LLRead w' A n f := fun k hk => by
  obtain ⟨g, B, c, h1, h2, h3⟩ := h k hk
  exact ⟨g, B, c, h1, ho.cell h2 (by simp), h3.only ho⟩
theorem lists_read {w : World} {u : Value} {us : List Value} {Ls : List (List Int)} (h : ListsRow w u us) (hl : Lists w us Ls) : ∃ A c, u = .slice A us.length c ∧ LLRead w A us.length (fun k => Ls[k]?.getD []) := by
  obtain ⟨A, c, rfl, hc⟩ := h.shape
  refine ⟨A, c, rfl, fun k hk => ?_⟩
  obtain ⟨g, h1, h2⟩ := hc k hk
  obtain ⟨B, c', e, _, _, _⟩ := e_shape (hl.at_ k hk)
  have hr := hl.at_ k hk
  rw [e] at h2 hr
  exact ⟨g, B, c', h1, h2, (e_read hr).2⟩
theorem same_list {A B : Option Addr} {c c' n m : Nat} {xs : List Int} {w : World} (hA : IRead w A xs) (hB : IRead w B xs) (hn : n = xs.length) (hm : m = xs.length) (hl : (n : Int) ≤ 20001) :
    Calls Try.prog 11 #[.slice A n c, .slice B m c'] w fun e w' => e = .returned (.bool true) ∧ Only [] w w' := by
  subst hn hm
  exact sameints_any A B c c' xs w (Lib.hid hA) (Lib.hid hB) hl

set_option maxHeartbeats 1600000 in
set_option maxRecDepth 100000 in
theorem marked_any (A : Option Addr) (c n : Nat) (m : Nat → Nat) (w : World) (hA : Hid (LLRead w A n (fun k => marks k 0 (m k)))) (hn : (n : Int) ≤ 250) (hm : Hid (∀ k, k < n → m k ≤ 1000)) :
    Calls Try.prog 39 #[.slice A n c] w fun e w' => e = .returned (.bool true) ∧ Only [] w w' := by
  go_enter Try.func39, Try.ntmps39
  go_wp2_with fail
  go_loopw [3] (fun i wr => ∃ k : Nat, k ≤ n ∧ i = .int .i64 (k : Int) ∧ Only [] w wr) (fun i _ => n - (intOf i).toNat)
  case atStart => exact ⟨0, Nat.zero_le _, rfl, Only.refl _ _⟩
  case round =>
    obtain ⟨k, hk, rfl, ho⟩ := hrel
    have Ho := Lib.hid ho
    clear ho
    by_cases hlt : k < n
    · obtain ⟨g, B, cB, rfl, h1, h2⟩ := hA.out k hlt
      have c0 := Ho.out.cell h1 (by simp)
      have HN := Lib.hid (h2.only Ho.out)
      have hmk := Lib.hid (hm.out k hlt)
      rw [marks_length] at c0
      clear h1 h2
      have hk' : (k : Int) < (n : Int) := by omega
      have cd : wr.drew.cell? ⟨g, k, none⟩ = some (.slice B (m k) cB) := c0
      go_wp2_with fail
      go_region_held3 (fun w' => w'.cell? ⟨g, k, none⟩ = some (.slice B (m k) cB)) (go_keep) (first
        | (go_at_call 55; refine (mark_any k 0 (m k) _ (by omega) (by omega) (by have := hmk.out; omega)).mono ?_; rintro e x1 ⟨u, rfl, hu, _, ho1⟩; obtain ⟨Au, cu, rfl, _⟩ := e_shape hu; have Hx1 := Lib.hid ((Only.refl [] wr).drew.nil_trans ho1); have HU := Lib.hid (e_read hu).2; have c1 := Hx1.out.cell c0 (by simp); clear ho1 hu)
        | (go_at_call 11; refine (same_list (HN.out.only Hx1.out) HU.out (by rw [marks_length]) (by rw [marks_length]) (by have := hmk.out; omega)).mono ?_; rintro e x2 ⟨rfl, ho2⟩; have Hx2 := Lib.hid (Hx1.out.nil_trans ho2); have c2 := Hx2.out.cell c0 (by simp); clear ho2))
      go_wp2_with fail
      go_roundw
      case rel => exact ⟨k + 1, by omega, by go_num, Ho.out.nil_trans Hx2.out⟩
      case measure => simp [intOf]; omega
    · have hnl : ¬ (k : Int) < (n : Int) := by omega
      go_wp2_with fail
      go_ret
      exact ⟨rfl, Ho.out⟩

set_option maxHeartbeats 1600000 in
set_option maxRecDepth 100000 in
theorem still_any (b n : Nat) (A A' : Option Addr) (c c' n' : Nat) (f : Nat → List Int) (w : World) (h4 : w.cell? ⟨b, 0, none⟩ = some (.slice A n c)) (h5 : w.cell? ⟨b, 1, none⟩ = some (.slice A' n' c')) (hn' : n' = n)
    (hA : Hid (LLRead w A n f)) (hA' : Hid (LLRead w A' n f)) (hn : (n : Int) ≤ 250) (hf : Hid (∀ k, k < n → (f k).length ≤ 20001)) :
    Calls Try.prog 24 #[.pointer (some ⟨b, 0, none⟩)] w fun e w' => e = .returned (.bool true) ∧ Only [] w w' := by
  subst hn'
  go_enter Try.func24, Try.ntmps24
  go_wp2_with fail
  go_loopw [3] (fun i wr => ∃ k : Nat, k ≤ n' ∧ i = .int .i64 (k : Int) ∧ Only [] w wr) (fun i _ => n' - (intOf i).toNat)
  case atStart => exact ⟨0, Nat.zero_le _, rfl, Only.refl _ _⟩
  case round =>
    obtain ⟨k, hk, rfl, ho⟩ := hrel
    have Ho := Lib.hid ho
    clear ho
    have c4 := Ho.out.cell h4 (by simp)
    have c5 := Ho.out.cell h5 (by simp)
    by_cases hlt : k < n'
    · obtain ⟨g, B, cB, rfl, p1, p2⟩ := hA.out k hlt
      obtain ⟨g', B', cB', rfl, q1, q2⟩ := hA'.out k hlt
      have hmk := Lib.hid (hf.out k hlt)
      have HB := Lib.hid (p2.only Ho.out)
      have HB' := Lib.hid (q2.only Ho.out)
      have p1' := Ho.out.cell p1 (by simp)
      have q1' := Ho.out.cell q1 (by simp)
      clear p1 p2 q1 q2
      generalize f k = Lk at p1' q1' HB HB' hmk
      have c4' := fun g => Ext.cell c4 g
      have c5' := fun g => Ext.cell c5 g
      have p' := fun g => Ext.cell p1' g
      have q' := fun g => Ext.cell q1' g
      have hk' : (k : Int) < (n' : Int) := by omega
      go_wp2_with fail
      clear c4 c5 p1' q1'
      refine wp_region_ext (by kernel_rfl) (by kernel_rfl) ?_
      repeat (any_goals (first | go_big_quiet_step ((go_at_call 11; exact ext_of (same_list (HB.out.only (Ext.ho _)) (HB'.out.only (Ext.ho _)) rfl rfl (by have := hmk.out; omega)))) | quiet_step ((go_at_call 11; exact ext_of (same_list (HB.out.only (Ext.ho _)) (HB'.out.only (Ext.ho _)) rfl rfl (by have := hmk.out; omega)))) | (refine wpQuiet_step (fun K hK => ?_); go_simp; split <;> (refine hK _ ?_; clear hK K))))
      all_goals (refine wpQuiet_nil ?_; intro _ hw'; obtain ⟨gx, hw''⟩ := hw'; subst hw'')
      go_wp2_with fail
      go_roundw
      case rel => exact ⟨k + 1, by omega, by go_num, Ho.out.nil_trans gx.ho⟩
      case measure => simp [intOf]; omega
    · have hnl : ¬ (k : Int) < (n' : Int) := by omega
      go_wp2_with fail
      go_ret
      exact ⟨rfl, Ho.out⟩
end Go.Proofs.Ytljeaomdcednlaa
