/-
  The book's SameNodes, copyNodes, LentNodes, StaysNodes.
-/
import Derived.Test.YtkiongpfpjfaaaaDoorLoadA
namespace Go.Proofs.YtkiongpfpjfaaaaDoor
open Go.RowKit
attribute [local go_sem] run_store_float

theorem NodesAt.read {w : World} {A : Option Addr} {n c : Nat} {ns : List Nd} (h : NodesAt w (.slice A n c) ns) : n = ns.length ∧ NRead w A ns := by
  obtain ⟨A', c', e, _, _, hc⟩ := h.shape
  injection e with e1 e2 e3
  subst e1
  refine ⟨e2, fun k hk => ?_⟩
  obtain ⟨g, h1, h2⟩ := hc k hk
  exact ⟨g, 0, h1, by rw [Nat.zero_add]; exact h2⟩
theorem addr_add (b o j : Nat) : (⟨b, o, none⟩ : Addr).add j = ⟨b, o + j, none⟩ := by
  unfold Addr.add
  by_cases h : j = 0 <;> simp [h]
theorem NRead.news {w : World} {b o : Nat} {L : List Nd} (h : NRead w (some ⟨b, o, none⟩) L) : ∀ j u, (flat L)[j]? = some u → w.cell? ((⟨b, o, none⟩ : Addr).add j) = some u := by
  intro j u hu
  have hj : j < (flat L).length := (List.getElem?_eq_some_iff.1 hu).1
  rw [flat_length] at hj
  obtain ⟨b', o', e, h0, h1, h2, h3⟩ := h (j / 4) (by omega)
  injection e with e
  injection e with e1 e2
  subst e1 e2
  have hf := flat_get L (j / 4) (j % 4) (by omega) (by omega)
  rw [show j / 4 * 4 + j % 4 = j by omega, hu] at hf
  rw [addr_add]
  have e : o + j = o + j / 4 * 4 + j % 4 := by omega
  rw [e, hf]
  have h4 : j % 4 < 4 := by omega
  generalize j % 4 = r at h4
  match r, h4 with
  | 0, _ => exact h0
  | 1, _ => exact h1
  | 2, _ => exact h2
  | 3, _ => exact h3

set_option maxHeartbeats 1600000 in
set_option maxRecDepth 100000 in
theorem samenodes_any (A B : Option Addr) (c c' : Nat) (L : List Nd) (w : World) (hA : Hid (NRead w A L)) (hB : Hid (NRead w B L)) (hl : (L.length : Int) ≤ 20001) :
    Calls Tryd.prog 15 #[.slice A L.length c, .slice B L.length c'] w fun e w' => e = .returned (.bool true) ∧ Only [] w w' := by
  have hbits := bits_run
  go_enter Tryd.func15, Tryd.ntmps15
  go_wp2_with fail
  go_loopw [5] (fun i wr => ∃ k : Nat, k ≤ L.length ∧ i = .int .i64 (k : Int) ∧ Only [] w wr) (fun i _ => L.length - (intOf i).toNat)
  case atStart => exact ⟨0, Nat.zero_le _, rfl, Only.refl _ _⟩
  case round =>
    obtain ⟨k, hk, rfl, ho⟩ := hrel
    have Ho := Lib.hid ho
    clear ho
    by_cases hlt : k < L.length
    · obtain ⟨b, o, rfl, h1⟩ := hA.out k hlt
      obtain ⟨b', o', rfl, h2⟩ := hB.out k hlt
      obtain ⟨p0, p1, p2, p3⟩ := h1.only Ho.out (by simp)
      obtain ⟨q0, q1, q2, q3⟩ := h2.only Ho.out (by simp)
      clear h1 h2
      generalize L[k]?.getD nd0 = n at p0 p1 p2 p3 q0 q1 q2 q3
      obtain ⟨nk, nf, na, nb⟩ := n
      have hk' : (k : Int) < (L.length : Int) := by omega
      go_wp2_with fail
      go_quiet (fail)
      go_wp2_with fail
      go_roundw
      case rel => exact ⟨k + 1, by omega, by go_num, Ho.out.drewN _⟩
      case measure => simp [intOf]; omega
    · have hnl : ¬ (k : Int) < (L.length : Int) := by omega
      go_wp2_with fail
      go_ret
      exact ⟨rfl, Ho.out⟩

/-- A slice of L.length nodes that reads as L, as an argument. -/
theorem read_shape {w : World} {A : Option Addr} {L : List Nd} (h : NRead w A L) : (A = none ∧ L = []) ∨ ∃ ad, A = some ad ∧ ∀ j u, (flat L)[j]? = some u → w.cell? (ad.add j) = some u := by
  cases hL : L with
  | nil =>
    cases A with
    | none => exact .inl ⟨rfl, rfl⟩
    | some ad => exact .inr ⟨ad, rfl, fun j u hu => by simp [flat] at hu⟩
  | cons x r =>
    right
    obtain ⟨b, o, rfl, _⟩ := h 0 (by simp [hL])
    exact ⟨_, rfl, hL ▸ h.news⟩

theorem copynodes_any (A : Option Addr) (c : Nat) (L : List Nd) (w : World) (hA : Hid (NRead w A L)) (hl : (L.length : Int) ≤ 20001) :
    Calls Tryd.prog 38 #[.slice A L.length c] w fun e w' => ∃ u, e = .returned u ∧ NodesAt w' u L ∧ (∀ g, u.ownBlock = some g → w.heap.size ≤ g) ∧ Only [] w w' := by
  obtain ⟨i0, hi, hz0, hz1, hz2⟩ := info_parts Tryd.nodeInfo
  rcases read_shape hA.out with ⟨rfl, rfl⟩ | ⟨ad, rfl, hn⟩
  · go_enter Tryd.func38, Tryd.ntmps38
    go_wp2
    go_ret
    exact ⟨_, rfl, World.ownsRow_nil _ _ _ _, by simp [Value.ownBlock], Only.refl _ _⟩
  · have H := Lib.hid hn
    clear hn
    go_enter Tryd.func38, Tryd.ntmps38
    go_wp2_with (at_builtin; refine wpList_append_own_at _ rfl _ _ _ rfl 0 43 i0 _ 4 32 Tryd.underlying22 hi hz0 hz1 hz2 rfl (by decide) (.slice none 0 0) 0 [] rfl (World.ownsRow_nil _ _ _ _) ad L.length c (flat L) rfl (flat_length L) H.out (oneCell_flat L) (by simp only [maxLen]; omega) (by omega) (Nat.zero_le _) ?_; intro v1 w1 hown1 hgr1 hnil1 hat1)
    go_ret
    refine ⟨v1, rfl, ?_, ?_, Only.of_grown hgr1 (by simp [Value.ownBlock])⟩
    · unfold NodesAt
      simpa using hown1
    · intro g' hg'
      rcases hat1 with e | e
      · rw [e] at hg'; simp [Value.ownBlock] at hg'
      · rw [e] at hg'; simp at hg'; omega

theorem row_cap {w : World} {base g n cap size : Nat} {e : TypeId} {xs : List Value} (h : w.ownsRow base e size (.slice (some ⟨g, 0, none⟩) n cap) n xs) : n ≤ cap ∧ cap ≤ maxLen := by
  rcases h.2 with ⟨h0, _⟩ | ⟨g', cap', cur, he, _, _, h1, h2, _⟩
  · cases h0
  · injection he with _ _ e
    subst e
    exact ⟨h1, h2⟩
def mark : Nd := ⟨0, 0, -77, 0⟩
/-- A copy of L with one more node behind it. -/
def LPost (L : List Nd) (w : World) (e : Ending) (w' : World) : Prop :=
  ∃ g cap, e = .returned (.slice (some ⟨g, 0, none⟩) L.length cap) ∧ L.length + 1 ≤ cap ∧ cap ≤ maxLen ∧ NodesAt w' (.slice (some ⟨g, 0, none⟩) (L.length + 1) cap) (L ++ [mark]) ∧ w.heap.size ≤ g ∧ Only [] w w'

set_option maxRecDepth 100000 in
theorem lent_any (A : Option Addr) (c : Nat) (L : List Nd) (w : World) (hA : Hid (NRead w A L)) (hl : (L.length : Int) ≤ 20000) :
    Calls Tryd.prog 20 #[.slice A L.length c] w (LPost L w) := by
  obtain ⟨i0, hi, hz0, hz1, hz2⟩ := info_parts Tryd.nodeInfo
  go_enter Tryd.func20, Tryd.ntmps20
  go_wp2_with fail
  refine (copynodes_any A c L w hA (by omega)).mono ?_
  rintro e w1 ⟨u, rfl, hu, hg, ho1⟩
  have Ho1 := Lib.hid ho1
  have Hu := Lib.hid hu
  have Hg := Lib.hid hg
  clear ho1 hg hu
  go_wp2_with (at_builtin; refine wpList_append_lies _ rfl _ _ _ rfl 0 43 i0 _ 4 32 Tryd.underlying22 hi hz0 hz1 hz2 rfl (by decide) u L.length (flat L) rfl (by exact Hu.out.alloc _) ⟨w1.heap.size, 0, none⟩ 1 1 [.int .i64 0, .float .f64 0, .int .i64 (-77), .int .i64 0] rfl rfl (by exact news4 (heap_alloc_new w1 _)) (by simp [Value.oneCell']) (by decide) (by simp only [maxLen]; omega) (by omega) (Nat.zero_le _) (w1.heap.size + 1) (by simp) ?_; intro g cap w2 hown2 hgr2 hat2 hlt2; have hcap := (row_cap hown2).1; have hcl := Nat.le_of_succ_le hcap)
  go_ret
  have hh : Only (u.ownBlock.toList) w1 w2 := ((Only.refl _ w1).alloc (.cells #[.int .i64 0, .float .f64 0, .int .i64 (-77), .int .i64 0] 43)).trans (Only.of_grown (S := u.ownBlock.toList) hgr2 (by simp)) (fun k hk => .inl hk)
  refine ⟨g, cap, rfl, hcap, (row_cap hown2).2, ?_, ?_, Ho1.out.trans hh (fun k hk => .inr (Hg.out k (by simpa using hk)))⟩
  · unfold NodesAt
    rw [flat_snoc, List.length_append]
    exact hown2
  · rcases hat2 with h | h
    · exact Hg.out g h
    · have := Ho1.out.size
      omega


set_option maxRecDepth 100000 in
theorem stays_any (A : Option Addr) (c g cap : Nat) (L : List Nd) (w : World) (hA : Hid (NRead w A L)) (hB : NodesAt w (.slice (some ⟨g, 0, none⟩) (L.length + 1) cap) (L ++ [mark])) (hl : (L.length : Int) ≤ 20000) :
    Calls Tryd.prog 22 #[.slice (some ⟨g, 0, none⟩) L.length cap, .slice A L.length c] w fun e w' => e = .returned (.bool true) ∧ Only [] w w' := by
  have hr := hB.read.2
  have hcap : L.length + 1 ≤ cap := (row_cap (n := L.length + 1) (by unfold NodesAt at hB; simpa using hB)).1
  have hm : Cells4 w g (L.length * 4) mark := by
    obtain ⟨b, o, e, h⟩ := hr L.length (by simp)
    injection e with e
    injection e with e1 e2
    subst e1 e2
    simpa using h
  have hM : Hid (NRead w (some ⟨g, 0, none⟩) L) := fun k hk => by
    obtain ⟨b, o, e, h⟩ := hr k (by simp; omega)
    refine ⟨b, o, e, ?_⟩
    rw [List.getElem?_append_left hk] at h
    exact h
  have hm2 := Lib.hid hm
  clear hr hm hB
  go_enter Tryd.func22, Tryd.ntmps22
  go_wp2_with fail
  refine (samenodes_any _ A cap c L w hM hA (by omega)).mono ?_
  rintro e w1 ⟨rfl, ho1⟩
  obtain ⟨_, _, m2, _⟩ := hm2.out.only ho1 (by simp)
  have Ho1 := Lib.hid ho1
  clear ho1
  go_wp2_with fail
  go_ret
  exact ⟨rfl, Ho1.out⟩

/-- A slice of ints reads as xs. -/
def IRead (w : World) (A : Option Addr) (xs : List Int) : Prop := ∀ k, k < xs.length → ∃ b o, A = some ⟨b, o, none⟩ ∧ w.cell? ⟨b, o + k, none⟩ = some (.int .i64 (xs[k]?.getD 0))
theorem IRead.only {w w' : World} {A : Option Addr} {xs : List Int} (h : IRead w A xs) (ho : Only [] w w') : IRead w' A xs := fun k hk => by
  obtain ⟨b, o, h1, h2⟩ := h k hk
  exact ⟨b, o, h1, ho.cell h2 (by simp)⟩

set_option maxRecDepth 100000 in
theorem sameints_any (A B : Option Addr) (c c' : Nat) (xs : List Int) (w : World) (hA : Hid (IRead w A xs)) (hB : Hid (IRead w B xs)) (hl : (xs.length : Int) ≤ 20001) :
    Calls Tryd.prog 24 #[.slice A xs.length c, .slice B xs.length c'] w fun e w' => e = .returned (.bool true) ∧ Only [] w w' := by
  go_enter Tryd.func24, Tryd.ntmps24
  go_wp2_with fail
  go_loopw [5] (fun i wr => ∃ k : Nat, k ≤ xs.length ∧ i = .int .i64 (k : Int) ∧ Only [] w wr) (fun i _ => xs.length - (intOf i).toNat)
  case atStart => exact ⟨0, Nat.zero_le _, rfl, Only.refl _ _⟩
  case round =>
    obtain ⟨k, hk, rfl, ho⟩ := hrel
    have Ho := Lib.hid ho
    clear ho
    by_cases hlt : k < xs.length
    · obtain ⟨b, o, rfl, h1⟩ := hA.out k hlt
      obtain ⟨b', o', rfl, h2⟩ := hB.out k hlt
      have p0 := Ho.out.cell h1 (by simp)
      have q0 := Ho.out.cell h2 (by simp)
      clear h1 h2
      generalize xs[k]?.getD 0 = n at p0 q0
      have hk' : (k : Int) < (xs.length : Int) := by omega
      go_wp2_with fail
      go_quiet (fail)
      go_wp2_with fail
      go_roundw
      case rel => exact ⟨k + 1, by omega, by go_num, Ho.out.drewN _⟩
      case measure => simp [intOf]; omega
    · have hnl : ¬ (k : Int) < (xs.length : Int) := by omega
      go_wp2_with fail
      go_ret
      exact ⟨rfl, Ho.out⟩
end Go.Proofs.YtkiongpfpjfaaaaDoor
