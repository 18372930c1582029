/-
  WalkDeep: the law's walk.
-/
import Derived.Test.YtaifgjkbagcbeaaWalkL
namespace Go.Proofs.Ytaifgjkbagcbeaa
open Go.RowKit
attribute [local go_sem] run_store_float

def linkN (b : Bool) (j : Nat) : Nd := if b then ⟨1, 0, (j : Int), (j : Int)⟩ else ⟨5, 0, (j : Int), 0⟩
/-- A number and what is made of it, i times. -/
def chainL (b : Bool) (i : Nat) : List Nd := ndOne :: (List.range i).map (linkN b)
theorem chainL_len (b : Bool) (i : Nat) : (chainL b i).length = i + 1 := by simp [chainL]
theorem chainL_succ (b : Bool) (i : Nat) : chainL b (i + 1) = chainL b i ++ [linkN b i] := by simp [chainL, List.range_succ]
theorem chainL_at (b : Bool) (i j : Nat) (h : j < i) : nodeAt (chainL b i) ((j + 1 : Nat) : Int) = linkN b j := by
  unfold nodeAt chainL
  rw [Int.toNat_natCast]
  simp [h]
theorem chainL_zero (b : Bool) (i : Nat) : nodeAt (chainL b i) 0 = ndOne := rfl
theorem chainL_kids (b : Bool) (i j : Nat) (h : j < i) : kids (nodeAt (chainL b i) ((j + 1 : Nat) : Int)) = if b then [(j : Int), (j : Int)] else [(j : Int)] := by
  rw [chainL_at b i j h]
  cases b <;> rfl
theorem chainL_chain (b : Bool) (i : Nat) : Chain (chainL b i) := ⟨rfl, fun j hj => by
  rw [chainL_len] at hj
  rw [chainL_kids b i j (by omega)]
  cases b
  · exact .inl rfl
  · exact .inr rfl⟩
theorem chainL_ok (b : Bool) (i : Nat) : OkDag (chainL b i) := by
  intro x h0 h1 c hc
  rw [chainL_len] at h1
  obtain ⟨n, rfl⟩ : ∃ n : Nat, x = (n : Int) := ⟨x.toNat, by omega⟩
  cases n with
  | zero =>
    rw [show ((0 : Nat) : Int) = 0 from rfl, chainL_zero] at hc
    simp [kids, ndOne] at hc
  | succ j =>
    rw [chainL_kids b i j (by omega)] at hc
    cases b
    · have : c = (j : Int) := by simpa using hc
      omega
    · have : c = (j : Int) := by simpa using hc
      omega
theorem linkN_takes (b : Bool) (i : Nat) (hi : i < 60000) : takesB (i + 1) (linkN b i).k (linkN b i).f (linkN b i).a (linkN b i).b = true := by
  cases b <;> simp [linkN, takesB, validB, hasB] <;> omega
theorem chainL_put (b : Bool) (i : Nat) (hi : i < 60000) : putNs none (chainL b i) (linkN b i) = chainL b (i + 1) ∧ putId none (chainL b i) (linkN b i) = ((i + 1 : Nat) : Int) := by
  have h := linkN_takes b i hi
  rw [← chainL_len b i] at h
  unfold putNs putId
  rw [if_pos h, if_pos h]
  simp [chainL_succ, chainL_len]
theorem chainL_roots (b : Bool) (i : Nat) : rootsL (chainL b i) (idsN (i + 1)) = if b then 0 else i := by
  have h : ∀ j : Nat, j ≤ i → rootsL (chainL b i) (idsN (j + 1)) = if b then 0 else j := by
    intro j
    induction j with
    | zero => intro _; cases b <;> simp [idsN, rootsL, nodeAt, chainL, ndOne, List.range_succ]
    | succ j ih =>
      intro hj
      have ih := ih (by omega)
      unfold rootsL at ih ⊢
      rw [idsN_succ, List.filter_append, List.length_append, ih]
      have e := chainL_at b i j (by omega)
      simp only [List.filter_cons, e]
      cases b <;> simp [linkN]
  exact h i (Nat.le_refl _)
theorem chainL_below (b : Bool) (i : Nat) : belowOf (chainL b i) (i : Int) = idsN (i + 1) := by
  have := (chainL_chain b i).below (root := i) (by rw [chainL_len])
  rwa [chainL_len] at this
theorem chainL_dep (b : Bool) (i : Nat) : depOf (chainL b i) (i : Int) = i := (chainL_chain b i).depOf (chainL_ok b i) (by rw [chainL_len])

theorem chain_root (k d : Nat) (v : Value) (w : World) (hd : DagIs w d v none (chainL false k)) (hk : k ≤ 3000) :
    Calls Try.prog 23 #[.pointer (some ⟨d, 0, none⟩), .int .i64 (k : Int)] w (QPost d v none ((k + 1 : Nat) : Int) (chainL false (k + 1)) w) :=
  (droot_any d v none (chainL false k) (k : Int) w hd (by show _ < 20000; rw [chainL_len]; omega)).mono (PPost.q (n := linkN false k) (chainL_put false k (by omega)).2 (chainL_put false k (by omega)).1)
theorem chain_add (k d : Nat) (v : Value) (w : World) (hd : DagIs w d v none (chainL true k)) (hk : k ≤ 3000) :
    Calls Try.prog 22 #[.pointer (some ⟨d, 0, none⟩), .slice (some ⟨w.heap.size, 0, none⟩) 2 2] (w.alloc (.cells #[.int .i64 (k : Int), .int .i64 (k : Int)] 3)) (QPost d v none ((k + 1 : Nat) : Int) (chainL true (k + 1)) (w.alloc (.cells #[.int .i64 (k : Int), .int .i64 (k : Int)] 3))) := by
  have hb := Blk.new w 3 [.int .i64 (k : Int), .int .i64 (k : Int)]
  refine (dadd_any d v none (chainL true k) w.heap.size 0 2 (k : Int) [(k : Int)] _ (hd.only ((Only.refl [] w).alloc _) (by simp)) (by show _ < 20000; rw [chainL_len]; simp; omega) (fun h => by
    have := hd.lt _ h
    omega) (hb.cell 0) ?_ (by simp) (by decide)).mono (FPost.q ?_)
  · intro j hj
    have : j = 0 := by simpa using hj
    subst this
    exact hb.cell 1
  · have hh : hasB (chainL true k).length (k : Int) = true := by rw [chainL_len]; simp [hasB]; omega
    have h := chainL_put true k (by omega)
    simp only [linkN, if_true] at h
    simp only [foldS, foldRun, hh, if_true, h.1, h.2]

theorem deep_few (n kind : Int) (w : World) (h : n < 0 ∨ 3000 < n) :
    Calls Try.prog 5 #[.int .i64 n, .int .i64 kind] w fun e w' => e = .returned (.bool true) ∧ Only [] w w' := by
  rcases h with h | h
  · go_enter Try.func5, Try.ntmps5
    go_wp2_with fail
    refine (alive10_any w).mono ?_
    rintro e w1 ⟨rfl, ho⟩
    have HO := Lib.hid ho
    clear ho
    go_wp2_with fail
    go_ret
    exact ⟨rfl, HO.out⟩
  · go_enter Try.func5, Try.ntmps5
    go_wp2_with fail
    refine (alive10_any w).mono ?_
    rintro e w1 ⟨rfl, ho⟩
    have HO := Lib.hid ho
    clear ho
    go_wp2_with fail
    go_ret
    exact ⟨rfl, HO.out⟩

set_option maxHeartbeats 3200000 in
set_option maxRecDepth 100000 in
theorem deep_many (n : Nat) (kind : Int) (w : World) (h : (n : Int) ≤ 3000) :
    Calls Try.prog 5 #[.int .i64 (n : Int), .int .i64 kind] w fun e w' => e = .returned (.bool true) ∧ Only [] w w' := by
  have h0 : 0 ≤ (n : Int) := by omega
  go_enter Try.func5, Try.ntmps5
  go_wp2_with fail
  refine (alive10_any w).mono ?_
  rintro e w1 ⟨rfl, ho⟩
  have HO1 := Lib.hid ho
  clear ho
  go_wp2_with fail
  refine (new_any false _).mono ?_
  rintro e w2 ⟨r, rfl, hd2, hr2, hm2, ho2⟩
  obtain rfl : r = none := hr2.2 rfl
  have HOwn2 := Lib.hid (own_new hd2 hm2 ho2)
  clear hd2 hm2 ho2 hr2
  generalize w1.heap.size = d at HOwn2 ⊢
  go_wp2_with fail
  refine (al3 d _ w2 HOwn2.out.is).mono ?_
  rintro e w3 ⟨v3, rfl, hd3, hst3⟩
  have HOwn3 := Lib.hid (HOwn2.out.step hst3 hd3)
  clear hd3 hst3 HOwn2
  go_wp2_with fail
  cases hB : (bits BinOp.and IntKind.i64 kind 1 == 1)
  · skip
    go_loopw [6, 7] (fun id i wr => ∃ (k : Nat) (v : Value), k ≤ n ∧ i = .int .i64 (k : Int) ∧ id = .int .i64 (k : Int) ∧ Own w1 wr d v none (chainL false k)) (fun _ i _ => n - (intOf i).toNat)
    case atStart => exact ⟨0, v3, Nat.zero_le _, rfl, rfl, HOwn3.out⟩
    case round =>
      obtain ⟨k, v, hk, rfl, rfl, hown⟩ := hrel
      have HOwn := Lib.hid hown
      clear hown HOwn3
      by_cases hlt : (k : Int) < (n : Int)
      · go_wp2_with fail
        refine (chain_root k d v wr HOwn.out.is (by omega)).mono ?_
        rintro e w4 ⟨v4, rfl, hd4, hst4⟩
        have HOwn4 := Lib.hid ((HOwn.out).step hst4 hd4)
        clear hd4 hst4 HOwn
        go_wp2_with fail
        go_roundw
        case rel => exact ⟨k + 1, v4, by omega, by go_num, by go_num, HOwn4.out⟩
        case measure => simp [intOf]; omega
      · have hnl : ¬ (k : Int) < (n : Int) := hlt
        have e : k = n := by omega
        subst e
        have HLen : Hid ((chainL false k).length ≤ 20000) := by show _ ≤ _; rw [chainL_len]; omega
        clear hlt hk
        go_wp2_with fail
        have HA : Hid (IRead (wr.alloc (.cells #[.int .i64 (k : Int)] 3)) (some ⟨wr.heap.size, 0, none⟩) [(k : Int)]) := fun k hk => ⟨wr.heap.size, 0, rfl, by
          have e : k = 0 := by simpa using hk
          subst e
          exact (Blk.new wr 3 [.int .i64 (k : Int)]).cell 0⟩
        refine (below_any _ v none _ [(k : Int)] (some ⟨wr.heap.size, 0, none⟩) 1 _ (HOwn.out.is.only ((Only.refl [] wr).alloc _) (by simp)) (chainL_ok false k) HLen.out HA (by simp)).mono ?_
        rintro e w5 ⟨u, rfl, hL, -, ho5⟩
        have hL : IntsAt w5 u (idsN (k + 1)) := chainL_below false k ▸ hL
        obtain ⟨Au, cu, rfl, -⟩ := hL.shape
        rw [show (idsN (k + 1)).length = k + 1 by simp [idsN]]
        have HO5 : Hid (Only [] wr w5) := ((Only.refl [] wr).alloc _).nil_trans ho5
        clear hL ho5 HA
        go_wp2_with fail
        refine (depth_any _ v none _ (k : Int) w5 (HOwn.out.is.only HO5.out (by simp)) (chainL_ok false k) HLen.out (by unfold Small; omega)).mono ?_
        rintro e w6 ⟨rfl, ho6⟩
        rw [chainL_dep]
        have HO6 : Hid (Only [] wr w6) := HO5.out.nil_trans ho6
        clear ho6 HO5
        go_wp2_with fail
        refine (roots_any _ v none _ (k : Int) w6 (HOwn.out.is.only HO6.out (by simp)) (chainL_ok false k) HLen.out).mono ?_
        rintro e w7 ⟨rfl, ho7⟩
        rw [chainL_below, chainL_roots]
        have HO7 : Hid (Only [] wr w7) := HO6.out.nil_trans ho7
        clear ho7 HO6
        go_wp2_with fail
        go_ret
        exact ⟨rfl, HO1.out.nil_trans (HOwn.out.only.nil_trans HO7.out)⟩
  · skip
    go_loopw [6, 7] (fun id i wr => ∃ (k : Nat) (v : Value), k ≤ n ∧ i = .int .i64 (k : Int) ∧ id = .int .i64 (k : Int) ∧ Own w1 wr d v none (chainL true k)) (fun _ i _ => n - (intOf i).toNat)
    case atStart => exact ⟨0, v3, Nat.zero_le _, rfl, rfl, HOwn3.out⟩
    case round =>
      obtain ⟨k, v, hk, rfl, rfl, hown⟩ := hrel
      have HOwn := Lib.hid hown
      clear hown HOwn3
      by_cases hlt : (k : Int) < (n : Int)
      · go_wp2_with fail
        refine (chain_add k d v wr HOwn.out.is (by omega)).mono ?_
        rintro e w4 ⟨v4, rfl, hd4, hst4⟩
        have HOwn4 := Lib.hid ((HOwn.out.other ((Only.refl [] wr).alloc _) (by simp) (by simp)).step hst4 hd4)
        clear hd4 hst4 HOwn
        go_wp2_with fail
        go_roundw
        case rel => exact ⟨k + 1, v4, by omega, by go_num, by go_num, HOwn4.out⟩
        case measure => simp [intOf]; omega
      · have hnl : ¬ (k : Int) < (n : Int) := hlt
        have e : k = n := by omega
        subst e
        have HLen : Hid ((chainL true k).length ≤ 20000) := by show _ ≤ _; rw [chainL_len]; omega
        clear hlt hk
        go_wp2_with fail
        have HA : Hid (IRead (wr.alloc (.cells #[.int .i64 (k : Int)] 3)) (some ⟨wr.heap.size, 0, none⟩) [(k : Int)]) := fun k hk => ⟨wr.heap.size, 0, rfl, by
          have e : k = 0 := by simpa using hk
          subst e
          exact (Blk.new wr 3 [.int .i64 (k : Int)]).cell 0⟩
        refine (below_any _ v none _ [(k : Int)] (some ⟨wr.heap.size, 0, none⟩) 1 _ (HOwn.out.is.only ((Only.refl [] wr).alloc _) (by simp)) (chainL_ok true k) HLen.out HA (by simp)).mono ?_
        rintro e w5 ⟨u, rfl, hL, -, ho5⟩
        have hL : IntsAt w5 u (idsN (k + 1)) := chainL_below true k ▸ hL
        obtain ⟨Au, cu, rfl, -⟩ := hL.shape
        rw [show (idsN (k + 1)).length = k + 1 by simp [idsN]]
        have HO5 : Hid (Only [] wr w5) := ((Only.refl [] wr).alloc _).nil_trans ho5
        clear hL ho5 HA
        go_wp2_with fail
        refine (depth_any _ v none _ (k : Int) w5 (HOwn.out.is.only HO5.out (by simp)) (chainL_ok true k) HLen.out (by unfold Small; omega)).mono ?_
        rintro e w6 ⟨rfl, ho6⟩
        rw [chainL_dep]
        have HO6 : Hid (Only [] wr w6) := HO5.out.nil_trans ho6
        clear ho6 HO5
        go_wp2_with fail
        refine (roots_any _ v none _ (k : Int) w6 (HOwn.out.is.only HO6.out (by simp)) (chainL_ok true k) HLen.out).mono ?_
        rintro e w7 ⟨rfl, ho7⟩
        rw [chainL_below, chainL_roots]
        have HO7 : Hid (Only [] wr w7) := HO6.out.nil_trans ho7
        clear ho7 HO6
        go_wp2_with fail
        go_ret
        exact ⟨rfl, HO1.out.nil_trans (HOwn.out.only.nil_trans HO7.out)⟩

theorem walkDeep_any (n kind : Int) (w : World) (_ : (Lit.int .i64 n).wf = true) (_ : (Lit.int .i64 kind).wf = true) :
    Calls Try.prog 5 #[.int .i64 n, .int .i64 kind] w fun e w' => e = .returned (.bool true) ∧ Only [] w w' := by
  by_cases h : n < 0 ∨ 3000 < n
  · exact deep_few n kind w h
  · obtain ⟨m, rfl⟩ : ∃ m : Nat, n = (m : Int) := ⟨n.toNat, by omega⟩
    exact deep_many m kind w (by omega)
end Go.Proofs.Ytaifgjkbagcbeaa
