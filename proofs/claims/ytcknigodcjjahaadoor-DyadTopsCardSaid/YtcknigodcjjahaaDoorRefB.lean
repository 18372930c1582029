/-
  The reference's numbers: SameLimbs, Limbs, Is, From.
-/
import Derived.Test.YtcknigodcjjahaaDoorRefA
namespace Go.Proofs.YtcknigodcjjahaaDoor
open Go.RowKit

set_option maxHeartbeats 800000 in
theorem samelimbs_any (A B : Option Addr) (c d n m : Nat) (xs ys : List Nat) (w : World) (hA : Hid (LRead w A xs)) (hB : Hid (LRead w B ys)) (hn : Hid (n = xs.length)) (hm : Hid (m = ys.length)) (hl : (n : Int) ≤ 16000000) :
    Calls Tryd.prog 87 #[.slice A n c, .slice B m d] w fun e w' => e = .returned (.bool (decide (xs = ys))) ∧ Only [] w w' := by
  by_cases hnm : n = m
  · have hne : ((n : Int) != (m : Int)) = false := by simp; omega
    have HNM : Hid (xs.length = ys.length) := by have := hn.out; have := hm.out; show _ = _; omega
    subst hnm
    go_enter Tryd.func87, Tryd.ntmps87
    go_wp2_with fail
    go_loopw [5] (fun i wr => ∃ k : Nat, k ≤ n ∧ i = .int .i64 (k : Int) ∧ Only [] w wr ∧ xs.take k = ys.take k) (fun i _ => n - (intOf i).toNat)
    case atStart => exact ⟨0, Nat.zero_le _, rfl, Only.refl _ _, rfl⟩
    case round =>
      obtain ⟨k, hk, rfl, ho, ht⟩ := hrel
      have HO := Lib.hid ho
      have HT := Lib.hid ht
      clear ho ht
      by_cases hlt : k < n
      · obtain ⟨b, o, rfl, h1⟩ := hA.out k (by have := hn.out; omega)
        obtain ⟨b', o', rfl, h2⟩ := hB.out k (by have := hm.out; omega)
        have p0 := HO.out.cell h1 (by simp)
        have q0 := HO.out.cell h2 (by simp)
        have hk' : (k : Int) < (n : Int) := by omega
        have HEq : Hid (xs[k]?.getD 0 = ys[k]?.getD 0 → xs.take (k + 1) = ys.take (k + 1)) := fun h => by
          have g1 : k < xs.length := by have := hn.out; omega
          have g2 : k < ys.length := by have := hm.out; omega
          rw [List.take_succ_eq_append_getElem g1, List.take_succ_eq_append_getElem g2, HT.out]
          rw [List.getElem?_eq_getElem g1, List.getElem?_eq_getElem g2] at h
          simp only [Option.getD_some] at h
          rw [h]
        have HNe : Hid (xs[k]?.getD 0 ≠ ys[k]?.getD 0 → decide (xs = ys) = false) := fun h => by
          rw [decide_eq_false_iff_not]
          rintro rfl
          exact h rfl
        clear h1 h2 hlt
        generalize xs[k]?.getD 0 = x at p0 HEq HNe
        generalize ys[k]?.getD 0 = y at q0 HEq HNe
        by_cases hxy : x = y
        · have HE := Lib.hid (HEq.out hxy)
          subst hxy
          go_wp2_with fail
          go_quiet (fail)
          go_wp2_with fail
          go_roundw
          case rel => exact ⟨k + 1, by omega, by go_num, HO.out.drewN _, HE.out⟩
          case measure => simp [intOf]; omega
        · have HE := Lib.hid (HNe.out hxy)
          have hb : ((x : Int) == (y : Int)) = false := by rw [beq_eq_false_iff_ne]; omega
          clear hxy
          go_wp2_with fail
          go_quiet (fail)
          go_wp2_with fail
          go_ret
          exact ⟨by rw [HE.out]; rfl, HO.out.drewN _⟩
      · have hnl : ¬ (k : Int) < (n : Int) := by omega
        have HE : Hid (decide (xs = ys) = true) := by
          have h1 := HT.out
          rw [List.take_of_length_le (by have := hn.out; omega), List.take_of_length_le (by have := hm.out; omega)] at h1
          show _ = _
          rw [decide_eq_true h1]
        clear hlt
        go_wp2_with fail
        go_ret
        exact ⟨by rw [HE.out]; rfl, HO.out⟩
  · have hne : ((n : Int) != (m : Int)) = true := by simp; omega
    have HE : Hid (decide (xs = ys) = false) := by
      show _ = _
      rw [decide_eq_false_iff_not]
      rintro rfl
      exact hnm (hn.out.trans hm.out.symm)
    clear hnm
    go_enter Tryd.func87, Tryd.ntmps87
    go_wp2_with fail
    go_ret
    exact ⟨by rw [HE.out]; rfl, Only.refl _ _⟩

theorem frame_app {w wr wx w4 : World} {u : Value} (ho : Only [] w wr) (hfr : ∀ g, u.ownBlock = some g → w.heap.size ≤ g) (hx : Only [] wr wx) (h4 : Only u.ownBlock.toList wx w4) : Only [] w w4 :=
  (ho.nil_trans hx).trans h4 (fun k hk => .inr (hfr k (by simpa using hk)))
theorem fresh_app {w wr wx : World} {u : Value} {g' n c : Nat} (ho : Only [] w wr) (hfr : ∀ g, u.ownBlock = some g → w.heap.size ≤ g) (hx : Only [] wr wx) (h : u.ownBlock = some g' ∨ wx.heap.size ≤ g') : ∀ g, (Value.slice (some ⟨g', 0, none⟩) n c).ownBlock = some g → w.heap.size ≤ g := by
  intro g hg
  simp [Value.ownBlock] at hg
  subst hg
  rcases h with h | h
  · exact hfr _ h
  · have h1 := ho.size
    have h2 := hx.size
    omega
/-- One more limb out of two digits. -/
theorem join_take : ∀ (xs : List Nat) (j : Nat), 2 * j < xs.length → R.join (xs.take (2 * j + 2)) = R.join (xs.take (2 * j)) ++ [xs[2 * j]?.getD 0 + (xs[2 * j + 1]?.getD 0) * R.BB]
  | [], j, h => by simp at h
  | [x], j, h => by
    have : j = 0 := by simp at h; omega
    subst this
    simp [R.join]
  | x :: y :: zs, 0, h => by simp [R.join]
  | x :: y :: zs, j + 1, h => by
    have e1 : 2 * (j + 1) + 2 = (2 * j + 2) + 1 + 1 := by omega
    have e2 : 2 * (j + 1) = 2 * j + 1 + 1 := by omega
    have ih := join_take zs j (by simp at h; omega)
    rw [e1, e2]
    simp only [List.take_succ_cons, List.getElem?_cons_succ, R.join]
    rw [ih]
    rfl
theorem join_take_len : ∀ (xs : List Nat) (j : Nat), 2 * j ≤ xs.length + 1 → (R.join (xs.take (2 * j))).length = j
  | xs, 0, _ => by simp [R.join]
  | xs, j + 1, h => by
    have ih := join_take_len xs j (by omega)
    rw [show 2 * (j + 1) = 2 * j + 2 by omega, join_take xs j (by omega), List.length_append, ih]
    rfl
set_option maxHeartbeats 1600000 in
set_option maxRecDepth 100000 in
theorem limbs_any (A : Option Addr) (n c : Nat) (xs : List Nat) (w : World) (hA : Hid (LRead w A xs)) (hx : Hid (R.Limb xs)) (hn : Hid (n = xs.length)) (hl : (n : Int) ≤ 8000000) :
    Calls Tryd.prog 88 #[.slice A n c] w fun e w' => ∃ A' k c', e = .returned (.slice A' k c') ∧ LimbsAt w' (.slice A' k c') (R.join xs) ∧ (∀ g, (Value.slice A' k c').ownBlock = some g → w.heap.size ≤ g) ∧ Only [] w w' := by
  go_enter Tryd.func88, Tryd.ntmps88
  go_wp2_with fail
  go_loopw [3, 4] (fun ov i wr => ∃ (j : Nat) (A' : Option Addr) (c' : Nat), 2 * j ≤ n + 1 ∧ ov = .slice A' j c' ∧ i = .int .i64 (2 * (j : Int)) ∧ LimbsAt wr (.slice A' j c') (R.join (xs.take (2 * j))) ∧ (∀ g, (Value.slice A' j c').ownBlock = some g → w.heap.size ≤ g) ∧ Only [] w wr) (fun _ i _ => n + 2 - (intOf i).toNat)
  case atStart => exact ⟨0, none, 0, Nat.zero_le _, rfl, rfl, limbsAt_nil _, by simp [Value.ownBlock], Only.refl _ _⟩
  case round =>
    obtain ⟨j, A', c', hj, rfl, rfl, hat, hfr, ho⟩ := hrel
    have HAt := Lib.hid hat
    have HFr := Lib.hid hfr
    have HO := Lib.hid ho
    clear hat hfr ho
    by_cases hlt : 2 * j < n
    · obtain ⟨b, o, rfl, h1⟩ := hA.out (2 * j) (by have := hn.out; omega)
      have p0 := HO.out.cell h1 (by simp)
      have HX := Lib.hid (hx.out.get (2 * j))
      have HY := Lib.hid (hx.out.get (2 * j + 1))
      have HJ := Lib.hid (join_take xs j (by have := hn.out; omega))
      have hlti : 2 * (j : Int) < (n : Int) := by omega
      have HJl : Hid ((R.join (xs.take (2 * j))).length = j) := join_take_len xs j (by have := hn.out; omega)
      obtain ⟨e0, he0⟩ : ∃ e0, 2 * j = e0 := ⟨_, rfl⟩
      have hei : 2 * (j : Int) = (e0 : Int) := by omega
      rw [he0] at p0 HX HY HJ
      by_cases hlt2 : e0 + 1 < n
      · obtain ⟨_, _, e3, h2⟩ := hA.out (e0 + 1) (by have := hn.out; omega)
        injection e3 with e3
        injection e3 with e3 e4 _
        subst e3 e4
        have q0 := HO.out.cell h2 (by simp)
        have hlt3 : (e0 : Int) + 1 < (n : Int) := by omega
        have hei0 : (e0 : Int) < (n : Int) := by omega
        generalize xs[e0]?.getD 0 = x at p0 HX HJ
        generalize xs[e0 + 1]?.getD 0 = y at q0 HY HJ
        have hxb := HX.out
        have hyb := HY.out
        rw [R.BB_val] at hxb hyb
        obtain ⟨y1, hy1⟩ : ∃ y1, y * 4294967296 = y1 := ⟨_, rfl⟩
        have hw1 : IntKind.u64.wrap ((y : Int) * 4294967296) = (y1 : Int) := by
          rw [show (y : Int) * 4294967296 = (y1 : Int) by omega]
          exact u64_wrap (by rw [BB_val]; omega)
        obtain ⟨z, hz⟩ : ∃ z, x + y1 = z := ⟨_, rfl⟩
        have hw2 : IntKind.u64.wrap ((x : Int) + (y1 : Int)) = (z : Int) := u64_add hz (by rw [BB_val]; omega)
        have HZ : Hid (R.join (xs.take (2 * j + 2)) = R.join (xs.take (2 * j)) ++ [z]) := by
          rw [he0]
          show _ = _
          rw [HJ.out, R.BB_val, hy1, hz]
        have HE0 := Lib.hid he0
        clear hlt hlt2 hxb hyb hy1 hz he0 HJ h1 h2
        go_wp2_with (at_builtin; refine append_limbs 22 Tryd.underlying22 rfl _ _ rfl (.slice A' j c') j (R.join (xs.take (2 * j))) [z] rfl (HAt.out.only ((Only.refl [] wr).alloc _) (by simp)) HJl.out.symm wr.heap.size 1 rfl rfl (by simp) (Blk.new wr 59 (limbV [z])) (by omega) ?_; intro g' c2 w4 h1 h2 h3; have HA4 := Lib.hid h1; have HF4 := Lib.hid h2; have HO4 := Lib.hid h3; clear h1 h2 h3)
        go_wp2_with fail
        go_roundw
        case rel =>
          refine ⟨j + 1, some ⟨g', 0, none⟩, c2, by omega, rfl, by have := HE0.out; congr 1; omega, ?_, ?_, ?_⟩
          · have h := HA4.out
            rw [← HZ.out] at h
            exact h
          · exact fresh_app HO.out HFr.out ((Only.refl [] wr).alloc _) HF4.out
          · exact frame_app HO.out HFr.out ((Only.refl [] wr).alloc _) HO4.out
        case measure => simp [intOf]; omega
      · have hlt3 : ¬ (e0 : Int) + 1 < (n : Int) := by omega
        have hei0 : (e0 : Int) < (n : Int) := by omega
        generalize xs[e0]?.getD 0 = z at p0 HX HJ
        have HZ : Hid (R.join (xs.take (2 * j + 2)) = R.join (xs.take (2 * j)) ++ [z]) := by
          rw [he0]
          show _ = _
          rw [HJ.out, List.getElem?_eq_none (by have := hn.out; omega)]
          simp
        have HE0 := Lib.hid he0
        clear hlt hlt2 he0 HJ h1
        go_wp2_with (at_builtin; refine append_limbs 22 Tryd.underlying22 rfl _ _ rfl (.slice A' j c') j (R.join (xs.take (2 * j))) [z] rfl (HAt.out.only ((Only.refl [] wr).alloc _) (by simp)) HJl.out.symm wr.heap.size 1 rfl rfl (by simp) (Blk.new wr 59 (limbV [z])) (by omega) ?_; intro g' c2 w4 h1 h2 h3; have HA4 := Lib.hid h1; have HF4 := Lib.hid h2; have HO4 := Lib.hid h3; clear h1 h2 h3)
        go_wp2_with fail
        go_roundw
        case rel =>
          refine ⟨j + 1, some ⟨g', 0, none⟩, c2, by omega, rfl, by have := HE0.out; congr 1; omega, ?_, ?_, ?_⟩
          · have h := HA4.out
            rw [← HZ.out] at h
            exact h
          · exact fresh_app HO.out HFr.out ((Only.refl [] wr).alloc _) HF4.out
          · exact frame_app HO.out HFr.out ((Only.refl [] wr).alloc _) HO4.out
        case measure => simp [intOf]; omega
    · have hnl : ¬ 2 * (j : Int) < (n : Int) := by omega
      have HE : Hid (xs.take (2 * j) = xs) := List.take_of_length_le (by have := hn.out; omega)
      clear hlt
      go_wp2_with fail
      go_ret
      exact ⟨A', j, c', rfl, by have h := HAt.out; rw [HE.out] at h; exact h, HFr.out, HO.out⟩

theorem is_any (a b : Value) (n m : Nat) (w : World) (ha : Hid (∃ A k c, a = .slice A k c ∧ k = (limbsOf n).length ∧ LRead w A (limbsOf n) ∧ (k : Int) ≤ 4000000)) (hb : Hid (RV w b m)) (hf : Hid (Few m)) :
    Calls Tryd.prog 22 #[a, b] w fun e w' => e = .returned (.bool (decide (n = m))) ∧ Only [] w w' := by
  obtain ⟨A, k, c, rfl, hk, hr, hl⟩ := ha.out
  obtain ⟨B, d, rfl, hrb, hcb⟩ := hb.out
  have hlb := hf.out.digits
  have HK := Lib.hid hk
  have HR := Lib.hid hr
  have HRb := Lib.hid hrb
  clear ha hb hk hr hrb
  go_enter Tryd.func22, Tryd.ntmps22
  go_wp2_with fail
  refine (limbs_any B _ d (R.limbsOf m) w HRb (Lib.hid (R.limb_limbsOf m)) (Lib.hid rfl) (by omega)).mono ?_
  rintro e w1 ⟨A', k', c', rfl, hat, hfr, ho⟩
  rw [R.join_digits] at hat
  have HAt := Lib.hid hat
  have HO := Lib.hid ho
  have HR1 := Lib.hid (HR.out.only ho)
  clear hat hfr ho
  go_wp2_with fail
  refine (samelimbs_any A A' c c' k k' (limbsOf n) (limbsOf m) w1 HR1 (Lib.hid (LimbsAt.read HAt.out).2) HK (Lib.hid (LimbsAt.read HAt.out).1) (by omega)).mono ?_
  rintro e w2 ⟨rfl, ho⟩
  have HO2 := Lib.hid ho
  clear ho
  go_wp2_with fail
  go_ret
  refine ⟨?_, HO.out.nil_trans HO2.out⟩
  have e : decide (limbsOf n = limbsOf m) = decide (n = m) := by
    by_cases h : n = m
    · subst h; simp
    · have h2 : limbsOf n ≠ limbsOf m := fun h3 => h (limbsOf_inj h3)
      rw [decide_eq_false h, decide_eq_false h2]
  rw [← e]
  rfl

set_option maxHeartbeats 1600000 in
set_option maxRecDepth 100000 in
theorem from_any (A : Option Addr) (n c : Nat) (xs : List Nat) (w : World) (hA : Hid (LRead w A xs)) (hx : Hid (Limb xs)) (hn : Hid (n = xs.length)) (hl : (n : Int) ≤ 4000000) :
    Calls Tryd.prog 10 #[.slice A n c] w (RPost (val xs) w) := by
  obtain ⟨i0, hi, hz0, hz1, hz2⟩ := u64_parts
  go_enter Tryd.func10, Tryd.ntmps10
  go_wp2_with fail
  go_loopw [3, 4] (fun ov i wr => ∃ (j : Nat) (A' : Option Addr) (c' : Nat), j ≤ n ∧ ov = .slice A' (2 * j) c' ∧ i = .int .i64 (j : Int) ∧ LimbsAt wr (.slice A' (2 * j) c') (R.split (xs.take j)) ∧ (∀ g, (Value.slice A' (2 * j) c').ownBlock = some g → w.heap.size ≤ g) ∧ Only [] w wr) (fun _ i _ => n - (intOf i).toNat)
  case atStart => exact ⟨0, none, 0, Nat.zero_le _, rfl, rfl, limbsAt_nil _, by simp [Value.ownBlock], Only.refl _ _⟩
  case round =>
    obtain ⟨j, A', c', hj, rfl, rfl, hat, hfr, ho⟩ := hrel
    have HAt := Lib.hid hat
    have HFr := Lib.hid hfr
    have HO := Lib.hid ho
    clear hat hfr ho
    by_cases hlt : j < n
    · obtain ⟨b, o, rfl, h1⟩ := hA.out j (by have := hn.out; omega)
      have p0 := HO.out.cell h1 (by simp)
      have HX := Lib.hid (hx.out.get j)
      have hlti : (j : Int) < (n : Int) := by omega
      have HJl : Hid (2 * j = (R.split (xs.take j)).length) := by show _ = _; rw [R.split_len, List.length_take, Nat.min_eq_left (by have := hn.out; omega)]
      have HSp : Hid (R.split (xs.take (j + 1)) = R.split (xs.take j) ++ [xs[j]?.getD 0 % R.BB, xs[j]?.getD 0 / R.BB]) := by
        have g1 : j < xs.length := by have := hn.out; omega
        show _ = _
        rw [List.take_succ_eq_append_getElem g1, R.split_snoc, List.getElem?_eq_getElem g1]
        rfl
      rw [R.BB_val] at HSp
      generalize xs[j]?.getD 0 = x at p0 HX HSp
      have hr1 : (x : Int) % 4294967296 = ((x % 4294967296 : Nat) : Int) := by omega
      have hr2 : (x : Int) / 4294967296 = ((x / 4294967296 : Nat) : Int) := by omega
      have hr3 : (x : Int).tmod 4294967296 = ((x % 4294967296 : Nat) : Int) := by rw [Int.tmod_eq_emod_of_nonneg (by omega)]; exact hr1
      have hr4 : (x : Int).tdiv 4294967296 = ((x / 4294967296 : Nat) : Int) := by rw [Int.tdiv_eq_ediv_of_nonneg (by omega)]; exact hr2
      have hx1 : x / 4294967296 < BB := Nat.lt_of_le_of_lt (Nat.div_le_self _ _) HX.out
      generalize x % 4294967296 = x0 at *
      generalize x / 4294967296 = x1 at *
      have hw1 : IntKind.u64.wrap (x1 : Int) = (x1 : Int) := u64_wrap hx1
      clear h1 hlt hx1
      have hown : wr.ownsRow 0 59 1 (.slice A' (2 * j) c') (2 * j) (limbV (R.split (xs.take j))) := by
        have h := HAt.out
        unfold LimbsAt at h
        rw [← HJl.out] at h
        exact h
      have HOwn := Lib.hid hown
      clear hown
      go_wp2_with fail
      go_region_law (first | (refine step_append_lies _ rfl (.tmp 11) (.tmp 22) 25 rfl 0 59 i0 _ 1 8 Tryd.underlying25 hi hz0 hz1 hz2 rfl (by decide) (.slice A' (2 * j) c') (2 * j) (limbV (R.split (xs.take j))) rfl (by exact HOwn.out.alloc _) ⟨wr.heap.size, 0, none⟩ 2 2 [.int .u64 (x0 : Int), .int .u64 (x1 : Int)] rfl rfl (by exact World.news_of_block (w := (wr.alloc (Obj.cells #[.int .u64 (x0 : Int), .int .u64 (x1 : Int)] 59)).drew) (cs := #[.int .u64 (x0 : Int), .int .u64 (x1 : Int)]) (heap_alloc_new wr _)) (by simp [Value.oneCell']) (by decide) (by simp only [maxLen]; omega) (by omega) (Nat.zero_le _) (wr.heap.size + 1) (by simp) ?_; intro g2 cap w3 hown3 hgrow3 hat3 hlt3))
      all_goals
        have hown4 : LimbsAt w3 (.slice (some ⟨g2, 0, none⟩) (2 * j + 2) cap) (R.split (xs.take (j + 1))) := by
          rw [HSp.out]
          show World.ownsRow _ _ _ _ _ _ _
          have e : limbV (R.split (xs.take j) ++ [x0, x1]) = limbV (R.split (xs.take j)) ++ [.int .u64 (x0 : Int), .int .u64 (x1 : Int)] := by simp [limbV]
          rw [e, List.length_append, ← HJl.out]
          exact hown3
        have HOwn4 := Lib.hid hown4
        have HX4 : Hid (Only [] wr (wr.alloc (Obj.cells #[.int .u64 (x0 : Int), .int .u64 (x1 : Int)] 59)).drew) := ((Only.refl [] wr).alloc _).drew
        have HO4 : Hid (Only (Value.slice A' (2 * j) c').ownBlock.toList (wr.alloc (Obj.cells #[.int .u64 (x0 : Int), .int .u64 (x1 : Int)] 59)).drew w3) := Only.of_grown hgrow3 (fun k hk => by rw [hk]; simp)
        have HF4 : Hid ((Value.slice A' (2 * j) c').ownBlock = some g2 ∨ (wr.alloc (Obj.cells #[.int .u64 (x0 : Int), .int .u64 (x1 : Int)] 59)).drew.heap.size ≤ g2) := by
          rcases hat3 with h | h
          · exact .inl h
          · exact .inr (by simp; omega)
        clear hown3 hgrow3 hat3 hlt3 hown4
        go_wp2_with fail
        go_roundw
        case rel => exact ⟨j + 1, some ⟨g2, 0, none⟩, cap, by omega, by rw [show 2 * (j + 1) = 2 * j + 2 by omega], by go_num, by rw [show 2 * (j + 1) = 2 * j + 2 by omega]; exact HOwn4.out, fresh_app HO.out HFr.out HX4.out HF4.out, frame_app HO.out HFr.out HX4.out HO4.out⟩
        case measure => simp [intOf]; omega
    · have hnl : ¬ (j : Int) < (n : Int) := by omega
      have HE : Hid (xs.take j = xs) := List.take_of_length_le (by have := hn.out; omega)
      have hj2 : j = n := by omega
      have hj8 : 2 * (j : Int) ≤ 8000000 := by omega
      have HAt2 := Lib.hid HAt.out
      have htr := rtrim_any A' (2 * j) c' (R.split (xs.take j)) wr (Lib.hid (LimbsAt.read HAt.out).2) (Lib.hid (R.split_limb (by rw [HE.out]; exact hx.out))) (Lib.hid (LimbsAt.read HAt.out).1) (by
        rcases HAt.out.2 with ⟨hv, h0⟩ | ⟨gp, cap, cur, hv, _, _, h5, _⟩
        · injection hv with _ h6 h7
          omega
        · injection hv with _ h6 h7
          rw [R.split_len] at h5
          have := (LimbsAt.read HAt.out).1
          rw [R.split_len] at this
          omega) (by omega)
      rw [R.split_val, HE.out] at htr
      have HTr := Lib.hid htr
      have HRd : Hid (LRead wr A' (R.limbsOf (val xs))) := by
        have h1 := (LimbsAt.read HAt.out).2
        rw [HE.out] at h1
        have h2 := (R.limbsOf_take (R.split_limb hx.out)).1
        rw [R.split_val] at h2
        show LRead _ _ _
        rw [← h2]
        exact h1.take _
      clear htr hlt hj2
      go_wp2_with fail
      refine HTr.out.mono ?_
      rintro e w' ⟨rfl, rfl⟩
      go_wp2_with fail
      go_ret
      exact ⟨A', _, _, rfl, ⟨A', _, rfl, HRd.out, Nat.le_refl _⟩, fun a ha => HFr.out a.block (by rw [ha]; rfl), HO.out⟩
/-- From, of a number as a value. -/
theorem from_v {w : World} {a : Value} {n : Nat} (ha : Hid (NV w a n)) : Calls Tryd.prog 10 #[a] w (RPost n w) := by
  obtain ⟨A, c, xs, rfl, h2, h3, h4, rfl⟩ := ha.out
  exact from_any A _ c xs w (Lib.hid h2.read) (Lib.hid h2.limb) (Lib.hid rfl) (by omega)
/-- Is, of a result. -/
theorem is_v {w w0 : World} {a b : Value} {n m : Nat} (ha : Hid (Res w0 w a n)) (hfa : Hid (Few n)) (hb : Hid (RV w b m)) (hf : Hid (Few m)) : Calls Tryd.prog 22 #[a, b] w fun e w' => e = .returned (.bool (decide (n = m))) ∧ Only [] w w' := by
  obtain ⟨A, c, h1, h2, _⟩ := ha.out.at_.shape
  have := hfa.out.len
  exact is_any a b n m w (Lib.hid ⟨A, _, c, h1, rfl, h2, by omega⟩) hb hf
end Go.Proofs.YtcknigodcjjahaaDoor
