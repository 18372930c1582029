/-
  nat: trim, Of, Cmp.
-/
import Derived.Test.YtphjcphcgnjogaaDoorNum
import Derived.Test.YtphjcphcgnjogaaDoorValC
namespace Go.Proofs.YtphjcphcgnjogaaDoor
open Go.RowKit

set_option maxHeartbeats 800000 in
theorem trim_any (A : Option Addr) (c : Nat) (xs : List Nat) (w : World) (h : Hid (Arg w A xs)) (hc : xs.length ≤ c) :
    Calls Tryd.prog 58 #[.slice A xs.length c] w fun e w' => e = .returned (.slice A (limbsOf (val xs)).length c) ∧ w = w' := by
  have hlen := h.out.len
  go_enter Tryd.func58, Tryd.ntmps58
  go_wp2
  go_loop [3] (fun t => ∃ n : Nat, n ≤ xs.length ∧ t = .int .i64 (n : Int) ∧ ∀ j, n ≤ j → j < xs.length → xs[j]?.getD 0 = 0) (fun t => (intOf t).toNat)
  case atStart => exact ⟨xs.length, Nat.le_refl _, rfl, fun j h1 h2 => by omega⟩
  case round =>
    obtain ⟨n, hn, rfl, hz⟩ := hrel
    have HZ := Lib.hid hz
    clear hz
    cases n with
    | zero =>
      have HE : Hid ((limbsOf (val xs)).length = 0) := (trim_stop h.out.limb 0 hn HZ.out (fun h => by omega)).1
      go_wp2
      go_ret
      exact ⟨by rw [HE.out]; rfl, rfl⟩
    | succ m =>
      obtain ⟨b, o, rfl, hcell⟩ := h.out.read m (by omega)
      by_cases h0 : xs[m]?.getD 0 = 0
      · have HZ' : Hid (∀ j, m ≤ j → j < xs.length → xs[j]?.getD 0 = 0) := fun j h1 h2 => by
          by_cases e : j = m
          · rw [e]; exact h0
          · exact HZ.out j (by omega) h2
        rw [h0] at hcell
        clear h0
        go_wp2
        go_round
        case rel => exact ⟨m, by omega, by go_num, HZ'.out⟩
        case measure => simp [intOf]
      · have HE : Hid ((limbsOf (val xs)).length = m + 1) := (trim_stop h.out.limb (m + 1) hn HZ.out (fun _ => by simpa using h0)).1
        have g0 : (((xs[m]?.getD 0 : Nat) : Int) == 0) = false := beq_eq_false_iff_ne.2 (by omega)
        generalize xs[m]?.getD 0 = x at hcell g0
        clear h0
        go_wp2
        go_ret
        exact ⟨by rw [HE.out]; rfl, rfl⟩

/-- trim, of a row that is known whole. -/
theorem trim_row (g n c : Nat) (zs : List Nat) (w : World) (hb : Blk w g 64 (limbV zs)) (hz : Limb zs) (hn : n = zs.length) (hc : n ≤ c) (hl : (n : Int) ≤ 4000000) :
    Calls Tryd.prog 58 #[.slice (some ⟨g, 0, none⟩) n c] w fun e w' => e = .returned (.slice (some ⟨g, 0, none⟩) (limbsOf (val zs)).length c) ∧ w = w' := by
  subst hn
  exact trim_any _ c zs w ⟨.of_blk hb, hz, hl⟩ hc

set_option maxRecDepth 100000 in
theorem run_append_limbs (w : World) (ty : TypeId) (A : Option Addr) (xs : List Nat) (c : Nat) (hr : LRead w A xs) (hl : (xs.length : Int) ≤ 4000000) :
    ∃ v' w', (Builtin.append_ #[25, 25] ty #[.slice none 0 0, .slice A xs.length c]).run Tryd.prog w = .ok v' w' ∧ LimbsAt w' v' xs ∧ (∀ g, v'.ownBlock = some g → w.heap.size ≤ g) ∧ Only [] w w' := by
  obtain ⟨i0, hi, hz0, hz1, hz2⟩ := u64_parts
  cases xs with
  | nil =>
    cases A with
    | none =>
      refine ⟨.slice none 0 0, w, ?_, limbsAt_nil w, by simp [Value.ownBlock], Only.refl _ _⟩
      simp [Builtin.append_, run_underlying Tryd.underlying25, sizeOf, typeInfo, hi, Builtin.lenOf, Builtin.firstCells]
    | some ad =>
      obtain ⟨v', w', hrun, h1, h2, h3, _⟩ := run_append_own_at (P := Tryd.prog) w 0 25 ty 64 i0 _ 1 8 Tryd.underlying25 hi hz0 hz1 hz2 rfl (by decide) (.slice none 0 0) 0 [] (World.ownsRow_nil _ _ _ _) ad 0 c [] rfl (by simp) (by simp) (by simp [maxLen]) (by omega) (Nat.zero_le _)
      obtain rfl := h3.2 ⟨rfl, rfl⟩
      exact ⟨_, w', hrun, limbsAt_nil w', by simp [Value.ownBlock], Only.of_grown h2 (by simp [Value.ownBlock])⟩
  | cons x xs =>
    obtain ⟨b, o, rfl, _⟩ := hr 0 (by simp)
    obtain ⟨v', w', hrun, h1, h2, h3, h4⟩ := run_append_own_at (P := Tryd.prog) w 0 25 ty 64 i0 _ 1 8 Tryd.underlying25 hi hz0 hz1 hz2 rfl (by decide) (.slice none 0 0) 0 [] (World.ownsRow_nil _ _ _ _) ⟨b, o, none⟩ (x :: xs).length c (limbV (x :: xs)) (by simp [limbV]) (fun j u hu => by
        have hjl : j < (x :: xs).length := by
          have := (List.getElem?_eq_some_iff.1 hu).1
          rwa [limbV_len] at this
        rw [limbV_get _ _ hjl] at hu
        obtain ⟨b', o', e, hc⟩ := hr j hjl
        injection e with e
        injection e with e1 e2 _
        subst e1 e2
        rw [addr_plus, hc, hu]) (by simp [limbV, Value.oneCell']) (by simp only [maxLen]; omega) (by omega) (Nat.zero_le _)
    refine ⟨v', w', hrun, by simpa [LimbsAt] using h1, ?_, Only.of_grown h2 (by simp [Value.ownBlock])⟩
    intro g hg
    rcases h4 with e | e
    · rw [e] at hg; simp [Value.ownBlock] at hg
    · rw [e] at hg
      have : w.heap.size = g := by simpa using hg
      omega

theorem wpList_append_limbs {w : World} {ops : Array Oper} {rest : List Oper} {o : Oper} {a : Act} {Q : Exit → Act → World → Prop} (hgd : o.guard = none) (s x : Operand)
    (ho : o.op = .call { callee := .builtin .append, args := #[s, x], argTypes := #[25, 25] }) (hs : a.eval s = .slice none 0 0) (A : Option Addr) (xs : List Nat) (n c : Nat) (hx : a.eval x = .slice A n c) (hn : n = xs.length) (hr : LRead w A xs) (hl : (xs.length : Int) ≤ 4000000)
    (h : ∀ v' w', LimbsAt w' v' xs → (∀ g, v'.ownBlock = some g → w.heap.size ≤ g) → Only [] w w' → wpList Tryd.prog ops Q rest (a.put o.dst v') w') : wpList Tryd.prog ops Q (o :: rest) a w := by
  subst hn
  refine wpList_plain hgd fun K hK => ?_
  obtain ⟨v', w', hrun, h1, h2, h3⟩ := run_append_limbs w o.type A xs c hr hl
  unfold Oper.wp execOp
  simp only [ho, resolve, invoke, builtin, Sem.run_bind, Sem.run_pure, Result.andThen_ok, List.map_toArray, List.map_cons, List.map_nil, hs, hx, hrun]
  exact hK _ _ (h v' w' h1 h2 h3)

set_option maxRecDepth 100000 in
/-- Of. -/
theorem of_any (A : Option Addr) (c : Nat) (xs : List Nat) (w : World) (h : Hid (Arg w A xs)) (hc : xs.length ≤ c) :
    Calls Tryd.prog 36 #[.slice A xs.length c] w (NPost (val xs) w) := by
  have HA := Lib.hid h.out.trim
  go_enter Tryd.func36, Tryd.ntmps36
  go_wp2_with (first | (go_at_call 58; (with_reducible refine (trim_any A c xs _ h hc).mono ?_); rintro e w' ⟨rfl, rfl⟩) | (at_builtin; refine wpList_append_limbs rfl _ _ rfl rfl A (limbsOf (val xs)) _ c rfl rfl HA.out.read HA.out.len ?_; intro v' w' h1 h2 h3; have H1 := Lib.hid h1; have H2 := Lib.hid h2; have H3 := Lib.hid h3; clear h1 h2 h3))
  go_ret
  exact ⟨v', rfl, ⟨H1.out, H2.out⟩, H3.out⟩

theorem cmp_le {a b : Nat} (h : a < b) : cmpZ a b = -1 := by unfold cmpZ; rw [if_pos h]
theorem cmp_eq {a b : Nat} (h : a = b) : cmpZ a b = 0 := by unfold cmpZ; rw [if_neg (by omega), if_pos h]
theorem cmp_gt {a b : Nat} (h : b < a) : cmpZ a b = 1 := by unfold cmpZ; rw [if_neg (by omega), if_neg (by omega)]

set_option maxHeartbeats 1600000 in
theorem ncmp_any (A B : Option Addr) (c d : Nat) (xs ys : List Nat) (w : World) (hA : Hid (Arg w A xs)) (hB : Hid (Arg w B ys)) (hc : xs.length ≤ c) (hd : ys.length ≤ d) :
    Calls Tryd.prog 39 #[.slice A xs.length c, .slice B ys.length d] w fun e w' => e = .returned (.int .i64 (cmpZ (val xs) (val ys))) ∧ Only [] w w' := by
  have HA := Lib.hid hA.out.trim
  have HB := Lib.hid hB.out.trim
  obtain ⟨X, hX⟩ : ∃ X, limbsOf (val xs) = X := ⟨_, rfl⟩
  obtain ⟨Y, hY⟩ : ∃ Y, limbsOf (val ys) = Y := ⟨_, rfl⟩
  have hvx : val X = val xs := by rw [← hX, val_limbsOf]
  have hvy : val Y = val ys := by rw [← hY, val_limbsOf]
  have HcX : Hid (X.length < Y.length → val xs < val ys) := fun h => cmp_len (by rw [hX, hY]; exact h)
  have HcY : Hid (Y.length < X.length → val ys < val xs) := fun h => cmp_len (by rw [hX, hY]; exact h)
  have HX := Lib.hid hX
  have HY := Lib.hid hY
  rw [hX] at HA
  rw [hY] at HB
  have HVx := Lib.hid hvx
  have HVy := Lib.hid hvy
  clear hX hY hvx hvy
  have hl1 := HA.out.len
  have hl2 := HB.out.len
  go_enter Tryd.func39, Tryd.ntmps39
  go_wp2_with fail
  (with_reducible refine (trim_any A c xs _ hA hc).mono ?_)
  rintro e w' ⟨rfl, rfl⟩
  rw [HX.out]
  go_wp2_with fail
  (with_reducible refine (trim_any B d ys _ hB hd).mono ?_)
  rintro e w' ⟨rfl, rfl⟩
  rw [HY.out]
  by_cases hlt : (X.length : Int) < (Y.length : Int)
  · have HE : Hid (cmpZ (val xs) (val ys) = -1) := cmp_le (HcX.out (by omega))
    have hne : ((X.length : Int) != (Y.length : Int)) = true := by simp; omega
    go_wp2_with fail
    go_ret
    exact ⟨by rw [HE.out]; rfl, Only.refl _ _⟩
  · by_cases hgt : (Y.length : Int) < (X.length : Int)
    · have HE : Hid (cmpZ (val xs) (val ys) = 1) := cmp_gt (HcY.out (by omega))
      have hne : ((X.length : Int) != (Y.length : Int)) = true := by simp; omega
      go_wp2_with fail
      go_ret
      exact ⟨by rw [HE.out]; rfl, Only.refl _ _⟩
    · have hl : X.length = Y.length := by omega
      have HLen := Lib.hid hl
      have hne : ((X.length : Int) != (Y.length : Int)) = false := by simp; omega
      clear hl hlt hgt
      go_wp2_with fail
      go_loopw [5] (fun i wr => ∃ n : Nat, n ≤ X.length ∧ i = .int .i64 ((n : Int) - 1) ∧ Only [] w wr ∧ X.drop n = Y.drop n) (fun i _ => (intOf i + 1).toNat)
      case atStart => exact ⟨X.length, Nat.le_refl _, rfl, Only.refl _ _, by rw [List.drop_length, HLen.out, List.drop_length]⟩
      case round =>
        obtain ⟨n, hn, rfl, ho, hd⟩ := hrel
        have HO := Lib.hid ho
        have HD := Lib.hid hd
        clear ho hd
        cases n with
        | zero =>
          have HE : Hid (cmpZ (val xs) (val ys) = 0) := cmp_eq (by
            have := HD.out
            simp only [List.drop_zero] at this
            rw [← HVx.out, ← HVy.out, this])
          go_wp2_with fail
          go_ret
          exact ⟨by rw [HE.out]; rfl, HO.out⟩
        | succ m =>
          obtain ⟨b, o, rfl, hc1⟩ := HA.out.read m (by omega)
          obtain ⟨b', o', rfl, hc2⟩ := HB.out.read m (by have := HLen.out; omega)
          have c1 := HO.out.cell hc1 (by simp)
          have c2 := HO.out.cell hc2 (by simp)
          have hm1 : (m : Int) < (X.length : Int) := by omega
          have hm2 : (m : Int) < (Y.length : Int) := by have := HLen.out; omega
          rw [show ((m + 1 : Nat) : Int) - 1 = (m : Int) by omega]
          clear hc1 hc2
          have HLt : Hid (X[m]?.getD 0 < Y[m]?.getD 0 → val xs < val ys) := fun h => by
            rw [← HVx.out, ← HVy.out]
            exact cmp_at HA.out.limb HLen.out (by omega) HD.out h
          have HGt : Hid (Y[m]?.getD 0 < X[m]?.getD 0 → val ys < val xs) := fun h => by
            rw [← HVx.out, ← HVy.out]
            exact cmp_at HB.out.limb HLen.out.symm (by have := HLen.out; omega) HD.out.symm h
          have HEq : Hid (X[m]?.getD 0 = Y[m]?.getD 0 → X.drop m = Y.drop m) := fun h => drop_step HLen.out (by omega) HD.out h
          generalize X[m]?.getD 0 = x at c1 HLt HGt HEq
          generalize Y[m]?.getD 0 = y at c2 HLt HGt HEq
          clear HD
          rcases Nat.lt_trichotomy x y with hxy | hxy | hxy
          · have HE : Hid (cmpZ (val xs) (val ys) = -1) := cmp_le (HLt.out hxy)
            have g1 : (x : Int) < (y : Int) := by omega
            clear hxy
            go_wp2_with fail
            go_quiet (fail)
            go_wp2_with fail
            go_ret
            exact ⟨by rw [HE.out]; rfl, HO.out.drewN _⟩
          · have HE := Lib.hid (HEq.out hxy)
            subst hxy
            go_wp2_with fail
            go_quiet (fail)
            go_wp2_with fail
            go_quiet (fail)
            go_wp2_with fail
            go_roundw
            case rel => exact ⟨m, by omega, rfl, by first | exact HO.out.drewN _ | exact (HO.out.drewN _).drewN _, HE.out⟩
            case measure => simp [intOf]
          · have HE : Hid (cmpZ (val xs) (val ys) = 1) := cmp_gt (HGt.out hxy)
            have g1 : (y : Int) < (x : Int) := by omega
            clear hxy
            go_wp2_with fail
            go_quiet (fail)
            go_wp2_with fail
            go_quiet (fail)
            go_wp2_with fail
            go_ret
            exact ⟨by rw [HE.out]; rfl, by first | exact HO.out.drewN _ | exact (HO.out.drewN _).drewN _⟩
end Go.Proofs.YtphjcphcgnjogaaDoor
