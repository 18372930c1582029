/-
  The reference's numbers: Sub, Low.
-/
import Derived.Test.YtcknigodcjjahaaDoorRefE
import Derived.Test.YtcknigodcjjahaaDoorGNV
namespace Go.Proofs.YtcknigodcjjahaaDoor
open Go.RowKit

set_option maxRecDepth 100000 in
theorem run_append_copy (T : TypeId) (hT : Tryd.prog.underlying T = some (.slice 59)) (w : World) (ty : TypeId) (A : Option Addr) (xs : List Nat) (c : Nat) (hr : LRead w A xs) (hl : (xs.length : Int) ≤ 16000000) :
    ∃ v' w', (Builtin.append_ #[T, T] ty #[.slice none 0 0, .slice A xs.length c]).run Tryd.prog w = .ok v' w' ∧ LimbsAt w' v' xs ∧ (∀ g, v'.ownBlock = some g → w.heap.size ≤ g) ∧ Only [] w w' := by
  obtain ⟨i0, hi, hz0, hz1, hz2⟩ := u64_parts
  cases xs with
  | nil =>
    cases A with
    | none =>
      refine ⟨.slice none 0 0, w, ?_, limbsAt_nil w, by simp [Value.ownBlock], Only.refl _ _⟩
      simp [Builtin.append_, run_underlying hT, sizeOf, typeInfo, hi, Builtin.lenOf, Builtin.firstCells]
    | some ad =>
      obtain ⟨v', w', hrun, h1, h2, h3, _⟩ := run_append_own_at (P := Tryd.prog) w 0 T ty 59 i0 _ 1 8 hT hi hz0 hz1 hz2 rfl (by decide) (.slice none 0 0) 0 [] (World.ownsRow_nil _ _ _ _) ad 0 c [] rfl (by simp) (by simp) (by simp [maxLen]) (by omega) (Nat.zero_le _)
      obtain rfl := h3.2 ⟨rfl, rfl⟩
      exact ⟨_, w', hrun, limbsAt_nil w', by simp [Value.ownBlock], Only.of_grown h2 (by simp [Value.ownBlock])⟩
  | cons x xs =>
    obtain ⟨b, o, rfl, _⟩ := hr 0 (by simp)
    obtain ⟨v', w', hrun, h1, h2, h3, h4⟩ := run_append_own_at (P := Tryd.prog) w 0 T ty 59 i0 _ 1 8 hT hi hz0 hz1 hz2 rfl (by decide) (.slice none 0 0) 0 [] (World.ownsRow_nil _ _ _ _) ⟨b, o, none⟩ (x :: xs).length c (limbV (x :: xs)) (by simp [limbV]) (fun j u hu => by
        have hjl : j < (x :: xs).length := by
          have := (List.getElem?_eq_some_iff.1 hu).1
          rwa [limbV_len] at this
        rw [limbV_get _ _ hjl] at hu
        obtain ⟨b', o', e, hc⟩ := hr j hjl
        injection e with e
        injection e with e1 e2 _
        subst e1 e2
        rw [addr_plus, hc, hu]) (by simp [limbV, Value.oneCell']) (by simp only [maxLen]; omega) (by omega) (Nat.zero_le _)
    refine ⟨v', w', hrun, by simpa [LimbsAt] using h1, ?_, Only.of_grown h2 (by simp [Value.ownBlock])⟩
    intro g hg
    rcases h4 with e | e
    · rw [e] at hg; simp [Value.ownBlock] at hg
    · rw [e] at hg
      have : w.heap.size = g := by simpa using hg
      omega
theorem wpList_append_copy {w : World} {ops : Array Oper} {rest : List Oper} {o : Oper} {a : Act} {Q : Exit → Act → World → Prop} (T : TypeId) (hT : Tryd.prog.underlying T = some (.slice 59)) (hgd : o.guard = none) (s x : Operand)
    (ho : o.op = .call { callee := .builtin .append, args := #[s, x], argTypes := #[T, T] }) (hs : a.eval s = .slice none 0 0) (A : Option Addr) (xs : List Nat) (n c : Nat) (hx : a.eval x = .slice A n c) (hn : n = xs.length) (hr : LRead w A xs) (hl : (n : Int) ≤ 16000000)
    (h : ∀ A' c' w', LimbsAt w' (.slice A' n c') xs → (∀ g, (Value.slice A' n c').ownBlock = some g → w.heap.size ≤ g) → Only [] w w' → wpList Tryd.prog ops Q rest (a.put o.dst (.slice A' n c')) w') : wpList Tryd.prog ops Q (o :: rest) a w := by
  subst hn
  refine wpList_plain hgd fun K hK => ?_
  obtain ⟨v', w', hrun, h1, h2, h3⟩ := run_append_copy T hT w o.type A xs c hr hl
  obtain ⟨A', c', rfl, _⟩ := h1.shape
  unfold Oper.wp execOp
  simp only [ho, resolve, invoke, builtin, Sem.run_bind, Sem.run_pure, Result.andThen_ok, List.map_toArray, List.map_cons, List.map_nil, hs, hx, hrun]
  exact hK _ _ (h A' c' w' h1 h2 h3)

/-- Where a difference of the reference's stands. -/
structure WCar (w wr : World) (g : Nat) (tl : List Value) (xs ys zs : List Nat) (k cy : Nat) : Prop where
  blk : Blk wr g 59 (limbV zs ++ tl)
  limb : R.Limb zs
  len : zs.length = xs.length
  high : ∀ j, k ≤ j → zs[j]?.getD 0 = xs[j]?.getD 0
  cyl : cy ≤ 1
  val_ : R.val (zs.take k) + R.val (ys.take k) = R.val (xs.take k) + R.BB ^ k * cy
  only : Only [g] w wr
theorem WCar.step {w wr wq : World} {g : Nat} {tl : List Value} {xs ys zs : List Nat} {k cy d cy' : Nat} (h : WCar w wr g tl xs ys zs k cy) (hk : k < xs.length) (hd : d < R.BB) (hc : cy' ≤ 1) (law : d + (cy + ys[k]?.getD 0) = xs[k]?.getD 0 + R.BB * cy')
    (hb : Blk wq g 59 ((limbV zs ++ tl).set k (.int .u64 (d : Int)))) (ho : Only [g] wr wq) : WCar w wq g tl xs ys (zs.set k d) (k + 1) cy' := by
  have hl := h.len
  have h3 := h.val_
  refine ⟨?_, h.limb.set _ _ hd, by rw [List.length_set, hl], fun j hj => by rw [set_get_ne (by omega)]; exact h.high j (by omega), hc, ?_, h.only.trans ho (by simp)⟩
  · rw [← limbV_set, ← List.set_append_left _ _ (by rw [limbV_len]; omega)]
    exact hb
  · have h1 := congrArg (fun t => R.BB ^ k * t) law
    simp only [Nat.mul_add] at h1
    rw [R.val_take_succ _ k (by rw [List.length_set]; omega), set_get_eq (by omega), List.take_set_of_le (Nat.le_refl k), R.val_take_next ys, R.val_take_succ xs k hk, Nat.pow_succ, Nat.mul_assoc]
    omega
set_option maxHeartbeats 3200000 in
set_option maxRecDepth 100000 in
theorem rsub_any (A B : Option Addr) (n m c d : Nat) (xs ys : List Nat) (w : World) (hA : Hid (LRead w A xs)) (hB : Hid (LRead w B ys)) (hx : Hid (R.Limb xs)) (hy : Hid (R.Limb ys)) (hn : Hid (n = xs.length)) (hm : Hid (m = ys.length)) (hl1 : (n : Int) ≤ 7000000) (hl2 : (m : Int) ≤ n) (hle : Hid (R.val ys ≤ R.val xs)) :
    Calls Tryd.prog 23 #[.slice A n c, .slice B m d] w (RPost (R.val xs - R.val ys) w) := by
  by_cases h0 : n = 0
  · subst h0
    have hv : Hid (R.val xs - R.val ys = 0) := by
      have : xs = [] := List.eq_nil_of_length_eq_zero hn.out.symm
      show _ = _
      rw [this]
      simp [R.val]
    have HXn : Hid (xs = []) := List.eq_nil_of_length_eq_zero hn.out.symm
    go_enter Tryd.func23, Tryd.ntmps23
    go_wp2_with (at_builtin; refine wpList_append_copy 25 Tryd.underlying25 rfl _ _ rfl rfl A xs 0 c rfl hn.out hA.out (by omega) ?_; intro A' c' w2 h1 h2 h3; have HA2 := Lib.hid h1; have HF2 := Lib.hid h2; have HO2 := Lib.hid h3; clear h1 h2 h3)
    go_wp2_with fail
    go_loopw [6, 7] (fun cv i wr => cv = .int .u64 0 ∧ i = .int .i64 0 ∧ wr = w2) (fun _ _ _ => 0)
    case atStart => exact ⟨rfl, rfl, rfl⟩
    obtain ⟨rfl, rfl, rfl⟩ := hrel
    go_wp2_with fail
    have htr := rtrim_any A' 0 c' [] wr LRead.nil R.limb_nil (Lib.hid rfl) (Nat.zero_le _) (by omega)
    rw [show R.val [] = 0 from rfl, R.limbsOf_zero] at htr
    have HTr := Lib.hid htr
    clear htr
    refine HTr.out.mono ?_
    rintro e w' ⟨rfl, rfl⟩
    go_wp2_with fail
    go_ret
    exact ⟨A', 0, 0, rfl, by rw [hv.out]; exact ⟨A', 0, by rw [R.limbsOf_zero]; rfl, by rw [R.limbsOf_zero]; exact LRead.nil, by rw [R.limbsOf_zero]; simp⟩, fun a ha => HF2.out a.block (by rw [ha]; rfl), HO2.out⟩
  · go_enter Tryd.func23, Tryd.ntmps23
    go_wp2_with (at_builtin; refine wpList_append_copy 25 Tryd.underlying25 rfl _ _ rfl rfl A xs n c rfl hn.out hA.out (by omega) ?_; intro A' c' w2 h1 h2 h3; have HA2 := Lib.hid h1; have HF2 := Lib.hid h2; have HO2 := Lib.hid h3; clear h1 h2 h3)
    obtain ⟨g, rfl⟩ : ∃ g, A' = some ⟨g, 0, none⟩ := by
      rcases HA2.out.2 with ⟨hv, hz⟩ | ⟨gp, cap, cur, hv, _⟩
      · have := hn.out
        omega
      · injection hv with h1 _ _
        exact ⟨gp, h1⟩
    obtain ⟨tl, hbk, htc, hcm, -⟩ := HA2.out.row
    have HTc := Lib.hid htc
    have HCm := Lib.hid hcm
    have HG : Hid (w.heap.size ≤ g) := HF2.out g rfl
    have HStart : Hid (WCar w2 w2 g tl xs ys xs 0 0) := ⟨hbk, hx.out, rfl, fun _ _ => rfl, by omega, by simp [R.val], Only.refl _ _⟩
    clear hbk htc hcm HF2 HA2 h0
    go_wp2_with fail
    go_loopw [6, 7] (fun cv i wr => ∃ (k cy : Nat) (zs : List Nat), k ≤ n ∧ cv = .int .u64 (cy : Int) ∧ i = .int .i64 (k : Int) ∧ WCar w2 wr g tl xs ys zs k cy) (fun _ i _ => n - (intOf i).toNat)
    case atStart => exact ⟨0, 0, xs, Nat.zero_le _, rfl, rfl, HStart.out⟩
    case round =>
      obtain ⟨k, cy, zs, hk, rfl, rfl, hR⟩ := hrel
      have HR := Lib.hid hR
      have HCy := Lib.hid hR.cyl
      clear hR HStart
      by_cases hlt : k < n
      · have hki : (k : Int) < (n : Int) := by omega
        have c1 := HR.out.blk.cell k
        rw [List.getElem?_append_left (by rw [limbV_len, HR.out.len]; have := hn.out; omega), limbV_get _ _ (by rw [HR.out.len]; have := hn.out; omega), HR.out.high k (Nat.le_refl _)] at c1
        have f1 := HR.out.blk.frozen k
        have HX := Lib.hid (hx.out.get k)
        have HY := Lib.hid (hy.out.get k)
        by_cases h2 : k < m
        · obtain ⟨b', o', rfl, e2⟩ := hB.out k (by have := hm.out; omega)
          have hbg : b' ≠ g := by
            have := World.block_lt_of_cell? w _ e2
            have := HG.out
            simp only at *
            omega
          have q0 := HR.out.only.cell (HO2.out.cell e2 (by simp)) (by simpa using hbg)
          have h2i : (k : Int) < (m : Int) := by omega
          obtain ⟨x, hgx⟩ : ∃ x, xs[k]?.getD 0 = x := ⟨_, rfl⟩
          obtain ⟨y, hgy⟩ : ∃ y, ys[k]?.getD 0 = y := ⟨_, rfl⟩
          obtain ⟨v, hv⟩ : ∃ v, cy + y = v := ⟨_, rfl⟩
          have HVl : Hid (v ≤ R.BB) := by have := HCy.out; have := HY.out; rw [hgy] at this; show _ ≤ _; omega
          have HLaw : Hid (cy + ys[k]?.getD 0 = v ∧ xs[k]?.getD 0 = x) := ⟨by rw [hgy]; exact hv, hgx⟩
          rw [hgx] at c1 HX
          rw [hgy] at q0
          have hw1 : IntKind.u64.wrap ((cy : Int) + (y : Int)) = (v : Int) := u64_add hv (by have := HVl.out; rw [R.BB_val] at this; rw [BB_val]; omega)
          clear hlt h2 hgx hgy hv e2 hbg
          by_cases hb : x < v
          · have hbi : (x : Int) < (v : Int) := by omega
            obtain ⟨x1, hx1⟩ : ∃ x1, x + 4294967296 = x1 := ⟨_, rfl⟩
            obtain ⟨dd, hdd⟩ : ∃ dd, x1 - v = dd := ⟨_, rfl⟩
            have hvl := HVl.out
            rw [R.BB_val] at hvl
            have hw2 : IntKind.u64.wrap ((x : Int) + 4294967296) = (x1 : Int) := by
              rw [show (x : Int) + 4294967296 = (x1 : Int) by omega]
              exact u64_wrap (by have := HX.out; rw [R.BB_val] at this; rw [BB_val]; omega)
            have hw3 : IntKind.u64.wrap ((x1 : Int) - (v : Int)) = (dd : Int) := by
              rw [show (x1 : Int) - (v : Int) = (dd : Int) by omega]
              exact u64_wrap (by have := HX.out; rw [R.BB_val] at this; rw [BB_val]; omega)
            have hB1 := HR.out.blk.set_ k (.int .u64 (x1 : Int))
            have c3 := hB1.cell k
            rw [List.getElem?_set_self (by rw [List.length_append, limbV_len, HR.out.len]; have := hn.out; omega)] at c3
            have f3 := hB1.frozen k
            have hB2 := hB1.set_ k (.int .u64 (dd : Int))
            rw [List.set_set] at hB2
            have HS := Lib.hid (HR.out.step (d := dd) (cy' := 1) (by have := hn.out; omega) (by have := HX.out; rw [R.BB_val] at this ⊢; omega) (by omega) (by rw [HLaw.out.1, HLaw.out.2, R.BB_val]; omega) hB2 (((Only.refl [g] wr).setCell (.inl (by simp)) _).setCell (.inl (by simp)) _))
            clear hB1 hB2 hb hx1 hdd hvl
            go_wp2_with fail
            go_roundw
            case rel => exact ⟨k + 1, 1, _, by omega, rfl, by go_num, HS.out⟩
            case measure => simp [intOf]; omega
          · have hbi : ¬ (x : Int) < (v : Int) := by omega
            obtain ⟨dd, hdd⟩ : ∃ dd, x - v = dd := ⟨_, rfl⟩
            have hw3 : IntKind.u64.wrap ((x : Int) - (v : Int)) = (dd : Int) := by
              rw [show (x : Int) - (v : Int) = (dd : Int) by omega]
              exact u64_wrap (by have := HX.out; rw [R.BB_val] at this; rw [BB_val]; omega)
            have hB2 := HR.out.blk.set_ k (.int .u64 (dd : Int))
            have HS := Lib.hid (HR.out.step (d := dd) (cy' := 0) (by have := hn.out; omega) (by have := HX.out; omega) (by omega) (by rw [HLaw.out.1, HLaw.out.2]; omega) hB2 ((Only.refl [g] wr).setCell (.inl (by simp)) _))
            clear hB2 hb hdd
            go_wp2_with fail
            go_roundw
            case rel => exact ⟨k + 1, 0, _, by omega, rfl, by go_num, HS.out⟩
            case measure => simp [intOf]; omega
        · have h2i : ¬ (k : Int) < (m : Int) := by omega
          have hy0 : ys[k]?.getD 0 = 0 := by rw [List.getElem?_eq_none (by have := hm.out; omega)]; rfl
          obtain ⟨x, hgx⟩ : ∃ x, xs[k]?.getD 0 = x := ⟨_, rfl⟩
          have HVl : Hid (cy ≤ R.BB) := by have := HCy.out; have := R.BB_pos; show _ ≤ _; omega
          have HLaw : Hid (cy + ys[k]?.getD 0 = cy ∧ xs[k]?.getD 0 = x) := ⟨by rw [hy0]; rfl, hgx⟩
          rw [hgx] at c1 HX
          clear hlt h2 hgx hy0
          by_cases hb : x < cy
          · have hbi : (x : Int) < (cy : Int) := by omega
            obtain ⟨x1, hx1⟩ : ∃ x1, x + 4294967296 = x1 := ⟨_, rfl⟩
            obtain ⟨dd, hdd⟩ : ∃ dd, x1 - cy = dd := ⟨_, rfl⟩
            have hvl := HVl.out
            rw [R.BB_val] at hvl
            have hw2 : IntKind.u64.wrap ((x : Int) + 4294967296) = (x1 : Int) := by
              rw [show (x : Int) + 4294967296 = (x1 : Int) by omega]
              exact u64_wrap (by have := HX.out; rw [R.BB_val] at this; rw [BB_val]; omega)
            have hw3 : IntKind.u64.wrap ((x1 : Int) - (cy : Int)) = (dd : Int) := by
              rw [show (x1 : Int) - (cy : Int) = (dd : Int) by omega]
              exact u64_wrap (by have := HX.out; rw [R.BB_val] at this; rw [BB_val]; omega)
            have hB1 := HR.out.blk.set_ k (.int .u64 (x1 : Int))
            have c3 := hB1.cell k
            rw [List.getElem?_set_self (by rw [List.length_append, limbV_len, HR.out.len]; have := hn.out; omega)] at c3
            have f3 := hB1.frozen k
            have hB2 := hB1.set_ k (.int .u64 (dd : Int))
            rw [List.set_set] at hB2
            have HS := Lib.hid (HR.out.step (d := dd) (cy' := 1) (by have := hn.out; omega) (by have := HX.out; rw [R.BB_val] at this ⊢; omega) (by omega) (by rw [HLaw.out.1, HLaw.out.2, R.BB_val]; omega) hB2 (((Only.refl [g] wr).setCell (.inl (by simp)) _).setCell (.inl (by simp)) _))
            clear hB1 hB2 hb hx1 hdd hvl
            go_wp2_with fail
            go_roundw
            case rel => exact ⟨k + 1, 1, _, by omega, rfl, by go_num, HS.out⟩
            case measure => simp [intOf]; omega
          · have hbi : ¬ (x : Int) < (cy : Int) := by omega
            obtain ⟨dd, hdd⟩ : ∃ dd, x - cy = dd := ⟨_, rfl⟩
            have hw3 : IntKind.u64.wrap ((x : Int) - (cy : Int)) = (dd : Int) := by
              rw [show (x : Int) - (cy : Int) = (dd : Int) by omega]
              exact u64_wrap (by have := HX.out; rw [R.BB_val] at this; rw [BB_val]; omega)
            have hB2 := HR.out.blk.set_ k (.int .u64 (dd : Int))
            have HS := Lib.hid (HR.out.step (d := dd) (cy' := 0) (by have := hn.out; omega) (by have := HX.out; omega) (by omega) (by rw [HLaw.out.1, HLaw.out.2]; omega) hB2 ((Only.refl [g] wr).setCell (.inl (by simp)) _))
            clear hB2 hb hdd
            go_wp2_with fail
            go_roundw
            case rel => exact ⟨k + 1, 0, _, by omega, rfl, by go_num, HS.out⟩
            case measure => simp [intOf]; omega
      · obtain rfl : k = n := by omega
        have hnl : ¬ (k : Int) < (k : Int) := by omega
        have HLen : Hid (k = zs.length) := by rw [HR.out.len]; exact hn.out
        have HV : Hid (R.val zs = R.val xs - R.val ys) := by
          have h1 := HR.out.val_
          rw [List.take_of_length_le (Nat.le_of_eq HLen.out.symm), List.take_of_length_le (by have := hm.out; omega), List.take_of_length_le (Nat.le_of_eq hn.out.symm)] at h1
          have h2 := R.val_lt HR.out.limb
          rw [← HLen.out] at h2
          have h3 := hle.out
          have h4 := HCy.out
          show _ = _
          rcases Nat.lt_or_ge 0 cy with h5 | h5
          · obtain rfl : cy = 1 := by omega
            omega
          · obtain rfl : cy = 0 := by omega
            omega
        have HRd : Hid (LRead wr (some ⟨g, 0, none⟩) zs) := LRead.of_tl HR.out.blk
        have htr := rtrim_any (some ⟨g, 0, none⟩) k c' zs wr HRd (Lib.hid HR.out.limb) HLen (by have := HTc.out; have := hn.out; omega) (by omega)
        rw [HV.out] at htr
        have HTr := Lib.hid htr
        clear hlt htr
        go_wp2_with fail
        refine HTr.out.mono ?_
        rintro e w' ⟨rfl, rfl⟩
        go_wp2_with fail
        go_ret
        have h2 := RV.of_row HRd.out HR.out.limb
        rw [HV.out] at h2
        exact ⟨_, _, _, rfl, ⟨_, _, rfl, h2, Nat.le_refl _⟩, fun a ha => by injection ha with ha; subst ha; exact HG.out, HO2.out.trans HR.out.only (fun x hx => .inr (by simp at hx; rw [hx]; exact HG.out))⟩
theorem rsub_v {w : World} {a b : Value} {m n : Nat} (ha : Hid (RV w a m)) (hb : Hid (RV w b n)) (hfa : Hid (Few m)) (hle : Hid (n ≤ m)) : Calls Tryd.prog 23 #[a, b] w (RPost (m - n) w) := by
  obtain ⟨A, c, rfl, h1, h2⟩ := ha.out
  obtain ⟨B, d, rfl, k1, k2⟩ := hb.out
  have := hfa.out.digits
  have := R.limbsOf_len_mono hle.out
  have h := rsub_any A B _ _ c d (R.limbsOf m) (R.limbsOf n) w (Lib.hid h1) (Lib.hid k1) (Lib.hid (R.limb_limbsOf m)) (Lib.hid (R.limb_limbsOf n)) (Lib.hid rfl) (Lib.hid rfl) (by omega) (by omega) (by show _ ≤ _; rw [R.val_limbsOf, R.val_limbsOf]; exact hle.out)
  rw [R.val_limbsOf, R.val_limbsOf] at h
  exact h
end Go.Proofs.YtcknigodcjjahaaDoor
