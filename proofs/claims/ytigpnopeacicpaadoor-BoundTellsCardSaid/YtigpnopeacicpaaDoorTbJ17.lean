/-
  Joined texts.
-/
import Derived.Test.YtigpnopeacicpaaDoorTbJ16
import Derived.StillTailTactics
import Derived.Test.YtigpnopeacicpaaDoorTbJ12
import Derived.Maps.RangeWalk
import Derived.Test.YtigpnopeacicpaaDoorTbJ14
/-
  bound's sets: the walks of with and join.
-/
namespace Go.Proofs.YtigpnopeacicpaaDoor
set_option linter.unusedSimpArgs false
open Go.RowKit

theorem wpList_copy_set {w : World} {ops : Array Oper} {rest : List Oper} {o : Oper} {a : Act} {Q : Exit → Act → World → Prop} (hgd : o.guard = none) (s x : Operand)
    (ho : o.op = .call { callee := .builtin .copy, args := #[s, x], argTypes := #[143, 143] }) (g : Nat) (zs : List Nat) (n d : Nat) (hs : a.eval s = .slice (some ⟨g, 0, none⟩) n d) (hn : n = zs.length) (hb : Blk w g 90 (limbV zs)) (A : Option Addr) (xs : List Nat) (m c : Nat) (hx : a.eval x = .slice A m c) (hm : m = xs.length) (hr : LRead w A xs) (hl : xs.length ≤ zs.length)
    (h : ∀ w', Blk w' g 90 (limbV (xs ++ zs.drop xs.length)) → Only [g] w w' → w'.heap.size = w.heap.size → wpList Tryd.prog ops Q rest (a.put o.dst (goInt xs.length)) w') : wpList Tryd.prog ops Q (o :: rest) a w := by
  subst hn hm
  refine wpList_plain hgd fun K hK => ?_
  obtain ⟨w', hrun, h1, h2, h3⟩ := copy_set w g zs A xs c d o.type hb hr hl
  unfold Oper.wp execOp
  simp only [ho, resolve, invoke, builtin, Sem.run_bind, Sem.run_pure, Result.andThen_ok, List.map_toArray, List.map_cons, List.map_nil, hs, hx, hrun]
  exact hK _ _ (h w' h1 h2 h3)
/-- A new set. -/
def SPost (zs : List Nat) (w : World) (e : Ending) (w' : World) : Prop := ∃ u, e = .returned u ∧ (∃ g c, u = .slice (some ⟨g, 0, none⟩) zs.length c ∧ Blk w' g 90 (limbV zs) ∧ w.heap.size ≤ g) ∧ Only [] w w'
theorem SPost.mk {zs : List Nat} {w w' : World} {g n c : Nat} (hb : Blk w' g 90 (limbV zs)) (hn : zs.length = n) (hg : w.heap.size ≤ g) (ho : Only [] w w') : SPost zs w (.returned (.slice (some ⟨g, 0, none⟩) n c)) w' := ⟨_, rfl, ⟨g, c, by rw [hn], hb, hg⟩, ho⟩
theorem or_nat (a b : Nat) (ha : a < 2 ^ 64) (hb : b < 2 ^ 64) : bits .or .u64 (a : Int) (b : Int) = ((a ||| b : Nat) : Int) := bits_or_u64_nat a b ha hb
theorem get_lt {xs : List Nat} (h : ∀ x ∈ xs, x < 2 ^ 64) (k : Nat) : xs[k]?.getD 0 < 2 ^ 64 := by
  by_cases hk : k < xs.length
  · rw [List.getElem?_eq_getElem hk]
    exact h _ (List.getElem_mem hk)
  · rw [List.getElem?_eq_none (by omega)]
    decide
/-- The first k words joined. -/
def jn (xs ys : List Nat) (k : Nat) : List Nat := (List.range xs.length).map fun i => if i < k then (xs[i]?.getD 0) ||| (ys[i]?.getD 0) else xs[i]?.getD 0
theorem jn_len (xs ys : List Nat) (k : Nat) : (jn xs ys k).length = xs.length := by simp [jn]
theorem jn_zero (xs ys : List Nat) : jn xs ys 0 = xs := by
  apply List.ext_getElem
  · simp [jn]
  · intro i h1 h2
    simp [jn, h2]
theorem jn_get (xs ys : List Nat) (k : Nat) : (jn xs ys k)[k]?.getD 0 = xs[k]?.getD 0 := by
  by_cases hk : k < xs.length <;> simp [jn, hk]
theorem jn_set (xs ys : List Nat) (k : Nat) : (jn xs ys k).set k ((xs[k]?.getD 0) ||| (ys[k]?.getD 0)) = jn xs ys (k + 1) := by
  apply List.ext_getElem
  · simp [jn]
  · intro i h1 h2
    simp only [jn, List.getElem_set, List.getElem_map, List.getElem_range]
    by_cases e : k = i
    · subst e
      rw [if_pos rfl, if_pos (by omega)]
    · rw [if_neg e]
      by_cases h3 : i < k
      · rw [if_pos h3, if_pos (by omega)]
      · rw [if_neg h3, if_neg (by omega)]
theorem jn_done (xs ys : List Nat) : jn xs ys ys.length = joinL xs ys := by
  unfold jn joinL
  apply List.map_congr_left
  intro i hi
  rw [List.mem_range] at hi
  by_cases h : i < ys.length
  · rw [if_pos h]
  · rw [if_neg h, List.getElem?_eq_none (l := ys) (by omega)]
    simp
set_option maxHeartbeats 1600000 in
set_option maxRecDepth 100000 in
theorem with_any (A : Option Addr) (c : Nat) (xs : List Nat) (v : Nat) (w : World) (hA : Hid (LRead w A xs)) (hx : Hid (∀ x ∈ xs, x < 2 ^ 64)) (hl : xs.length ≤ 1000) (hv : v < 10000) :
    Calls Tryd.prog 91 #[.slice A xs.length c, .int .i64 (v : Int)] w (SPost (withL xs v) w) := by
  obtain ⟨q, hq⟩ : ∃ q, v / 64 = q := ⟨_, rfl⟩
  obtain ⟨r, hr⟩ : ∃ r, v % 64 = r := ⟨_, rfl⟩
  obtain ⟨m, hm⟩ : ∃ m, max xs.length (q + 1) = m := ⟨_, rfl⟩
  have h1 : (v : Int).tdiv 64 = (q : Int) := by rw [Int.tdiv_eq_ediv_of_nonneg (by omega)]; omega
  have h1' : (v : Int) / 64 = (q : Int) := by omega
  have h2 : (v : Int).tmod 64 = (r : Int) := by rw [Int.tmod_eq_emod_of_nonneg (by omega)]; omega
  have h2' : (v : Int) % 64 = (r : Int) := by omega
  have h3 : IntKind.i64.wrap ((q : Int) + 1) = (q : Int) + 1 := wrap_i64 (by omega)
  have h4 : max (xs.length : Int) ((q : Int) + 1) = (m : Int) := by omega
  obtain ⟨w1, hmk, hb1, ho1, hs1⟩ := make_set w m (m : Int) rfl (by omega)
  have HB1 := Lib.hid hb1
  have HO1 := Lib.hid ho1
  have hqm : q < m := by omega
  have hlm : xs.length ≤ m := by omega
  have HE : Hid (withL xs v = (xs ++ (List.replicate m 0).drop xs.length).set q ((xs[q]?.getD 0) ||| 2 ^ r)) := by
    show _ = _
    unfold withL
    rw [hq, hr, hm]
  have hr64 : r < 64 := by omega
  clear hb1 ho1 hq hr hm
  have hg : ∃ g, w.heap.size = g := ⟨_, rfl⟩
  obtain ⟨g, hg⟩ := hg
  rw [hg] at hmk HB1 hs1
  have HG : Hid (w.heap.size ≤ g) := by show _ ≤ _; omega
  clear hg hs1
  go_enter Tryd.func91, Tryd.ntmps91
  go_wp2_with (with_reducible refine wpList_copy_set rfl _ _ rfl g (List.replicate m 0) _ _ rfl (by simp) HB1.out A xs _ _ rfl rfl (hA.out.only HO1.out) (by simpa using hlm) ?_; intro w2 hb2 ho2 hs2; have HB2 := Lib.hid hb2; have HO2 := Lib.hid ho2; clear hb2 ho2 hs2)
  have hcd := HB2.out.cell q
  have HPad : Hid ((xs ++ (List.replicate m 0).drop xs.length).length = m) := by show _ = _; simp; omega
  have HLt := Lib.hid (get_lt hx.out q)
  rw [limbV_get _ _ (by rw [HPad.out]; exact hqm), pad_get] at hcd
  have HB3 := Lib.hid (HB2.out.set_ q (.int .u64 ((xs[q]?.getD 0 ||| 2 ^ r : Nat) : Int)))
  rw [limbV_set, ← HE.out] at HB3
  have HLen : Hid ((withL xs v).length = m) := by show _ = _; rw [HE.out, List.length_set, HPad.out]
  have f3 := HB2.out.frozen q
  generalize xs[q]?.getD 0 = x at hcd HLt HB3
  have hpw : (2 : Nat) ^ r < 2 ^ 64 := Nat.pow_lt_pow_right (by omega) hr64
  have hor := or_nat x (2 ^ r) HLt.out hpw
  generalize (x ||| 2 ^ r) = y at hor HB3
  have hsh2 : (2 : Int) ^ r = ((2 ^ r : Nat) : Int) := by push_cast; rfl
  generalize 2 ^ r = pw at hpw hor hsh2
  have hsh : IntKind.u64.wrap (pw : Int) = (pw : Int) := by rw [IntKind.wrap_u64]; omega
  have hq5 : IntKind.i64.wrap (q : Int) = (q : Int) := wrap_i64 (by omega)
  have hqm2 : (q : Int) < (m : Int) := by omega
  have hr0 : ¬ (r : Int) < 0 := by omega
  go_upto_region 3 with fail
  go_still_tail 9, (by kernel_rfl)
  change wpList _ _ _ _ _ w2.drew
  have HB4 := Lib.hid (HB2.out.drew)
  have HO4 : Hid (Only [g] w1 w2.drew) := HO2.out.drew
  have HB5 : Hid (Blk (w2.drew.setCell ⟨g, q, none⟩ (.int .u64 (y : Int))) g 90 (limbV (withL xs v))) := HB3.out
  have f4 := HB4.out.frozen q
  have c4 : w2.drew.cell? ⟨g, q, none⟩ = some (.int .u64 (x : Int)) := hcd
  generalize w2.drew = w3 at *
  go_wp2_with fail
  go_ret
  have HL := HLen.out
  exact SPost.mk HB5.out HL HG.out (((HO1.out.mono (by simp)).trans HO4.out (fun y hy => .inr (by
    have e : y = g := by simpa using hy
    have := HG.out
    omega))).setCell (.inr (by exact HG.out)) _)
set_option maxHeartbeats 1600000 in
set_option maxRecDepth 100000 in
theorem join_le (A B : Option Addr) (c d : Nat) (xs ys : List Nat) (w : World) (hA : Hid (LRead w A xs)) (hB : Hid (LRead w B ys)) (hx : Hid (∀ x ∈ xs, x < 2 ^ 64)) (hy : Hid (∀ x ∈ ys, x < 2 ^ 64)) (hl : xs.length ≤ 1000) (hle : ys.length ≤ xs.length) (sw : Bool) :
    Calls Tryd.prog 92 #[if sw && decide (ys.length < xs.length) then .slice B ys.length d else .slice A xs.length c, if sw && decide (ys.length < xs.length) then .slice A xs.length c else .slice B ys.length d] w (SPost (joinL xs ys) w) := by
  obtain ⟨w1, hmk, hb1, ho1, hs1⟩ := make_set w xs.length (xs.length : Int) rfl (by omega)
  have HB1 := Lib.hid hb1
  have HO1 := Lib.hid ho1
  obtain ⟨g, hg⟩ : ∃ g, w.heap.size = g := ⟨_, rfl⟩
  rw [hg] at hmk HB1 hs1
  have HG : Hid (w.heap.size ≤ g) := by show _ ≤ _; omega
  clear hg hs1 hb1 ho1
  by_cases hsw : (sw && decide (ys.length < xs.length)) = true
  · rw [if_pos hsw, if_pos hsw]
    have hlt : (ys.length : Int) < (xs.length : Int) := by simp at hsw; omega
    clear hsw
    go_enter Tryd.func92, Tryd.ntmps92
    go_wp2_with (with_reducible refine wpList_copy_set rfl _ _ rfl g (List.replicate xs.length 0) _ _ rfl (by simp) HB1.out A xs _ _ rfl rfl (hA.out.only HO1.out) (by simp) ?_; intro w2 hb2 ho2 hs2; have HB2 := Lib.hid hb2; have HO2 := Lib.hid ho2; clear hb2 ho2 hs2)
    have HB3 : Hid (Blk w2 g 90 (limbV (jn xs ys 0))) := by
      have h := HB2.out
      rw [jn_zero]
      have e : xs ++ (List.replicate xs.length 0).drop xs.length = xs := by simp
      rw [e] at h
      exact h
    have HW2 : Hid (Only [] w w2) := (HO1.out.mono (by simp)).trans HO2.out (fun y hy => .inr (by
      have e : y = g := by simpa using hy
      have := HG.out
      omega))
    clear HB2 HO2 HB1 HO1 hmk
    go_wp2_with fail
    go_loopw [23] (fun i wr => ∃ k : Nat, k ≤ ys.length ∧ i = .int .i64 (k : Int) ∧ Blk wr g 90 (limbV (jn xs ys k)) ∧ Only [] w wr) (fun i _ => ys.length - (intOf i).toNat)
    case atStart => exact ⟨0, Nat.zero_le _, rfl, HB3.out, HW2.out⟩
    case round =>
      obtain ⟨k, hk, rfl, hBk, ho⟩ := hrel
      have HBk := Lib.hid hBk
      have HO := Lib.hid ho
      clear hBk ho HB3 HW2
      by_cases hlt : k < ys.length
      · obtain ⟨b, o, rfl, hc⟩ := hB.out k hlt
        have hlt' : (k : Int) < (ys.length : Int) := by omega
        have hlx : (k : Int) < (xs.length : Int) := by omega
        have hcy := HO.out.cell hc (by simp)
        have hcx := HBk.out.cell k
        rw [limbV_get _ _ (by rw [jn_len]; omega), jn_get] at hcx
        have fx := HBk.out.frozen k
        have HBn := Lib.hid (HBk.out.set_ k (.int .u64 (((xs[k]?.getD 0) ||| (ys[k]?.getD 0) : Nat) : Int)))
        rw [limbV_set, jn_set] at HBn
        have hor := or_nat (xs[k]?.getD 0) (ys[k]?.getD 0) (get_lt hx.out k) (get_lt hy.out k)
        generalize (xs[k]?.getD 0) ||| (ys[k]?.getD 0) = z at hor HBn
        generalize xs[k]?.getD 0 = x at hcx hor
        generalize ys[k]?.getD 0 = y at hcy hor
        have hk1 : IntKind.i64.wrap ((k : Int) + 1) = (k : Int) + 1 := wrap_i64 (by omega)
        clear hc
        go_wp2_with fail
        go_roundw
        case rel => exact ⟨k + 1, by omega, by go_num, HBn.out, HO.out.setCell (.inr (by exact HG.out)) _⟩
        case measure => simp [intOf] <;> omega
      · have hnk : ¬ (k : Int) < (ys.length : Int) := by omega
        have e : k = ys.length := by omega
        have HBe : Hid (Blk wr g 90 (limbV (joinL xs ys))) := by
          have h := HBk.out
          rw [e, jn_done] at h
          exact h
        have HJ : Hid ((joinL xs ys).length = xs.length) := by show _ = _; simp [joinL]
        go_wp2_with fail
        go_ret
        exact SPost.mk HBe.out HJ.out HG.out HO.out
  · rw [if_neg hsw, if_neg hsw]
    have hnl : ¬ (xs.length : Int) < (ys.length : Int) := by omega
    clear hsw
    go_enter Tryd.func92, Tryd.ntmps92
    go_wp2_with (with_reducible refine wpList_copy_set rfl _ _ rfl g (List.replicate xs.length 0) _ _ rfl (by simp) HB1.out A xs _ _ rfl rfl (hA.out.only HO1.out) (by simp) ?_; intro w2 hb2 ho2 hs2; have HB2 := Lib.hid hb2; have HO2 := Lib.hid ho2; clear hb2 ho2 hs2)
    have HB3 : Hid (Blk w2 g 90 (limbV (jn xs ys 0))) := by
      have h := HB2.out
      rw [jn_zero]
      have e : xs ++ (List.replicate xs.length 0).drop xs.length = xs := by simp
      rw [e] at h
      exact h
    have HW2 : Hid (Only [] w w2) := (HO1.out.mono (by simp)).trans HO2.out (fun y hy => .inr (by
      have e : y = g := by simpa using hy
      have := HG.out
      omega))
    clear HB2 HO2 HB1 HO1 hmk
    go_wp2_with fail
    go_loopw [23] (fun i wr => ∃ k : Nat, k ≤ ys.length ∧ i = .int .i64 (k : Int) ∧ Blk wr g 90 (limbV (jn xs ys k)) ∧ Only [] w wr) (fun i _ => ys.length - (intOf i).toNat)
    case atStart => exact ⟨0, Nat.zero_le _, rfl, HB3.out, HW2.out⟩
    case round =>
      obtain ⟨k, hk, rfl, hBk, ho⟩ := hrel
      have HBk := Lib.hid hBk
      have HO := Lib.hid ho
      clear hBk ho HB3 HW2
      by_cases hlt : k < ys.length
      · obtain ⟨b, o, rfl, hc⟩ := hB.out k hlt
        have hlt' : (k : Int) < (ys.length : Int) := by omega
        have hlx : (k : Int) < (xs.length : Int) := by omega
        have hcy := HO.out.cell hc (by simp)
        have hcx := HBk.out.cell k
        rw [limbV_get _ _ (by rw [jn_len]; omega), jn_get] at hcx
        have fx := HBk.out.frozen k
        have HBn := Lib.hid (HBk.out.set_ k (.int .u64 (((xs[k]?.getD 0) ||| (ys[k]?.getD 0) : Nat) : Int)))
        rw [limbV_set, jn_set] at HBn
        have hor := or_nat (xs[k]?.getD 0) (ys[k]?.getD 0) (get_lt hx.out k) (get_lt hy.out k)
        generalize (xs[k]?.getD 0) ||| (ys[k]?.getD 0) = z at hor HBn
        generalize xs[k]?.getD 0 = x at hcx hor
        generalize ys[k]?.getD 0 = y at hcy hor
        have hk1 : IntKind.i64.wrap ((k : Int) + 1) = (k : Int) + 1 := wrap_i64 (by omega)
        clear hc
        go_wp2_with fail
        go_roundw
        case rel => exact ⟨k + 1, by omega, by go_num, HBn.out, HO.out.setCell (.inr (by exact HG.out)) _⟩
        case measure => simp [intOf] <;> omega
      · have hnk : ¬ (k : Int) < (ys.length : Int) := by omega
        have e : k = ys.length := by omega
        have HBe : Hid (Blk wr g 90 (limbV (joinL xs ys))) := by
          have h := HBk.out
          rw [e, jn_done] at h
          exact h
        have HJ : Hid ((joinL xs ys).length = xs.length) := by show _ = _; simp [joinL]
        go_wp2_with fail
        go_ret
        exact SPost.mk HBe.out HJ.out HG.out HO.out
/-- With one more, as a set. -/
theorem with_s {w : World} {v : Value} {P : Nat → Bool} (k : Nat) (hs : Hid (SetV w v P)) (hk : k < 128) : Calls Tryd.prog 91 #[v, .int .i64 (k : Int)] w fun e w' => ∃ u, e = .returned u ∧ SetV w' u (fun j => P j || decide (j = k)) ∧ Only [] w w' := by
  obtain ⟨A, c, xs, rfl, hr, hx, hl, hP⟩ := hs.out.ex
  refine (with_any A c xs k w (Lib.hid hr) (Lib.hid hx) (by omega) (by omega)).mono ?_
  rintro e w' ⟨u, rfl, ⟨g, c', rfl, hb, _⟩, ho⟩
  refine ⟨_, rfl, ⟨some ⟨g, 0, none⟩, c', withL xs k, rfl, LRead.of_blk hb, withL_lt hx k, by rw [withL_len]; omega, fun j => by rw [withL_bit, hP]⟩, ho⟩
theorem join_s {w : World} {v u : Value} {P Q : Nat → Bool} (hs : Hid (SetV w v P)) (ht : Hid (SetV w u Q)) : Calls Tryd.prog 92 #[v, u] w fun e w' => ∃ z, e = .returned z ∧ SetV w' z (fun j => P j || Q j) ∧ Only [] w w' := by
  obtain ⟨A, c, xs, rfl, hr, hx, hl, hP⟩ := hs.out.ex
  obtain ⟨B, d, ys, rfl, hr2, hy, hl2, hQ⟩ := ht.out.ex
  by_cases h : xs.length < ys.length
  · have h1 := join_le B A d c ys xs w (Lib.hid hr2) (Lib.hid hr) (Lib.hid hy) (Lib.hid hx) (by omega) (by omega) true
    have e : (true && decide (xs.length < ys.length)) = true := by simpa using h
    rw [if_pos e, if_pos e] at h1
    refine h1.mono ?_
    rintro e w' ⟨z, rfl, ⟨g, c', rfl, hb, _⟩, ho⟩
    exact ⟨_, rfl, ⟨some ⟨g, 0, none⟩, c', joinL ys xs, rfl, LRead.of_blk hb, joinL_lt (by omega) hy hx, by simpa [joinL] using hl2, fun j => by rw [joinL_bit _ _ (by omega), hP, hQ, Bool.or_comm]⟩, ho⟩
  · have h1 := join_le A B c d xs ys w (Lib.hid hr) (Lib.hid hr2) (Lib.hid hx) (Lib.hid hy) (by omega) (by omega) false
    rw [if_neg (by simp), if_neg (by simp)] at h1
    refine h1.mono ?_
    rintro e w' ⟨z, rfl, ⟨g, c', rfl, hb, _⟩, ho⟩
    exact ⟨_, rfl, ⟨some ⟨g, 0, none⟩, c', joinL xs ys, rfl, LRead.of_blk hb, joinL_lt (by omega) hx hy, by simpa [joinL] using hl, fun j => by rw [joinL_bit _ _ (by omega), hP, hQ]⟩, ho⟩
/-- How many there are, where none is from n on. -/
theorem count_s {w : World} {v : Value} {P : Nat → Bool} (n : Nat) (hs : Hid (SetV w v P)) (hn : Hid (∀ j, n ≤ j → P j = false)) : Calls Tryd.prog 93 #[v] w fun e w' => e = .returned (.int .i64 ((List.range n).countP P : Nat)) ∧ w = w' := by
  obtain ⟨A, c, xs, rfl, hr, hx, hl, hP⟩ := hs.out.ex
  have e : popS xs = (List.range n).countP P := by
    rw [popS_count xs P hP]
    have key : ∀ m, n ≤ m → (List.range m).countP P = (List.range n).countP P := by
      intro m hm
      obtain ⟨d, rfl⟩ : ∃ d, m = n + d := ⟨m - n, by omega⟩
      rw [List.range_add, List.countP_append, List.countP_map]
      have : (List.range d).countP (P ∘ fun x => n + x) = 0 := by
        rw [List.countP_eq_zero]
        intro x _
        simp [hn.out (n + x) (by omega)]
      omega
    rcases Nat.le_total n (64 * xs.length) with h | h
    · exact key _ h
    · have key2 : ∀ d, (List.range (64 * xs.length + d)).countP P = (List.range (64 * xs.length)).countP P := by
        intro d
        rw [List.range_add, List.countP_append, List.countP_map]
        have : (List.range d).countP (P ∘ fun x => 64 * xs.length + x) = 0 := by
          rw [List.countP_eq_zero]
          intro x _
          have hb := hP (64 * xs.length + x)
          unfold bitOf at hb
          rw [List.getElem?_eq_none (by omega)] at hb
          simp at hb
          simp [← hb]
        omega
      have := key2 (n - 64 * xs.length)
      rw [show 64 * xs.length + (n - 64 * xs.length) = n by omega] at this
      exact this.symm
  rw [← e]
  exact count_any A c xs w (Lib.hid hr) (Lib.hid hx) (by omega)
end Go.Proofs.YtigpnopeacicpaaDoor

/-
  A range over a map from ints to values of any type: each key once.
-/
namespace Go.Proofs.YtigpnopeacicpaaDoor
open Go.RowKit Go.Maps

/-- What stands in memory while one ranges over it: cnt entries are still to come, those that left tells. -/
def RangV (w : World) (b r n : Nat) (f : Int → Option Value) (left : Int → Bool) (cnt : Nat) : Prop :=
  ∃ D : DataW Value, ∃ lf : Lit → Bool, w.ranges Tryd.prog 3 selfV b r n D lf cnt ∧ (∀ kl, lf kl = true → Maps.has D kl = true) ∧ (∀ kl, Maps.has D kl = true → ∃ k, Small k ∧ kl = .int .i64 k) ∧ (∀ k, Small k → lf (.int .i64 k) = left k) ∧
    ∀ k, Small k → Maps.has D (.int .i64 k) = (f k).isSome ∧ ∀ z, D.atKey (.int .i64 k) (.held z) = .held ((f k).getD z)
theorem RangV.left_eq {w : World} {b r n cnt : Nat} {f : Int → Option Value} {left : Int → Bool} (h : RangV w b r n f left cnt) : w.rangeLeft b r = cnt := by
  obtain ⟨D, lf, hr, _⟩ := h
  exact hr.left_eq
theorem same_int (x y : Int) : (Lit.int .i64 y).sameKey (.int .i64 x) = decide (y = x) := by
  by_cases e : y = x
  · subst e
    rw [decide_eq_true rfl]
    simp [Lit.sameKey]
  · rw [decide_eq_false e]
    exact sameKey_ne (fun h => e (by injection h))
section
variable {ops : Array Oper} {rest : List Oper} {o : Oper} {a : Act} {Q : Exit → Act → World → Prop}
theorem wpList_range_v (w : World) (M E : TypeId) (hM : Tryd.prog.underlying M = some (.map 3 E)) (hg : o.guard = none) (m : Operand) (hop : o.op = Op.range M m) (b n : Nat) (f : Int → Option Value) (hm : a.eval m = .map (some b)) (h : MapV w b n f)
    (hK : ∀ w' cnt, RangV w' b w.heap.size n f (fun y => (f y).isSome) cnt → Only [] w w' → wpList Tryd.prog ops Q rest (a.put o.dst (.pointer (some ⟨w.heap.size, 0, none⟩))) w') :
    wpList Tryd.prog ops Q (o :: rest) a w := by
  obtain ⟨D, h1, h0, hk, h2⟩ := h
  exact wpList_range_own w hg m M hop 3 E (int_keyed Tryd.underlying3) hM _ b n D hm h1 (fun w' hr hg' _ => hK w' _ ⟨D, _, hr, fun _ h => h, hk, fun k hs => (h2 k hs).1, h2⟩ (Only.of_grown hg' (by simp)))
set_option maxRecDepth 100000 in
theorem wpList_next_v (w : World) (hg : o.guard = none) (it : Operand) (hop : o.op = Op.next it false) (b r n : Nat) (f : Int → Option Value) (left : Int → Bool) (cnt : Nat) (hit : a.eval it = .pointer (some ⟨r, 0, none⟩)) (h : RangV w b r n f left cnt)
    (hDone : cnt = 0 → (∀ k, Small k → left k = false) → wpList Tryd.prog ops Q rest (a.put o.dst (.tuple #[.bool false])) w)
    (hMore : ∀ (x : Int) (v : Value) (w' : World) (cnt' : Nat), Small x → f x = some v → left x = true → RangV w' b r n f (fun y => left y && !decide (y = x)) cnt' → cnt' < cnt → Only [r] w w' →
      (Instr.entry (.pointer (some ⟨r, 0, none⟩))).run Tryd.prog w' = .ok (.tuple #[.int .i64 x, v]) w' → wpList Tryd.prog ops Q rest (a.put o.dst (.tuple #[.bool true, .int .i64 x, v])) w') :
    wpList Tryd.prog ops Q (o :: rest) a w := by
  obtain ⟨D, lf, hr, hl, hk, hlf, h2⟩ := h
  refine wpList_next_ranges w hg it hop 3 (int_keyed Tryd.underlying3) selfV (Value.int .i64) (id : Value → Value) (fun key kl hkey => by obtain ⟨x, rfl, _⟩ := Maps.keyOf_int_inv Tryd.underlying3 hkey; exact ⟨x, rfl⟩) (fun v y _ => ⟨v, rfl⟩) b r n D lf cnt hit hr (fun h hf => hDone h (fun k hs => by rw [← hlf k hs]; exact hf _)) ?_
  intro x c kl y w' cnt' hkey hlk hv hat hr' hlt hgr _ hen
  obtain ⟨x', ex, rfl, hwx⟩ := Maps.keyOf_int_inv Tryd.underlying3 hkey
  have ex' : x = x' := by injection ex
  subst ex'
  obtain ⟨k, hsk, e⟩ := hk _ (hl _ hlk)
  have e' : x = k := by injection e
  subst e'
  have h3 := h2 x hsk
  have hsome : (f x).isSome = true := by rw [← h3.1]; exact hl _ hlk
  obtain ⟨v, hfv⟩ := Option.isSome_iff_exists.1 hsome
  have h4 := h3.2 c
  rw [hat, hfv] at h4
  have h5 : y.1 = .held c := by
    have : some (DataW.held c, ([] : List MemPlace)) = some y := hv
    injection this with this
    rw [← this]
  rw [h5] at h4
  have h6 : c = v := by simpa using h4
  subst h6
  refine hMore x c w' cnt' hsk hfv (by rw [← hlf x hsk]; exact hlk) ⟨D, _, hr', fun kl h => ?_, hk, fun k hs => ?_, h2⟩ hlt (Only.of_grown hgr (by simp)) hen
  · simp only [Bool.and_eq_true] at h
    exact hl _ h.1
  · rw [hlf k hs, same_int]
end
end Go.Proofs.YtigpnopeacicpaaDoor

/-
  bound.roots over what one is made of.
-/
namespace Go.Proofs.YtigpnopeacicpaaDoor
set_option linter.unusedSimpArgs false
open Go.RowKit
attribute [local go_sem] run_store_float

theorem zeroSet (w : World) : (zeroValue 143).run Tryd.prog w = .ok (.slice none 0 0) w := by kernel_rfl
theorem SetV.far {w w' : World} {v : Value} {P : Nat → Bool} {S : List Nat} (h : SetV w v P) (ho : Only S w w') (hS : ∀ m ∈ S, ∃ es clock, w.heap[m]? = some (.map es clock)) : SetV w' v P := by
  obtain ⟨A, c, xs, h1, h2, h3⟩ := h.ex
  refine ⟨A, c, xs, h1, fun k hk => ?_, h3⟩
  obtain ⟨b, o, e, hc⟩ := h2 k hk
  refine ⟨b, o, e, ho.cell hc (fun hm => ?_)⟩
  obtain ⟨es, clock, hmap⟩ := hS b hm
  simp [World.cell?, hmap] at hc
/-- Sets at hand: those of P. -/
def SetsAt (w : World) (m n : Nat) (ns : List Nd) (L P : List Int) : Prop :=
  ∃ f : Int → Option Value, MapV w m n f ∧ (∀ y, (f y).isSome = decide (y ∈ P)) ∧ ∀ y v, f y = some v → SetV w v (setP ns L y)
theorem SetsAt.only {w w' : World} {m n : Nat} {ns : List Nd} {L P : List Int} (h : SetsAt w m n ns L P) (ho : Only [] w w') : SetsAt w' m n ns L P := by
  obtain ⟨f, h1, h2, h3⟩ := h
  exact ⟨f, h1.only ho (by simp), h2, fun y v hv => (h3 y v hv).only ho⟩
theorem SetsAt.made {w : World} {m : Nat} (h : MapV w m 0 (fun _ => none)) (ns : List Nd) (L : List Int) : SetsAt w m 0 ns L [] := ⟨_, h, fun y => by simp, fun y v hv => by cases hv⟩
theorem SetsAt.far {w w' : World} {m b n : Nat} {ns : List Nd} {L P : List Int} (h : SetsAt w m n ns L P) (ho : Only [b] w w') (hb : ∃ es clock, w.heap[b]? = some (.map es clock)) (hm : m ≠ b) : SetsAt w' m n ns L P := by
  obtain ⟨f, h1, h2, h3⟩ := h
  exact ⟨f, h1.only ho (by simpa using hm), h2, fun y v hv => (h3 y v hv).far ho (fun x hx => by
    have e : x = b := by simpa using hx
    exact e ▸ hb)⟩
/-- A look. -/
theorem SetsAt.look {w : World} {m n : Nat} {ns : List Nd} {L P : List Int} (h : SetsAt w m n ns L P) {y : Int} (hy : Small y) : ∃ v, (Instr.lookup 142 (.map (some m)) (.int .i64 y) false).run Tryd.prog w = .ok v w ∧ (y ∈ P → SetV w v (setP ns L y)) ∧ (y ∉ P → v = .slice none 0 0) := by
  obtain ⟨f, h1, h2, h3⟩ := h
  refine ⟨_, h1.look Tryd.underlying142 (zeroSet w) hy, fun hP => ?_, fun hP => ?_⟩
  · have hs := h2 y
    rw [decide_eq_true hP] at hs
    obtain ⟨v, hv⟩ := Option.isSome_iff_exists.1 hs
    rw [hv]
    exact h3 y v hv
  · have hs := h2 y
    rw [decide_eq_false hP] at hs
    have : f y = none := by simpa using hs
    rw [this]
    rfl
theorem SetsAt.store {w : World} {m n : Nat} {ns : List Nd} {L P : List Int} (h : SetsAt w m n ns L P) {x : Int} (hx : Small x) (hxP : x ∉ P) (hn : n < 1000000) {v : Value} (hv : SetV w v (setP ns L x)) :
    ∃ w', (Instr.mapUpdate 142 (.map (some m)) (.int .i64 x) v).run Tryd.prog w = .ok () w' ∧ SetsAt w' m (n + 1) ns L (P ++ [x]) ∧ Only [m] w w' := by
  obtain ⟨f, h1, h2, h3⟩ := h
  obtain ⟨w', hr, hM, ho⟩ := h1.store Tryd.underlying142 hn hx v
  have hfx : (f x).isSome = false := by rw [h2 x, decide_eq_false hxP]
  rw [hfx] at hM
  have hobj := h1.obj
  refine ⟨w', hr, ⟨_, hM, fun y => ?_, fun y u hu => ?_⟩, ho⟩
  · by_cases e : y = x
    · subst e; simp
    · simp [e, h2 y]
  · have key : ∀ z Q, SetV w z Q → SetV w' z Q := fun z Q hz => hz.far ho (fun q hq => by
      have e : q = m := by simpa using hq
      exact e ▸ hobj)
    by_cases e : y = x
    · subst e
      simp at hu
      exact hu ▸ key _ _ hv
    · simp [e] at hu
      exact key _ _ (h3 y u hu)
end Go.Proofs.YtigpnopeacicpaaDoor

/-
  bound.roots over what one is made of: the walk.
-/
namespace Go.Proofs.YtigpnopeacicpaaDoor
set_option linter.unusedSimpArgs false
open Go.RowKit
attribute [local go_sem] run_store_float

/-- Counts at hand: those of P. -/
noncomputable def cntF (ns : List Nd) (P : List Int) : Int → Option Int := fun y => if y ∈ P then some (rootsL ns (belowOf ns y) : Int) else none
theorem cntF_next (ns : List Nd) (P P' : List Int) (x : Int) (hP : ∀ y, y ∈ P' ↔ y ∈ P ∨ y = x) : (fun y => if y = x then some (rootsL ns (belowOf ns x) : Int) else cntF ns P y) = cntF ns P' := by
  funext y
  unfold cntF
  by_cases e : y = x
  · subst e
    rw [if_pos rfl, if_pos ((hP y).2 (.inr rfl))]
  · rw [if_neg e]
    by_cases h : y ∈ P
    · rw [if_pos h, if_pos ((hP y).2 (.inl h))]
    · rw [if_neg h, if_neg (fun h2 => by rcases (hP y).1 h2 with h3 | h3; exact h h3; exact e h3)]
/-- What is told of one with its set. -/
structure RootsOk (ns : List Nd) (L : List Int) : Prop where
  ids : Ids ns L
  asc : L.Pairwise (· < ·)
  kid : ∀ k, k < L.length → ∀ c ∈ kids (nodeAt ns (L[k]?.getD 0)), c ∈ L.take k
  cnt : ∀ y ∈ L, (List.range (rt ns L).length).countP (setP ns L y) = rootsL ns (belowOf ns y)
theorem rootsOk_below {ns : List Nd} (ok : OkDag ns) (R : Int → Prop) : RootsOk ns (belowL ns R) := by
  refine ⟨belowL_ids ok R, belowL_asc ns R, fun k hk c hc => ?_, fun y hy => setP_count ok hy⟩
  have hmem : (belowL ns R)[k]?.getD 0 ∈ belowL ns R := by
    rw [List.getElem?_eq_getElem hk]
    exact List.getElem_mem hk
  have h1 := belowL_kids ok hmem hc
  obtain ⟨j, hj, e⟩ := List.getElem_of_mem h1
  have hr := ((mem_belowL ok).1 hmem).range ok
  have h2 := ok _ hr.1 hr.2 c hc
  rw [List.getElem?_eq_getElem hk, Option.getD_some] at h2
  have h3 : j < k := by
    rcases Nat.lt_or_ge j k with h | h
    · exact h
    · exfalso
      by_cases e2 : j = k
      · subst e2; omega
      · have := (List.pairwise_iff_getElem.1 (belowL_asc ns R)) k j hk hj (by omega)
        omega
  rw [List.mem_take_iff_getElem]
  exact ⟨j, by omega, e⟩
set_option maxHeartbeats 3200000 in
set_option maxRecDepth 100000 in
theorem broots_any (d : Nat) (v : Value) (ns : List Nd) (L : List Int) (A : Option Addr) (c : Nat) (w : World) (hd : Hid (DagIs w d v none ns)) (ok : Hid (DagOk ns)) (hL : Hid (RootsOk ns L)) (hn : L.length ≤ 128) (hread : Hid (IRead w A L)) :
    Calls Tryd.prog 66 #[.pointer (some ⟨d, 0, none⟩), .slice A L.length c] w fun e w' => ∃ m, e = .returned (.map (some m)) ∧ MapX w' m L.length (cntF ns L) ∧ w.heap.size ≤ m ∧ Only [] w w' := by
  have hmm := @run_makeMap Tryd.prog
  have HMc : Hid (MapX (w.alloc (.map #[] 0)) w.heap.size 0 (fun _ => none)) := MapX.made w
  have HMs0 := MapV.made (w.alloc (.map #[] 0))
  rw [World.size_alloc] at HMs0
  have HMs := Lib.hid (SetsAt.made HMs0 ns L)
  have HMc2 := Lib.hid (HMc.out.only ((Only.refl [] (w.alloc (.map #[] 0))).alloc (.map #[] 0)) (by simp))
  have HO1 : Hid (Only [] w ((w.alloc (.map #[] 0)).alloc (.map #[] 0))) := ((Only.refl [] w).alloc _).alloc _
  clear HMs0 HMc
  go_enter Tryd.func66, Tryd.ntmps66
  go_wp2_with fail
  clear hmm
  have HFr : Hid (∀ b o, A = some ⟨b, o, none⟩ → 0 < L.length → b < w.heap.size) := by
    rintro b o rfl hl
    obtain ⟨b2, o2, e, hc⟩ := hread.out 0 hl
    injection e with e
    injection e with e1 _ _
    subst e1
    exact World.block_lt_of_cell? w _ hc
  generalize (w.alloc (.map #[] 0)).alloc (.map #[] 0) = w1 at *
  obtain ⟨mc, hmc⟩ : ∃ mc, w.heap.size = mc := ⟨_, rfl⟩
  obtain ⟨ms, hms⟩ : ∃ ms, w.heap.size + 1 = ms := ⟨_, rfl⟩
  rw [hms] at HMs ⊢
  rw [hmc] at HMc2 ⊢
  have HG : Hid (w.heap.size ≤ mc ∧ w.heap.size ≤ ms ∧ mc ≠ ms) := by show _ ∧ _; omega
  clear hmc hms
  go_loopw [7, 17] (fun nx i wr => ∃ k : Nat, k ≤ L.length ∧ i = .int .i64 (k : Int) ∧ nx = .int .i64 (rootsL ns (L.take k) : Int) ∧ Only [mc, ms] w1 wr ∧ MapX wr mc k (cntF ns (L.take k)) ∧ SetsAt wr ms k ns L (L.take k)) (fun _ i _ => L.length - (intOf i).toNat)
  case atStart => exact ⟨0, Nat.zero_le _, rfl, rfl, Only.refl _ _, by
    have e : cntF ns (L.take 0) = fun _ => none := by funext y; simp [cntF]
    rw [e]; exact HMc2.out, HMs.out⟩
  case round =>
    obtain ⟨k, hk, rfl, rfl, ho, hC, hS⟩ := hrel
    have HO := Lib.hid ho
    have HC := Lib.hid hC
    have HS := Lib.hid hS
    clear ho hC hS HMc2 HMs
    have HW0 : Hid (Only [] w wr) := (HO1.out.mono (by simp)).trans HO.out (fun y hy => .inr (by
      have e : y = mc ∨ y = ms := by simpa using hy
      have := HG.out
      omega))
    by_cases hlt : k < L.length
    · obtain ⟨a, ha, han⟩ := hL.out.ids.mem k hlt
      obtain ⟨b, o, rfl, hcell0⟩ := hread.out k hlt
      have hcell := HW0.out.cell hcell0 (by simp)
      rw [ha] at hcell
      have hlt' : (k : Int) < (L.length : Int) := by omega
      have hsa : Small (a : Int) := by have := ok.out.len; unfold Small; omega
      have HSa := Lib.hid hsa
      have HTake : Hid (L.take (k + 1) = L.take k ++ [(a : Int)]) := by
        show _ = _
        rw [List.take_succ_eq_append_getElem hlt, ← ha, List.getElem?_eq_getElem hlt]
        rfl
      have HNot : Hid ((a : Int) ∉ L.take k) := by
        intro hm
        rw [List.mem_take_iff_getElem] at hm
        obtain ⟨j, hj, e⟩ := hm
        have h1 := (List.pairwise_iff_getElem.1 hL.out.asc) j k (by omega) hlt (by omega)
        rw [List.getElem?_eq_getElem hlt, Option.getD_some] at ha
        omega
      have HCnt : Hid ((List.range (rt ns L).length).countP (setP ns L (a : Int)) = rootsL ns (belowOf ns (a : Int))) := hL.out.cnt _ (by rw [← ha, List.getElem?_eq_getElem hlt]; exact List.getElem_mem hlt)
      have HKd := Lib.hid (hL.out.kid k hlt)
      have HSn := Lib.hid (rootsL_snoc ns L k hlt)
      have HRoot := Lib.hid (setP_root ok.out.ok hL.out.asc hlt (by rw [ha]; omega))
      have HTwo : Hid ((nodeAt ns (a : Int)).k ≠ 0 → (nodeAt ns (a : Int)).k ≠ 5 → ∀ j, setP ns L (a : Int) j = (setP ns L (nodeAt ns (a : Int)).a j || setP ns L (nodeAt ns (a : Int)).b j)) := fun h0 h5 j => setP_two ok.out.ok (by omega) h0 h5 j
      have HLeaf : Hid ((nodeAt ns (a : Int)).k = 0 → ∀ j, setP ns L (a : Int) j = false) := fun h0 j => setP_leaf ok.out.ok h0 j
      have HNo := Lib.hid (ok.out.nodes a han)
      have hnx : rootsL ns (L.take k) < 128 := by
        have h1 := rootsL_le ns (L.take k)
        have h2 : (L.take k).length ≤ k := List.length_take_le _ _
        omega
      rw [ha] at HKd HSn HRoot
      have HRtk : Hid ((rt ns (L.take k)).length = rootsL ns (L.take k)) := rfl
      rw [HRtk.out] at HRoot
      generalize rootsL ns (L.take k) = nx at HSn HRoot hnx ⊢
      clear ha hsa HRtk
      go_wp2_with fail
      refine (dnode_in d v none ns a wr (hd.out.only HW0.out (by simp)) han).mono ?_
      rintro e w2 ⟨rfl, ho2⟩
      have HN : Hid (nodeAt ns (a : Int) = ns[a]?.getD nd0) := rfl
      rw [HN.out] at HKd HSn HRoot HTwo HLeaf HNo
      generalize ns[a]?.getD nd0 = nd at HKd HSn HRoot HTwo HLeaf HNo ⊢
      obtain ⟨nk, nf, na, nb⟩ := nd
      simp only at HSn HRoot HTwo HLeaf
      simp only [Nd.val]
      have HO2 := Lib.hid (HO.out.nil_trans ho2)
      have HC2 := Lib.hid (HC.out.only ho2 (by simp))
      have HS2 := Lib.hid (HS.out.only ho2)
      clear ho2 HO HC HS HW0 hcell hcell0 HN
      go_upto_region 9 with fail
      have hbx : Hid (Blk (w2.alloc (.cells #[.int .i64 nk, .float .f64 nf, .int .i64 na, .int .i64 nb] 31)) w2.heap.size 31 [.int .i64 nk, .float .f64 nf, .int .i64 na, .int .i64 nb]) := Blk.new w2 _ _
      have hoa : Only [] w2 (w2.alloc (.cells #[.int .i64 nk, .float .f64 nf, .int .i64 na, .int .i64 nb] 31)) := (Only.refl _ _).alloc _
      generalize w2.alloc (.cells #[.int .i64 nk, .float .f64 nf, .int .i64 na, .int .i64 nb] 31) = w3 at *
      generalize w2.heap.size = bx at *
      have HO3 := Lib.hid (HO2.out.nil_trans hoa)
      have HC3 := Lib.hid (HC2.out.only hoa (by simp))
      have HS3 := Lib.hid (HS2.out.only hoa)
      have b0 := hbx.out.cell 0
      have b2 := hbx.out.cell 2
      have b3 := hbx.out.cell 3
      simp only [List.getElem?_cons_zero, List.getElem?_cons_succ] at b0 b2 b3
      clear hoa HO2 HC2 HS2
      by_cases h0 : nk = 0
      · have HSv : Hid (SetV w3 (.slice none 0 0) (setP ns L (a : Int))) := by
          show SetV _ _ _
          rw [show setP ns L (a : Int) = fun _ => false from funext (HLeaf.out h0)]
          exact SetV.nil w3
        have HNx : Hid (rootsL ns (L.take (k + 1)) = nx) := by show _ = _; rw [HSn.out, if_neg (by omega)]; rfl
        subst h0
        clear HRoot HTwo HLeaf HSn HKd HNo
        go_wp2_with fail
        (with_reducible refine (count_s (rt ns L).length HSv (Lib.hid fun j hj => setP_far (a : Int) hj)).mono ?_)
        rintro e w' ⟨rfl, rfl⟩
        rw [HCnt.out]
        obtain ⟨w5, hup5, hs5, ho5⟩ := HS3.out.store HSa.out HNot.out (by omega) HSv.out
        have HC5 := Lib.hid (HC3.out.only ho5 (by have := HG.out; simp; omega))
        have hcv : Small (rootsL ns (belowOf ns (a : Int)) : Int) := by
          have h1 := rootsL_le ns (belowOf ns (a : Int))
          have h2 : (belowOf ns (a : Int)).length ≤ ns.length := (belowL_ids ok.out.ok (· ∈ [(a : Int)])).len
          have h3 := ok.out.len
          unfold Small
          omega
        obtain ⟨w6, hup6, hc6, ho6⟩ := HC5.out.store (by omega) HSa.out hcv
        have HS6 := Lib.hid (SetsAt.far hs5 ho6 HC5.out.toI.obj (by have := HG.out; omega))
        have HO6 := Lib.hid ((HO3.out.trans ho5 (fun y hy => .inl (by simp at hy ⊢; exact .inr hy))).trans ho6 (fun y hy => .inl (by simp at hy ⊢; exact .inl hy)))
        have HC6 : Hid (MapX w6 mc (k + 1) (cntF ns (L.take (k + 1)))) := by
          have h := hc6
          rw [cntF_next ns (L.take k) (L.take (k + 1)) (a : Int) (by rw [HTake.out]; simp)] at h
          have e2 : (cntF ns (L.take k) (a : Int)).isSome = false := by unfold cntF; rw [if_neg HNot.out]; rfl
          rw [e2] at h
          exact h
        rw [← HTake.out] at HS6
        clear hs5 ho5 hc6 ho6 HC5 hcv HO3 HC3 HS3 HSv
        go_wp2_with fail
        go_roundw
        case rel => exact ⟨k + 1, by omega, by go_num, by first | (rw [HNx.out]; done) | (rw [HNx.out]; rfl), HO6.out, HC6.out, HS6.out⟩
        case measure => simp [intOf] <;> omega
      · have g0 : (nk == 0) = false := by simpa using h0
        by_cases h5 : nk = 5
        · subst h5
          have hin : na ∈ L.take k := HKd.out na (by unfold kids; simp)
          obtain ⟨va, hlk, hsv, -⟩ := HS3.out.look HNo.out.2.1
          have HVa := Lib.hid (hsv hin)
          have HNx : Hid (rootsL ns (L.take (k + 1)) = nx + 1) := by show _ = _; rw [HSn.out, if_pos rfl]
          have HSx : Hid (setP ns L (a : Int) = fun j => setP ns L na j || decide (j = nx)) := funext (HRoot.out rfl)
          have hw1 : IntKind.i64.wrap ((nx : Int) + 1) = ((nx + 1 : Nat) : Int) := by rw [wrap_i64 (by omega)]; omega
          clear HRoot HTwo HLeaf HSn HKd HNo hsv hin h0
          go_wp2_with fail
          (with_reducible refine (with_s nx HVa hnx).mono ?_)
          rintro e w4 ⟨sv, rfl, hsv, ho⟩
          have HSv : Hid (SetV w4 sv (setP ns L (a : Int))) := by show SetV _ _ _; rw [HSx.out]; exact hsv
          have HO4 := Lib.hid (HO3.out.nil_trans ho)
          have HC4 := Lib.hid (HC3.out.only ho (by simp))
          have HS4 := Lib.hid (HS3.out.only ho)
          clear hsv ho HO3 HC3 HS3 HVa HSx b0 b2 b3 hlk
          go_wp2_with fail
          (with_reducible refine (count_s (rt ns L).length HSv (Lib.hid fun j hj => setP_far (a : Int) hj)).mono ?_)
          rintro e w' ⟨rfl, rfl⟩
          rw [HCnt.out]
          obtain ⟨w5, hup5, hs5, ho5⟩ := HS4.out.store HSa.out HNot.out (by omega) HSv.out
          have HC5 := Lib.hid (HC4.out.only ho5 (by have := HG.out; simp; omega))
          have hcv : Small (rootsL ns (belowOf ns (a : Int)) : Int) := by
            have h1 := rootsL_le ns (belowOf ns (a : Int))
            have h2 : (belowOf ns (a : Int)).length ≤ ns.length := (belowL_ids ok.out.ok (· ∈ [(a : Int)])).len
            have h3 := ok.out.len
            unfold Small
            omega
          obtain ⟨w6, hup6, hc6, ho6⟩ := HC5.out.store (by omega) HSa.out hcv
          have HS6 := Lib.hid (SetsAt.far hs5 ho6 HC5.out.toI.obj (by have := HG.out; omega))
          have HO6 := Lib.hid ((HO4.out.trans ho5 (fun y hy => .inl (by simp at hy ⊢; exact .inr hy))).trans ho6 (fun y hy => .inl (by simp at hy ⊢; exact .inl hy)))
          have HC6 : Hid (MapX w6 mc (k + 1) (cntF ns (L.take (k + 1)))) := by
            have h := hc6
            rw [cntF_next ns (L.take k) (L.take (k + 1)) (a : Int) (by rw [HTake.out]; simp)] at h
            have e2 : (cntF ns (L.take k) (a : Int)).isSome = false := by unfold cntF; rw [if_neg HNot.out]; rfl
            rw [e2] at h
            exact h
          rw [← HTake.out] at HS6
          clear hs5 ho5 hc6 ho6 HC5 hcv HO4 HC4 HS4 HSv
          go_wp2_with fail
          go_roundw
          case rel => exact ⟨k + 1, by omega, by go_num, by first | (rw [HNx.out]; done) | (rw [HNx.out]; rfl), HO6.out, HC6.out, HS6.out⟩
          case measure => simp [intOf] <;> omega
        · have g5 : (nk == 5) = false := by simpa using h5
          have hina : na ∈ L.take k := HKd.out na (by unfold kids; rw [if_neg h0, if_neg h5]; simp)
          have hinb : nb ∈ L.take k := HKd.out nb (by unfold kids; rw [if_neg h0, if_neg h5]; simp)
          obtain ⟨va, hlka, hsva, -⟩ := HS3.out.look HNo.out.2.1
          obtain ⟨vb, hlkb, hsvb, -⟩ := HS3.out.look HNo.out.2.2
          have HVa := Lib.hid (hsva hina)
          have HVb := Lib.hid (hsvb hinb)
          have HNx : Hid (rootsL ns (L.take (k + 1)) = nx) := by show _ = _; rw [HSn.out, if_neg h5]; rfl
          have HSx : Hid (setP ns L (a : Int) = fun j => setP ns L na j || setP ns L nb j) := funext (HTwo.out h0 h5)
          clear HRoot HTwo HLeaf HSn HKd HNo hsva hsvb hina hinb h0 h5
          go_wp2_with fail
          (with_reducible refine (join_s HVa HVb).mono ?_)
          rintro e w4 ⟨sv, rfl, hsv, ho⟩
          have HSv : Hid (SetV w4 sv (setP ns L (a : Int))) := by show SetV _ _ _; rw [HSx.out]; exact hsv
          have HO4 := Lib.hid (HO3.out.nil_trans ho)
          have HC4 := Lib.hid (HC3.out.only ho (by simp))
          have HS4 := Lib.hid (HS3.out.only ho)
          clear hsv ho HO3 HC3 HS3 HVa HVb HSx b0 b2 b3 hlka hlkb
          go_wp2_with fail
          (with_reducible refine (count_s (rt ns L).length HSv (Lib.hid fun j hj => setP_far (a : Int) hj)).mono ?_)
          rintro e w' ⟨rfl, rfl⟩
          rw [HCnt.out]
          obtain ⟨w5, hup5, hs5, ho5⟩ := HS4.out.store HSa.out HNot.out (by omega) HSv.out
          have HC5 := Lib.hid (HC4.out.only ho5 (by have := HG.out; simp; omega))
          have hcv : Small (rootsL ns (belowOf ns (a : Int)) : Int) := by
            have h1 := rootsL_le ns (belowOf ns (a : Int))
            have h2 : (belowOf ns (a : Int)).length ≤ ns.length := (belowL_ids ok.out.ok (· ∈ [(a : Int)])).len
            have h3 := ok.out.len
            unfold Small
            omega
          obtain ⟨w6, hup6, hc6, ho6⟩ := HC5.out.store (by omega) HSa.out hcv
          have HS6 := Lib.hid (SetsAt.far hs5 ho6 HC5.out.toI.obj (by have := HG.out; omega))
          have HO6 := Lib.hid ((HO4.out.trans ho5 (fun y hy => .inl (by simp at hy ⊢; exact .inr hy))).trans ho6 (fun y hy => .inl (by simp at hy ⊢; exact .inl hy)))
          have HC6 : Hid (MapX w6 mc (k + 1) (cntF ns (L.take (k + 1)))) := by
            have h := hc6
            rw [cntF_next ns (L.take k) (L.take (k + 1)) (a : Int) (by rw [HTake.out]; simp)] at h
            have e2 : (cntF ns (L.take k) (a : Int)).isSome = false := by unfold cntF; rw [if_neg HNot.out]; rfl
            rw [e2] at h
            exact h
          rw [← HTake.out] at HS6
          clear hs5 ho5 hc6 ho6 HC5 hcv HO4 HC4 HS4 HSv
          go_wp2_with fail
          go_roundw
          case rel => exact ⟨k + 1, by omega, by go_num, by first | (rw [HNx.out]; done) | (rw [HNx.out]; rfl), HO6.out, HC6.out, HS6.out⟩
          case measure => simp [intOf] <;> omega
    · have hnl : ¬ (k : Int) < (L.length : Int) := by omega
      obtain rfl : k = L.length := by omega
      go_wp2_with fail
      go_returns
      have h := HC.out
      rw [List.take_length] at h
      exact ⟨mc, rfl, h, HG.out.1, HW0.out⟩
end Go.Proofs.YtigpnopeacicpaaDoor
