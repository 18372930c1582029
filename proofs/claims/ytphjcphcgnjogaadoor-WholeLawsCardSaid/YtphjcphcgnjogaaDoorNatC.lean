/-
  nat: differences: sub, Sub, gap; Add of several.
-/
import Derived.Test.YtphjcphcgnjogaaDoorNatB
namespace Go.Proofs.YtphjcphcgnjogaaDoor
open Go.RowKit

/-- Where a difference under way stands. -/
structure BCar (w wr : World) (g : Nat) (zs zs' : List Nat) (i bo T U : Nat) : Prop where
  blk : Blk wr g 64 (limbV zs')
  limb : Limb zs'
  len : zs'.length = zs.length
  bole : bo ≤ 1
  val_ : val zs' + U = T + BB ^ i * bo
  only : Only [g] w wr
theorem BCar.step {w wr : World} {g : Nat} {zs zs' : List Nat} {i bo T U v : Nat} (h : BCar w wr g zs zs' i bo T U) (hi : i < zs.length) (hv : v < BB) {U' : Nat} (hU : U' = U + BB ^ i * v) :
    BCar w (wr.setCell ⟨g, i, none⟩ (.int .u64 ((sLo (zs'[i]?.getD 0) v bo : Nat) : Int))) g zs (zs'.set i (sLo (zs'[i]?.getD 0) v bo)) (i + 1) (sHi (zs'[i]?.getD 0) v bo) T U' := by
  refine ⟨?_, h.limb.set _ _ (sLo_lt _ _ _), by rw [List.length_set, h.len], sHi_le _ _ _, ?_, h.only.trans ((Only.refl [g] wr).setCell (.inl (by simp)) _) (by simp)⟩
  · rw [← limbV_set]
    exact h.blk.set_ i _
  · have h1 := sub_step (by rw [h.len]; exact hi) (sub64_law (h.limb.get i) hv h.bole)
    have h2 := h.val_
    rw [hU]
    omega

set_option maxHeartbeats 1600000 in
theorem nsub_any (A B : Option Addr) (c d : Nat) (xs ys : List Nat) (w : World) (hA : Hid (Arg w A xs)) (hB : Hid (Arg w B ys)) (hl : (ys.length : Int) ≤ xs.length) (hlm : (xs.length : Int) ≤ 4000000) (hle : Hid (val ys ≤ val xs)) :
    Calls Tryd.prog 76 #[.slice A xs.length c, .slice B ys.length d] w (NPost (val xs - val ys) w) := by
  obtain ⟨w1, hmk, hb1, ho1, hs1⟩ := make_nat w xs.length (by omega)
  have HB1 := Lib.hid hb1
  have HO1 := Lib.hid ho1
  have HAlt := Lib.hid hA.out.lt
  have HBlt := Lib.hid hB.out.lt
  clear hb1 ho1 hs1
  generalize hg : w.heap.size = g at HB1 hmk HAlt HBlt
  have HG : Hid (w.heap.size ≤ g) := by show _ ≤ _; omega
  clear hg
  go_enter Tryd.func76, Tryd.ntmps76
  go_wp2_with (with_reducible refine wpList_copy_limbs rfl _ _ rfl g (List.replicate xs.length 0) _ _ rfl (by simp) HB1.out A xs _ _ rfl rfl (hA.out.read.only HO1.out) (by simp) ?_; intro w2 hb2 ho2 hs2; have HB2 := Lib.hid hb2; have HO2 := Lib.hid ho2; clear hb2 ho2 hs2)
  have HO : Hid (Only [] w w2) := HO1.out.trans HO2.out (fun k hk => .inr (by simp at hk; rw [hk]; exact HG.out))
  have HStart : Hid (BCar w2 w2 g xs xs 0 0 (val xs) 0) := ⟨by simpa using HB2.out, hA.out.limb, rfl, by omega, by omega, Only.refl _ _⟩
  clear HB2 hmk HO2
  go_loopw [6, 18] (fun cv kv wr => ∃ (k bo : Nat) (zs' : List Nat), k ≤ ys.length ∧ kv = .int .i64 (k : Int) ∧ cv = .int .u64 (bo : Int) ∧ BCar w2 wr g xs zs' k bo (val xs) (val (ys.take k))) (fun _ kv _ => ys.length - (intOf kv).toNat)
  case atStart => exact ⟨0, 0, xs, Nat.zero_le _, rfl, rfl, by simpa [val] using HStart.out⟩
  case round =>
    obtain ⟨k, bo, zs', hk, rfl, rfl, hR⟩ := hrel
    have HR := Lib.hid hR
    clear hR HStart
    by_cases hlt : k < ys.length
    · obtain ⟨b, o, rfl, hc⟩ := (hB.out.read.only HO.out) k hlt
      have hbg : b ≠ g := by have := HBlt.out (by omega) _ rfl; simp only at this; omega
      have c1 := HR.out.only.cell hc (by simpa using hbg)
      have c2 := HR.out.blk.cell k
      rw [limbV_get _ _ (by rw [HR.out.len]; omega)] at c2
      have f2 := HR.out.blk.frozen k
      have hvk := hB.out.limb.get k
      have ha := fun wx => sub64_run (zs'[k]?.getD 0) (ys[k]?.getD 0) bo HR.out.bole wx
      have HS := Lib.hid (HR.out.step (U' := val (ys.take (k + 1))) (by omega) hvk (val_take_succ ys k hlt))
      generalize zs'[k]?.getD 0 = z at c2 ha HS
      generalize ys[k]?.getD 0 = v at c1 ha HS
      have hk' : (k : Int) < (ys.length : Int) := by omega
      have hi' : (k : Int) < (xs.length : Int) := by omega
      clear hc hvk hlt
      go_wp2_with fail
      go_roundw
      case rel => exact ⟨k + 1, _, _, by omega, by go_num, rfl, HS.out⟩
      case measure => simp [intOf]; omega
    · have hnl : ¬ (k : Int) < (ys.length : Int) := by omega
      have e : k = ys.length := by omega
      have HR2 : Hid (BCar w2 wr g xs zs' ys.length bo (val xs) (val ys)) := by
        have := HR.out
        rw [e, val_take_all] at this
        exact this
      clear e HR hlt
      go_wp2_with fail
      go_loopw [6, 9] (fun cv iv wq => ∃ (i bo : Nat) (zq : List Nat), i ≤ xs.length ∧ iv = .int .i64 (i : Int) ∧ cv = .int .u64 (bo : Int) ∧ BCar w2 wq g xs zq i bo (val xs) (val ys)) (fun _ iv _ => xs.length - (intOf iv).toNat)
      case atStart => exact ⟨_, bo, zs', by omega, rfl, rfl, HR2.out⟩
      case round =>
        obtain ⟨i, bo', zq, hi, rfl, rfl, hR⟩ := hrel
        have HR := Lib.hid hR
        have hcy := hR.bole
        clear hR HR2
        by_cases h0 : bo' = 0
        · have g0 : ((bo' : Int) != 0) = false := by simp [h0]
          have HV : Hid (val zq = val xs - val ys) := by
            have := HR.out.val_
            rw [h0, Nat.mul_zero] at this
            show _ = _
            omega
          have HLen := Lib.hid HR.out.len
          clear h0 hcy
          go_wp2_with fail
          (with_reducible refine (trim_row g _ _ zq wr HR.out.blk HR.out.limb HLen.out.symm (Nat.le_refl _) (by omega)).mono ?_)
          rintro e w4 ⟨rfl, rfl⟩
          go_wp2_with fail
          go_ret
          have hr := res_of_blk (w0 := w) HR.out.blk HR.out.limb HG.out (by have := HLen.out; omega)
          rw [HLen.out] at hr
          exact ⟨_, rfl, HV.out ▸ hr, HO.out.trans HR.out.only (fun k hk => .inr (by simp at hk; rw [hk]; exact HG.out))⟩
        · have e1 : bo' = 1 := by omega
          by_cases hlt : i < xs.length
          · have g0 : ((bo' : Int) != 0) = true := by simp [e1]
            have c2 := HR.out.blk.cell i
            rw [limbV_get _ _ (by rw [HR.out.len]; omega)] at c2
            have f2 := HR.out.blk.frozen i
            have ha : ∀ wx, (callFunc 96 #[.int .u64 ((zq[i]?.getD 0 : Nat) : Int), .int .u64 0, .int .u64 (bo' : Int)]).run Tryd.prog wx = .ok (.value (.tuple #[.int .u64 ((sLo (zq[i]?.getD 0) 0 bo' : Nat) : Int), .int .u64 ((sHi (zq[i]?.getD 0) 0 bo' : Nat) : Int)])) wx :=
              fun wx => sub64_run (zq[i]?.getD 0) 0 bo' hcy wx
            have HS := Lib.hid (HR.out.step (U' := val ys) hlt BB_pos (by omega))
            generalize zq[i]?.getD 0 = z at c2 ha HS
            have hi' : (i : Int) < (xs.length : Int) := by omega
            clear h0 e1 hlt hcy
            go_wp2_with fail
            go_roundw
            case rel => exact ⟨i + 1, _, _, by omega, by go_num, rfl, HS.out⟩
            case measure => simp [intOf]; omega
          · exfalso
            have h1 := HR.out.val_
            have h2 := hle.out
            have h3 := val_lt HR.out.limb
            have e2 : i = xs.length := by omega
            rw [e1, Nat.mul_one, e2] at h1
            rw [HR.out.len] at h3
            omega
end Go.Proofs.YtphjcphcgnjogaaDoor
