/-
  The reference's numbers: DivMod, the long division.
-/
import Derived.Test.YtgiejjpemhceiaaDoorTeRefG
import Derived.Test.YtgiejjpemhceiaaDoorTeRDivB
import Derived.ArgAppend
import Derived.StillTailTactics
namespace Go.Proofs.YtgiejjpemhceiaaDoor
open Go.RowKit

structure RW (w wr : World) (gu gq : Nat) (tl : List Value) (us qs : List Nat) (U0 V lu lq k : Nat) : Prop where
  li : R.LI us qs U0 V k
  bu : Blk wr gu 105 (limbV us ++ tl)
  bq : Blk wr gq 105 (limbV qs)
  ul : us.length = lu
  ql : qs.length = lq
  only : Only [gu, gq] w wr

theorem RW.step {w w6 wa : World} {gu gq : Nat} {tl : List Value} {us us' qs : List Nat} {U0 V lu lq j n d : Nat} (h : RW w w6 gu gq tl us qs U0 V lu lq (j + 1)) (hne : gu ≠ gq) (ho : Only [gu] w6 wa) (hb : Blk wa gu 105 (limbV us' ++ tl)) (hd : R.DI us us' V j n d 0) (hj : j < lq) :
    RW w (wa.setCell ⟨gq, j, none⟩ (.int .u64 (d : Int))) gu gq tl us' (qs.set j d) U0 V lu lq j ∧ (∃ q : Nat, wa.cell? ⟨gq, j, none⟩ = some (.int .u64 (q : Int))) ∧ wa.frozen? ⟨gq, j, none⟩ = false := by
  have hbq := h.bq.only ho (by simp; exact fun e => hne e.symm)
  have hql := h.ql
  refine ⟨⟨h.li.step hd (by omega), hb.far hne _, ?_, by rw [hd.len]; exact h.ul, by rw [List.length_set]; exact hql, (h.only.trans ho (by simp)).trans ((Only.refl [gq] wa).setCell (.inl (by simp)) _) (by simp)⟩, ⟨qs[j]?.getD 0, ?_⟩, hbq.frozen j⟩
  · rw [← limbV_set]
    exact hbq.set_ j _
  · rw [hbq.cell, limbV_get _ _ (by omega)]
structure RM (wr wx : World) (g : Nat) (tl : List Value) (us us' vs : List Nat) (j d i c lo : Nat) : Prop where
  ms : R.MS us us' vs j d i c lo
  blk : Blk wx g 105 (limbV us' ++ tl)
  only : Only [g] wr wx
theorem RM.step {wr wx wy : World} {g : Nat} {tl : List Value} {us us' vs : List Nat} {j d i c lo t y lo' : Nat} (h : RM wr wx g tl us us' vs j d i c lo) (hi : i < vs.length) (hj : j + i < us'.length) (hd : d < R.BB) (hv : R.Limb vs) (ht : c + d * (vs[i]?.getD 0) = t) (hl : lo' ≤ 1) (hy : y < R.BB) (he : y + (t % R.BB + lo) = us'[j + i]?.getD 0 + R.BB * lo')
    (hb : Blk wy g 105 (limbV (us'.set (j + i) y) ++ tl)) (ho : Only [g] wx wy) : RM wr wy g tl us (us'.set (j + i) y) vs j d (i + 1) (t / R.BB) lo' :=
  ⟨h.ms.step hi hj hd hv ht hl hy he, hb, h.only.trans ho (by simp)⟩
structure RA (wr wx : World) (g : Nat) (tl : List Value) (us us' vs : List Nat) (j i c : Nat) : Prop where
  st : R.AS us us' vs j i c
  blk : Blk wx g 105 (limbV us' ++ tl)
  only : Only [g] wr wx
theorem RA.step {wr wx wy : World} {g : Nat} {tl : List Value} {us us' vs : List Nat} {j i c t : Nat} (h : RA wr wx g tl us us' vs j i c) (hi : i < vs.length) (hj : j + i < us'.length) (hv : R.Limb vs) (ht : c + us'[j + i]?.getD 0 + vs[i]?.getD 0 = t)
    (hb : Blk wy g 105 (limbV (us'.set (j + i) (t % R.BB)) ++ tl)) (ho : Only [g] wx wy) : RA wr wy g tl us (us'.set (j + i) (t % R.BB)) vs j (i + 1) (t / R.BB) :=
  ⟨h.st.step hi hj hv ht, hb, h.only.trans ho (by simp)⟩
theorem RA.drewN {wr wx : World} {g : Nat} {tl : List Value} {us us' vs : List Nat} {j i c : Nat} (h : RA wr wx g tl us us' vs j i c) (n : Nat) : RA wr (wx.drewN n) g tl us us' vs j i c := ⟨h.st, h.blk.drewN n, h.only.drewN n⟩
end Go.Proofs.YtgiejjpemhceiaaDoor
