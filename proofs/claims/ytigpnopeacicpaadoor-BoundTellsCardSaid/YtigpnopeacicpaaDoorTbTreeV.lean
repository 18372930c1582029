/-
  compasslaw10.Tree of given values: nodes of any kinds, made right; a leaf's value where there is a finite one.
-/
import Derived.Test.YtigpnopeacicpaaDoorTbJ14
import Derived.Test.YtigpnopeacicpaaDoorTbJ8
namespace Go.Proofs.YtigpnopeacicpaaDoor
set_option linter.unusedSimpArgs false
open Go.RowKit
attribute [local go_sem] run_store_float

namespace Fl
/-- Words that are no numbers. -/
def NaNV (n : Nat) : Prop := ∃ s r, n = wordB s r ∧ INF < r ∧ r < 9223372036854775808
theorem NaNV.ord {n : Nat} (h : NaNV n) (m : Nat) : FloatKind.f64.format.order n m = none := by
  obtain ⟨s, r, rfl, h1, h2⟩ := h
  exact (ord_nan s h1 h2 m).1
theorem nan_bits (x y t : Nat) : NaNV ((Question.nanBits .f64 x y).cut t) := by
  refine ⟨decide (t % 2 = 1), 9218868437227405312 + 1 + (t / 2) % (2 ^ 52 - 1), ?_, ?_, ?_⟩
  · show (t % 2) * 2 ^ 63 + 0x7ff0000000000000 + 1 + (t / 2) % (2 ^ 52 - 1) = _
    have h : t % 2 = 0 ∨ t % 2 = 1 := by omega
    rcases h with h | h
    · rw [h]; simp only [wordB]; simp
    · rw [h]; simp only [wordB]; simp; omega
  · rw [inf_val]; omega
  · have := Nat.mod_lt (t / 2) (show 0 < 2 ^ 52 - 1 by decide)
    omega
def isNB : VP := fun u _ => ∃ n, u = .float .f64 n ∧ NaNV n
theorem isNB.lasts : Lasts isNB := fun _ _ _ h _ => h
theorem all_isNB {w : World} {K : Value → Prop} (h : ∀ n, Hid (NaNV n) → K (.float .f64 n)) : ∀ v, isNB v w → K v := fun v ⟨n, h1, h2⟩ => by
  subst h1
  exact h n (Lib.hid h2)
theorem fin_rung {s : Bool} {r : Nat} (h : r < 9223372036854775808) : finB (wordB s r) = true ↔ r < INF := by
  rw [fin_word s h, decide_eq_true_iff]
theorem write_numT (neg : Bool) (m : Nat) (p : Int) : Ieee.double.write (.number neg m p) = Ieee.double.nearest neg m p := rfl
/-- A finite number less itself is 0. -/
theorem sub_self {v : Nat} (hv : v < 18446744073709551616) (h : finB v = true) : floatBits .sub .f64 v v = some 0 := by
  obtain ⟨s, r, rfl, hr⟩ := word_split hv
  obtain ⟨m, k, e1, _⟩ := read_fin s ((fin_rung hr).1 h)
  show Ieee.double.sub _ _ = _
  unfold Ieee.Format.sub
  rw [e1]
  show (Ieee.Datum.sum (.number s m (-1074 + (k : Int))) (.number (!s) m (-1074 + (k : Int)))).map _ = _
  unfold Ieee.Datum.sum
  have e3 : ((-1074 + (k : Int)) - (-1074 + (k : Int))).toNat = 0 := by omega
  have e4 : min (-1074 + (k : Int)) (-1074 + (k : Int)) = -1074 + (k : Int) := by omega
  simp only [signed_sg, e4, e3, Option.map_some, write_numT, Nat.pow_zero, Nat.mul_one]
  have e5 : sg s m + sg (!s) m = 0 := by cases s <;> simp [sg] <;> omega
  rw [e5]
  cases s <;> rfl
/-- What is not finite, less itself, is no number. -/
theorem sub_none {v : Nat} (hv : v < 18446744073709551616) (h : finB v = false) (t : TypeId) (P : Program) (w : World) : ∃ n, (binOp .sub t (.float .f64 v) (.float .f64 v)).run P w = .ok (.float .f64 n) w.drew ∧ NaNV n := by
  have hn : FloatKind.f64.format.sub v v = none := by
    obtain ⟨s, r, rfl, hr⟩ := word_split hv
    have hi : INF ≤ r := by
      rcases Nat.lt_or_ge r INF with h2 | h2
      · rw [(fin_rung hr).2 h2] at h
        cases h
      · exact h2
    show Ieee.double.sub _ _ = _
    unfold Ieee.Format.sub
    by_cases e : r = INF
    · subst e
      rw [read_inf]
      cases s <;> rfl
    · rw [read_nan s (by omega) hr]
      rfl
  refine ⟨_, ?_, nan_bits v v (w.tape w.drawn (.nanBits .f64 v v))⟩
  simp only [binOp, Op.floatArith, hn, Sem.run_bind, run_choose_drew, Question.forced]
  rfl
end Fl

/-- The leaf at a place. -/
def leafN (vals : List Nat) (i : Nat) : Nat := if i < vals.length ∧ finB (vals[i]?.getD 0) = true then vals[i]?.getD 0 else 4607182418800017408
def treeVN (kinds refs : List Int) (vals : List Nat) (i : Nat) : Nd := if i = 0 ∨ (kinds[i]?.getD 0) % 6 = 0 then ⟨0, leafN vals i, 0, 0⟩ else treeN kinds refs i
def treeVL (kinds refs : List Int) (vals : List Nat) (k : Nat) : List Nd := (List.range k).map (treeVN kinds refs vals)
theorem treeVL_succ (kinds refs : List Int) (vals : List Nat) (k : Nat) : treeVL kinds refs vals (k + 1) = treeVL kinds refs vals k ++ [treeVN kinds refs vals k] := by simp [treeVL, List.range_succ]
theorem treeVL_len (kinds refs : List Int) (vals : List Nat) (k : Nat) : (treeVL kinds refs vals k).length = k := by simp [treeVL]
theorem treeVL_get (kinds refs : List Int) (vals : List Nat) (k i : Nat) (h : i < k) : (treeVL kinds refs vals k)[i]?.getD nd0 = treeVN kinds refs vals i := by simp [treeVL, h]
theorem leafN_fin (vals : List Nat) (i : Nat) : finB (leafN vals i) = true := by
  unfold leafN
  split
  · rename_i h; exact h.2
  · decide
/-- Words. -/
def Words (vals : List Nat) : Prop := ∀ i, i < vals.length → vals[i]?.getD 0 < 18446744073709551616
theorem leafN_lt {vals : List Nat} (h : Words vals) (i : Nat) : leafN vals i < 18446744073709551616 := by
  unfold leafN
  split
  · rename_i h2; exact h i h2.1
  · decide
theorem treeVN_bits {kinds refs : List Int} {vals : List Nat} (h : Words vals) (i : Nat) : (treeVN kinds refs vals i).f < 2 ^ 64 := by
  unfold treeVN
  split
  · exact leafN_lt h i
  · exact treeN_bits kinds refs i
theorem treeVN_takes (kinds refs : List Int) (vals : List Nat) (i : Nat) (hi : i ≤ 65535) : takesB i (treeVN kinds refs vals i).k (treeVN kinds refs vals i).f (treeVN kinds refs vals i).a (treeVN kinds refs vals i).b = true := by
  unfold treeVN
  split
  · simp [takesB, validB, leafN_fin]
  · exact treeN_takes kinds refs i hi
theorem treeVL_ok (kinds refs : List Int) (vals : List Nat) (k : Nat) (hk : k ≤ 65535) : AllOk (treeVL kinds refs vals k) := by
  intro j hj
  rw [treeVL_len] at hj
  unfold okB
  rw [treeVL_get _ _ _ _ _ hj]
  exact treeVN_takes kinds refs vals j (by omega)
theorem treeVN_leaf {kinds refs : List Int} {vals : List Nat} {i : Nat} {x : Int} {v : Nat} (hx : kinds[i]?.getD 0 = x) (h : i = 0 ∨ x % 6 = 0) (hv : leafN vals i = v) : (⟨0, v, 0, 0⟩ : Nd) = treeVN kinds refs vals i := by
  unfold treeVN
  rw [hx, if_pos h, hv]
theorem treeVN_mid {kinds refs : List Int} {vals : List Nat} {i : Nat} {x X a b : Int} (hx : kinds[i]?.getD 0 = x) (hX : x % 6 = X) (h0 : i ≠ 0) (h6 : X ≠ 0)
    (ha : a = if 2 * i < refs.length then (refs[2 * i]?.getD 0) % (i : Int) else 0) (hb : b = if 2 * i + 1 < refs.length ∧ X ≠ 5 then (refs[2 * i + 1]?.getD 0) % (i : Int) else 0) : (⟨X, 0, a, b⟩ : Nd) = treeVN kinds refs vals i := by
  unfold treeVN
  rw [hx, hX, if_neg (by omega)]
  exact treeN_mid hx hX h0 h6 ha hb
/-- Where Tree's loop stands. -/
def TvRel (w0 : World) (kinds refs : List Int) (vals : List Nat) (k : Nat) (u : Value) (wr : World) : Prop :=
  NodesAt wr u (treeVL kinds refs vals k) ∧ (∀ g, u.ownBlock = some g → w0.heap.size ≤ g) ∧ Only [] w0 wr
theorem TvRel.push {w0 wr w1 w' : World} {kinds refs : List Int} {vals : List Nat} {k : Nat} {u : Value} {g cap : Nat} (h : TvRel w0 kinds refs vals k u wr) (hW : Only [] wr w1) (n : Nd) (hn : n = treeVN kinds refs vals k)
    (hown : w'.ownsRow 0 31 4 (.slice (some ⟨g, 0, none⟩) (k + 1) cap) (k + 1) (flat (treeVL kinds refs vals k) ++ n.cells)) (hgr : w1.grownBy w' u.ownBlock) (hat : u.ownBlock = some g ∨ wr.heap.size ≤ g) : TvRel w0 kinds refs vals (k + 1) (.slice (some ⟨g, 0, none⟩) (k + 1) cap) w' := by
  subst hn
  obtain ⟨h1, h2, h3⟩ := h
  have ho : Only u.ownBlock.toList wr w' := (hW.mono (by simp)).trans (Only.of_grown (S := u.ownBlock.toList) hgr (by simp)) (fun k hk => .inl hk)
  refine ⟨?_, ?_, h3.trans ho (fun k hk => .inr (h2 k (by simpa using hk)))⟩
  · unfold NodesAt
    rw [treeVL_succ, flat_snoc, List.length_append, treeVL_len]
    exact hown
  · intro q hq
    have e : g = q := by simpa [Value.ownBlock] using hq
    subst e
    rcases hat with e | e
    · exact h2 g e
    · have := h3.size
      omega
/-- A slice that reads as words. -/
def FRead (w : World) (A : Option Addr) (L : List Nat) : Prop := ∀ k, k < L.length → ∃ b o, A = some ⟨b, o, none⟩ ∧ w.cell? ⟨b, o + k, none⟩ = some (.float .f64 (L[k]?.getD 0))

set_option maxHeartbeats 3200000 in
set_option maxRecDepth 100000 in
theorem treeV_any (A B V : Option Addr) (c c' cv : Nat) (kinds refs : List Int) (vals : List Nat) (w : World) (hA : Hid (IRead w A kinds)) (hB : Hid (IRead w B refs)) (hk : (kinds.length : Int) ≤ 100) (hr : (refs.length : Int) ≤ 300) (hV : Hid (FRead w V vals)) (hWd : Hid (Words vals)) :
    Calls Tryd.prog 7 #[.slice A kinds.length c, .slice B refs.length c', .slice V vals.length cv] w fun e w' => ∃ u, e = .returned u ∧ TvRel w kinds refs vals kinds.length u w' := by
  obtain ⟨i0, hi, hz0, hz1, hz2⟩ := info_parts Tryd.nodeInfo
  go_enter Tryd.func7, Tryd.ntmps7
  go_wp2_with fail
  go_loopw [7, 8] (fun u i wr => ∃ k : Nat, k ≤ kinds.length ∧ i = .int .i64 (k : Int) ∧ TvRel w kinds refs vals k u wr) (fun _ i _ => kinds.length - (intOf i).toNat)
  case atStart => exact ⟨0, Nat.zero_le _, rfl, World.ownsRow_nil _ _ _ _, by simp [Value.ownBlock], Only.refl _ _⟩
  case round =>
    obtain ⟨k, hkl, rfl, hT⟩ := hrel
    have HT := Lib.hid hT
    have hsh := hT.1.shape
    obtain ⟨Au, uc, rfl, -, -, -⟩ := hsh
    have HRow : Hid (∀ {w' : World}, Only [] wr w' → w'.ownsRow 0 31 4 (.slice Au k uc) k (flat (treeVL kinds refs vals k))) := fun {w'} ho => by
      have h := hT.1
      unfold NodesAt at h
      rw [treeVL_len] at h
      exact ownsRow_only h ho (by simp)
    rw [treeVL_len] at *
    clear hT
    by_cases hlt : k < kinds.length
    · obtain ⟨b, o, rfl, h1⟩ := hA.out k hlt
      have p0 := HT.out.2.2.cell h1 (by simp)
      have hlt' : (k : Int) < (kinds.length : Int) := by omega
      obtain ⟨x, hx⟩ : ∃ x, kinds[k]?.getD 0 = x := ⟨_, rfl⟩
      rw [hx] at p0
      have HX := Lib.hid hx
      have e6 := emod_of x 6
      rw [Int.add_emod_right] at e6
      obtain ⟨t1, t2⟩ := tmod_bd x 6 (by omega)
      have b1 := Int.emod_nonneg x (b := 6) (by omega)
      have b2 := Int.emod_lt_of_pos x (b := 6) (by omega)
      obtain ⟨X, hX⟩ : ∃ X, x % 6 = X := ⟨_, rfl⟩
      have HX6 := Lib.hid hX
      rw [hX] at e6 b1 b2
      clear h1 hx hX hlt
      by_cases h0 : k = 0
      · have HMk : Hid (∀ {v : Nat}, leafN vals k = v → (⟨0, v, 0, 0⟩ : Nd) = treeVN kinds refs vals k) := fun hv => treeVN_leaf HX.out (.inl h0) hv
        have g0 : ((k : Int) == 0) = true := by simp [h0]
        clear h0
        by_cases hvl : k < vals.length
        · obtain ⟨bv, ov, rfl, hcv⟩ := hV.out k hvl
          have hvb := hWd.out k hvl
          have HLf : Hid (leafN vals k = if finB (vals[k]?.getD 0) = true then vals[k]?.getD 0 else 4607182418800017408) := by
            show leafN vals k = _
            unfold leafN
            by_cases h : finB (vals[k]?.getD 0) = true
            · rw [if_pos ⟨hvl, h⟩, if_pos h]
            · rw [if_neg (fun h2 => h h2.2), if_neg h]
          have hglt : decide (k < vals.length) = true := decide_eq_true hvl
          have hlt2 : k < vals.length := hvl
          have HCV := Lib.hid (HT.out.2.2.cell hcv (by simp))
          clear hcv hvl
          generalize vals[k]?.getD 0 = v at HCV hvb HLf
          cases hfv : finB v with
          | true =>
            have HE := Lib.hid (HMk.out (HLf.out.trans (if_pos hfv)))
            have h00 : FloatKind.f64.format.order 0 0 = some .eq := by kernel_rfl
            have hsb : ∀ w : World, (binOp .sub 29 (.float .f64 v) (.float .f64 v)).run Tryd.prog w = .ok (.float .f64 0) w := fun w => run_float_arith w .sub 29 .f64 v v 0 (Fl.sub_self hvb hfv)
            clear HMk HLf hfv
            go_upto_region 8 with fail
            apply wp_region_typed2 (by kernel_rfl) [isV _, isV _, isV _, isV _, isV _, isV _, isV _, isV _, isV _, isV _, isV _, isV _, isV _, isV _, isV _, isV _] [[], [], [1], [0, 2], [3], [4], [4], [4, 5, 6], [4, 7], [4], [4], [4, 9, 10], [4, 11], [4, 8, 12], [4, 13], [4, 14]] (by kernel_rfl) (by kernel_rfl)
            case ho =>
              refine owes2_cons (fun wx hox => ?_) ?_
              · skip
                skip
                refine withs_plain rfl ?_
                simp only [withs, List.getElem?_cons_zero, List.getElem?_cons_succ, Option.bind, Option.getD]
                repeat (with_reducible refine all_isV ?_)
                go_simp
                exact ⟨Only.refl _ _, isV.self _ _⟩
              refine owes2_cons (fun wx hox => ?_) ?_
              · skip
                skip
                refine withs_plain rfl ?_
                simp only [withs, List.getElem?_cons_zero, List.getElem?_cons_succ, Option.bind, Option.getD]
                repeat (with_reducible refine all_isV ?_)
                go_simp
                exact ⟨Only.refl _ _, isV.self _ _⟩
              refine owes2_cons (fun wx hox => ?_) ?_
              · skip
                skip
                refine withs_plain rfl ?_
                simp only [withs, List.getElem?_cons_zero, List.getElem?_cons_succ, Option.bind, Option.getD]
                repeat (with_reducible refine all_isV ?_)
                go_simp
                exact ⟨Only.refl _ _, isV.self _ _⟩
              refine owes2_cons (fun wx hox => ?_) ?_
              · skip
                skip
                refine withs_plain rfl ?_
                simp only [withs, List.getElem?_cons_zero, List.getElem?_cons_succ, Option.bind, Option.getD]
                repeat (with_reducible refine all_isV ?_)
                go_simp
                exact ⟨Only.refl _ _, isV.self _ _⟩
              refine owes2_cons (fun wx hox => ?_) ?_
              · skip
                skip
                refine withs_plain rfl ?_
                simp only [withs, List.getElem?_cons_zero, List.getElem?_cons_succ, Option.bind, Option.getD]
                repeat (with_reducible refine all_isV ?_)
                go_simp
                exact ⟨Only.refl _ _, isV.self _ _⟩
              refine owes2_cons (fun wx hox => ?_) ?_
              · skip
                skip
                refine withs_guard rfl rfl ?_
                simp only [withs, List.getElem?_cons_zero, List.getElem?_cons_succ, Option.bind, Option.getD]
                repeat (with_reducible refine all_isV ?_)
                refine ⟨by kernel_rfl, ?_⟩
                go_simp
                exact ⟨Only.refl _ _, isV.self _ _⟩
              refine owes2_cons (fun wx hox => ?_) ?_
              · skip
                skip
                refine withs_guard rfl rfl ?_
                simp only [withs, List.getElem?_cons_zero, List.getElem?_cons_succ, Option.bind, Option.getD]
                repeat (with_reducible refine all_isV ?_)
                refine ⟨by kernel_rfl, ?_⟩
                go_simp
                exact ⟨Only.refl _ _, isV.self _ _⟩
              refine owes2_cons (fun wx hox => ?_) ?_
              · skip
                skip
                refine withs_guard rfl rfl ?_
                simp only [withs, List.getElem?_cons_zero, List.getElem?_cons_succ, Option.bind, Option.getD]
                repeat (with_reducible refine all_isV ?_)
                refine ⟨by kernel_rfl, ?_⟩
                go_simp
                exact ⟨Only.refl _ _, isV.self _ _⟩
              refine owes2_cons (fun wx hox => ?_) ?_
              · skip
                have hcv := hox.cell HCV.out (by simp)
                refine withs_guard rfl rfl ?_
                simp only [withs, List.getElem?_cons_zero, List.getElem?_cons_succ, Option.bind, Option.getD]
                repeat (with_reducible refine all_isV ?_)
                refine ⟨by kernel_rfl, ?_⟩
                go_simp
                exact ⟨Only.refl _ _, isV.self _ _⟩
              refine owes2_cons (fun wx hox => ?_) ?_
              · skip
                skip
                refine withs_guard rfl rfl ?_
                simp only [withs, List.getElem?_cons_zero, List.getElem?_cons_succ, Option.bind, Option.getD]
                repeat (with_reducible refine all_isV ?_)
                refine ⟨by kernel_rfl, ?_⟩
                go_simp
                exact ⟨Only.refl _ _, isV.self _ _⟩
              refine owes2_cons (fun wx hox => ?_) ?_
              · skip
                skip
                refine withs_guard rfl rfl ?_
                simp only [withs, List.getElem?_cons_zero, List.getElem?_cons_succ, Option.bind, Option.getD]
                repeat (with_reducible refine all_isV ?_)
                refine ⟨by kernel_rfl, ?_⟩
                go_simp
                exact ⟨Only.refl _ _, isV.self _ _⟩
              refine owes2_cons (fun wx hox => ?_) ?_
              · skip
                skip
                refine withs_guard rfl rfl ?_
                simp only [withs, List.getElem?_cons_zero, List.getElem?_cons_succ, Option.bind, Option.getD]
                repeat (with_reducible refine all_isV ?_)
                refine ⟨by kernel_rfl, ?_⟩
                go_simp
                exact ⟨Only.refl _ _, isV.self _ _⟩
              refine owes2_cons (fun wx hox => ?_) ?_
              · skip
                have hcv := hox.cell HCV.out (by simp)
                refine withs_guard rfl rfl ?_
                simp only [withs, List.getElem?_cons_zero, List.getElem?_cons_succ, Option.bind, Option.getD]
                repeat (with_reducible refine all_isV ?_)
                refine ⟨by kernel_rfl, ?_⟩
                go_simp
                exact ⟨Only.refl _ _, isV.self _ _⟩
              refine owes2_cons (fun wx hox => ?_) ?_
              · skip
                skip
                refine withs_guard rfl rfl ?_
                simp only [withs, List.getElem?_cons_zero, List.getElem?_cons_succ, Option.bind, Option.getD]
                repeat (with_reducible refine all_isV ?_)
                refine ⟨by kernel_rfl, ?_⟩
                go_simp
                exact ⟨Only.refl _ _, isV.self _ _⟩
              refine owes2_cons (fun wx hox => ?_) ?_
              · skip
                skip
                refine withs_guard rfl rfl ?_
                simp only [withs, List.getElem?_cons_zero, List.getElem?_cons_succ, Option.bind, Option.getD]
                repeat (with_reducible refine all_isV ?_)
                refine ⟨by kernel_rfl, ?_⟩
                go_simp
                exact ⟨Only.refl _ _, isV.self _ _⟩
              refine owes2_cons (fun wx hox => ?_) ?_
              · skip
                skip
                refine withs_plain rfl ?_
                simp only [withs, List.getElem?_cons_zero, List.getElem?_cons_succ, Option.bind, Option.getD]
                repeat (with_reducible refine all_isV ?_)
                go_simp
                exact ⟨Only.refl _ _, isV.self _ _⟩
              exact owes2_nil
            case he =>
              intro wx hox
              have hcv := hox.cell HCV.out (by simp)
              refine withs_of (by simp only [List.length, List.range, List.range.loop]; exact rfl) ?_
              simp only [withs, List.getElem?_cons_zero, List.getElem?_cons_succ, Option.bind, Option.getD]
              repeat (with_reducible refine all_isV ?_)
              go_simp
              have hsz := hox.size
              go_wp2_with (at_builtin; refine wpList_append_lies _ rfl _ _ _ rfl 0 31 i0 _ 4 32 Tryd.underlying25 hi hz0 hz1 hz2 rfl (by decide) (.slice Au k uc) k (flat (treeVL kinds refs vals k)) rfl (by exact HRow.out (hox.alloc _)) ⟨wx.heap.size, 0, none⟩ 1 1 [.int .i64 0, .float .f64 v, .int .i64 0, .int .i64 0] rfl rfl (by exact news4 (heap_alloc_new _ _)) (by simp [Value.oneCell']) (by decide) (by simp only [maxLen]; omega) (by omega) (Nat.zero_le _) (wx.heap.size + 1) (by simp) ?_; intro g cap w3 hown3 hgr3 hat3 hlt3; have HT3 := Lib.hid (HT.out.push (hox.alloc _) ⟨0, v, 0, 0⟩ HE.out hown3 hgr3 (hat3.imp id (fun e => by omega))); clear hown3 hgr3 hat3 hlt3)
              go_roundw
              case rel => exact ⟨k + 1, by omega, by go_num, HT3.out⟩
              case measure => simp [intOf]; omega
            case hl =>
              repeat (refine List.forall_mem_cons.2 ⟨?_, ?_⟩; first | exact isV.lasts _ | exact Fl.isNB.lasts)
              exact fun _ h => (by cases h)
          | false =>
            have HE := Lib.hid (HMk.out (HLf.out.trans (if_neg (by rw [hfv]; decide))))
            have hsn := Lib.hid (fun w => Fl.sub_none hvb hfv 29 Tryd.prog w)
            clear HMk HLf
            go_upto_region 8 with fail
            apply wp_region_typed2 (by kernel_rfl) [isV _, isV _, isV _, isV _, isV _, isV _, isV _, isV _, isV _, isV _, isV _, isV _, isV _, Fl.isNB, isV _, isV _] [[], [], [1], [0, 2], [3], [4], [4], [4, 5, 6], [4, 7], [4], [4], [4, 9, 10], [4, 11], [4, 8, 12], [4, 13], [4, 14]] (by kernel_rfl) (by kernel_rfl)
            case ho =>
              refine owes2_cons (fun wx hox => ?_) ?_
              · skip
                skip
                refine withs_plain rfl ?_
                simp only [withs, List.getElem?_cons_zero, List.getElem?_cons_succ, Option.bind, Option.getD]
                repeat (first | (with_reducible refine all_isV ?_) | (with_reducible refine Fl.all_isNB ?_; intro nx hnx))
                go_simp
                exact ⟨Only.refl _ _, isV.self _ _⟩
              refine owes2_cons (fun wx hox => ?_) ?_
              · skip
                skip
                refine withs_plain rfl ?_
                simp only [withs, List.getElem?_cons_zero, List.getElem?_cons_succ, Option.bind, Option.getD]
                repeat (first | (with_reducible refine all_isV ?_) | (with_reducible refine Fl.all_isNB ?_; intro nx hnx))
                go_simp
                exact ⟨Only.refl _ _, isV.self _ _⟩
              refine owes2_cons (fun wx hox => ?_) ?_
              · skip
                skip
                refine withs_plain rfl ?_
                simp only [withs, List.getElem?_cons_zero, List.getElem?_cons_succ, Option.bind, Option.getD]
                repeat (first | (with_reducible refine all_isV ?_) | (with_reducible refine Fl.all_isNB ?_; intro nx hnx))
                go_simp
                exact ⟨Only.refl _ _, isV.self _ _⟩
              refine owes2_cons (fun wx hox => ?_) ?_
              · skip
                skip
                refine withs_plain rfl ?_
                simp only [withs, List.getElem?_cons_zero, List.getElem?_cons_succ, Option.bind, Option.getD]
                repeat (first | (with_reducible refine all_isV ?_) | (with_reducible refine Fl.all_isNB ?_; intro nx hnx))
                go_simp
                exact ⟨Only.refl _ _, isV.self _ _⟩
              refine owes2_cons (fun wx hox => ?_) ?_
              · skip
                skip
                refine withs_plain rfl ?_
                simp only [withs, List.getElem?_cons_zero, List.getElem?_cons_succ, Option.bind, Option.getD]
                repeat (first | (with_reducible refine all_isV ?_) | (with_reducible refine Fl.all_isNB ?_; intro nx hnx))
                go_simp
                exact ⟨Only.refl _ _, isV.self _ _⟩
              refine owes2_cons (fun wx hox => ?_) ?_
              · skip
                skip
                refine withs_guard rfl rfl ?_
                simp only [withs, List.getElem?_cons_zero, List.getElem?_cons_succ, Option.bind, Option.getD]
                repeat (first | (with_reducible refine all_isV ?_) | (with_reducible refine Fl.all_isNB ?_; intro nx hnx))
                refine ⟨by kernel_rfl, ?_⟩
                go_simp
                exact ⟨Only.refl _ _, isV.self _ _⟩
              refine owes2_cons (fun wx hox => ?_) ?_
              · skip
                skip
                refine withs_guard rfl rfl ?_
                simp only [withs, List.getElem?_cons_zero, List.getElem?_cons_succ, Option.bind, Option.getD]
                repeat (first | (with_reducible refine all_isV ?_) | (with_reducible refine Fl.all_isNB ?_; intro nx hnx))
                refine ⟨by kernel_rfl, ?_⟩
                go_simp
                exact ⟨Only.refl _ _, isV.self _ _⟩
              refine owes2_cons (fun wx hox => ?_) ?_
              · skip
                skip
                refine withs_guard rfl rfl ?_
                simp only [withs, List.getElem?_cons_zero, List.getElem?_cons_succ, Option.bind, Option.getD]
                repeat (first | (with_reducible refine all_isV ?_) | (with_reducible refine Fl.all_isNB ?_; intro nx hnx))
                refine ⟨by kernel_rfl, ?_⟩
                go_simp
                exact ⟨Only.refl _ _, isV.self _ _⟩
              refine owes2_cons (fun wx hox => ?_) ?_
              · skip
                have hcv := hox.cell HCV.out (by simp)
                refine withs_guard rfl rfl ?_
                simp only [withs, List.getElem?_cons_zero, List.getElem?_cons_succ, Option.bind, Option.getD]
                repeat (first | (with_reducible refine all_isV ?_) | (with_reducible refine Fl.all_isNB ?_; intro nx hnx))
                refine ⟨by kernel_rfl, ?_⟩
                go_simp
                exact ⟨Only.refl _ _, isV.self _ _⟩
              refine owes2_cons (fun wx hox => ?_) ?_
              · skip
                skip
                refine withs_guard rfl rfl ?_
                simp only [withs, List.getElem?_cons_zero, List.getElem?_cons_succ, Option.bind, Option.getD]
                repeat (first | (with_reducible refine all_isV ?_) | (with_reducible refine Fl.all_isNB ?_; intro nx hnx))
                refine ⟨by kernel_rfl, ?_⟩
                go_simp
                exact ⟨Only.refl _ _, isV.self _ _⟩
              refine owes2_cons (fun wx hox => ?_) ?_
              · skip
                skip
                refine withs_guard rfl rfl ?_
                simp only [withs, List.getElem?_cons_zero, List.getElem?_cons_succ, Option.bind, Option.getD]
                repeat (first | (with_reducible refine all_isV ?_) | (with_reducible refine Fl.all_isNB ?_; intro nx hnx))
                refine ⟨by kernel_rfl, ?_⟩
                go_simp
                exact ⟨Only.refl _ _, isV.self _ _⟩
              refine owes2_cons (fun wx hox => ?_) ?_
              · skip
                skip
                refine withs_guard rfl rfl ?_
                simp only [withs, List.getElem?_cons_zero, List.getElem?_cons_succ, Option.bind, Option.getD]
                repeat (first | (with_reducible refine all_isV ?_) | (with_reducible refine Fl.all_isNB ?_; intro nx hnx))
                refine ⟨by kernel_rfl, ?_⟩
                go_simp
                exact ⟨Only.refl _ _, isV.self _ _⟩
              refine owes2_cons (fun wx hox => ?_) ?_
              · skip
                have hcv := hox.cell HCV.out (by simp)
                refine withs_guard rfl rfl ?_
                simp only [withs, List.getElem?_cons_zero, List.getElem?_cons_succ, Option.bind, Option.getD]
                repeat (first | (with_reducible refine all_isV ?_) | (with_reducible refine Fl.all_isNB ?_; intro nx hnx))
                refine ⟨by kernel_rfl, ?_⟩
                go_simp
                exact ⟨Only.refl _ _, isV.self _ _⟩
              refine owes2_cons (fun wx hox => ?_) ?_
              · skip
                skip
                refine withs_guard rfl rfl ?_
                simp only [withs, List.getElem?_cons_zero, List.getElem?_cons_succ, Option.bind, Option.getD]
                repeat (first | (with_reducible refine all_isV ?_) | (with_reducible refine Fl.all_isNB ?_; intro nx hnx))
                refine ⟨by kernel_rfl, ?_⟩
                go_simp
                (obtain ⟨n, hr, hn⟩ := hsn.out wx; rw [hr]; exact ⟨(Only.refl _ _).drew, n, rfl, hn⟩)
              refine owes2_cons (fun wx hox => ?_) ?_
              · refine withs_guard rfl rfl ?_
                simp only [withs, List.getElem?_cons_zero, List.getElem?_cons_succ, Option.bind, Option.getD]
                repeat (first | (with_reducible refine all_isV ?_) | (with_reducible refine Fl.all_isNB ?_; intro nx hnx))
                have hord := hnx.out.ord 0
                refine ⟨by kernel_rfl, ?_⟩
                go_simp
                exact ⟨Only.refl _ _, isV.self _ _⟩
              refine owes2_cons (fun wx hox => ?_) ?_
              · skip
                skip
                refine withs_plain rfl ?_
                simp only [withs, List.getElem?_cons_zero, List.getElem?_cons_succ, Option.bind, Option.getD]
                repeat (first | (with_reducible refine all_isV ?_) | (with_reducible refine Fl.all_isNB ?_; intro nx hnx))
                go_simp
                exact ⟨Only.refl _ _, isV.self _ _⟩
              exact owes2_nil
            case he =>
              intro wx hox
              refine withs_of (by simp only [List.length, List.range, List.range.loop]; exact rfl) ?_
              simp only [withs, List.getElem?_cons_zero, List.getElem?_cons_succ, Option.bind, Option.getD]
              repeat (first | (with_reducible refine all_isV ?_) | (with_reducible refine Fl.all_isNB ?_; intro nx hnx))
              go_simp
              have hsz := hox.size
              go_wp2_with (at_builtin; refine wpList_append_lies _ rfl _ _ _ rfl 0 31 i0 _ 4 32 Tryd.underlying25 hi hz0 hz1 hz2 rfl (by decide) (.slice Au k uc) k (flat (treeVL kinds refs vals k)) rfl (by exact HRow.out (hox.alloc _)) ⟨wx.heap.size, 0, none⟩ 1 1 [.int .i64 0, .float .f64 4607182418800017408, .int .i64 0, .int .i64 0] rfl rfl (by exact news4 (heap_alloc_new _ _)) (by simp [Value.oneCell']) (by decide) (by simp only [maxLen]; omega) (by omega) (Nat.zero_le _) (wx.heap.size + 1) (by simp) ?_; intro g cap w3 hown3 hgr3 hat3 hlt3; have HT3 := Lib.hid (HT.out.push (hox.alloc _) ⟨0, 4607182418800017408, 0, 0⟩ HE.out hown3 hgr3 (hat3.imp id (fun e => by omega))); clear hown3 hgr3 hat3 hlt3)
              go_roundw
              case rel => exact ⟨k + 1, by omega, by go_num, HT3.out⟩
              case measure => simp [intOf]; omega
            case hl =>
              repeat (refine List.forall_mem_cons.2 ⟨?_, ?_⟩; first | exact isV.lasts _ | exact Fl.isNB.lasts)
              exact fun _ h => (by cases h)
        · have HE := Lib.hid (HMk.out (show leafN vals k = 4607182418800017408 by unfold leafN; rw [if_neg (fun h => hvl h.1)]))
          have hglt : decide (k < vals.length) = false := decide_eq_false hvl
          clear HMk
          go_wp2_with fail
          go_quiet (fail)
          go_wp2_with (at_builtin; refine wpList_append_lies _ rfl _ _ _ rfl 0 31 i0 _ 4 32 Tryd.underlying25 hi hz0 hz1 hz2 rfl (by decide) (.slice Au k uc) k (flat (treeVL kinds refs vals k)) rfl (by exact HRow.out (((Only.refl [] wr).drewN _).alloc _)) ⟨wr.heap.size, 0, none⟩ 1 1 [.int .i64 0, .float .f64 4607182418800017408, .int .i64 0, .int .i64 0] rfl rfl (by exact news4 (heap_alloc_new _ _)) (by simp [Value.oneCell']) (by decide) (by simp only [maxLen]; omega) (by omega) (Nat.zero_le _) (wr.heap.size + 1) (by simp) ?_; intro g cap w3 hown3 hgr3 hat3 hlt3; have HT3 := Lib.hid (HT.out.push (((Only.refl [] wr).drewN _).alloc _) ⟨0, 4607182418800017408, 0, 0⟩ HE.out hown3 hgr3 (hat3.imp id (fun e => by omega))); clear hown3 hgr3 hat3 hlt3)
          go_roundw
          case rel => exact ⟨k + 1, by omega, by go_num, HT3.out⟩
          case measure => simp [intOf]; omega
      · have g0 : ((k : Int) == 0) = false := by simp; omega
        have hk1 : 1 ≤ (k : Int) := by omega
        by_cases hX0 : X = 0
        · have HMk : Hid (∀ {v : Nat}, leafN vals k = v → (⟨0, v, 0, 0⟩ : Nd) = treeVN kinds refs vals k) := fun hv => treeVN_leaf HX.out (.inr (HX6.out.trans hX0)) hv
          subst hX0
          clear h0
          by_cases hvl : k < vals.length
          · obtain ⟨bv, ov, rfl, hcv⟩ := hV.out k hvl
            have hvb := hWd.out k hvl
            have HLf : Hid (leafN vals k = if finB (vals[k]?.getD 0) = true then vals[k]?.getD 0 else 4607182418800017408) := by
              show leafN vals k = _
              unfold leafN
              by_cases h : finB (vals[k]?.getD 0) = true
              · rw [if_pos ⟨hvl, h⟩, if_pos h]
              · rw [if_neg (fun h2 => h h2.2), if_neg h]
            have hglt : decide (k < vals.length) = true := decide_eq_true hvl
            have hlt2 : k < vals.length := hvl
            have HCV := Lib.hid (HT.out.2.2.cell hcv (by simp))
            clear hcv hvl
            generalize vals[k]?.getD 0 = v at HCV hvb HLf
            cases hfv : finB v with
            | true =>
              have HE := Lib.hid (HMk.out (HLf.out.trans (if_pos hfv)))
              have h00 : FloatKind.f64.format.order 0 0 = some .eq := by kernel_rfl
              have hsb : ∀ w : World, (binOp .sub 29 (.float .f64 v) (.float .f64 v)).run Tryd.prog w = .ok (.float .f64 0) w := fun w => run_float_arith w .sub 29 .f64 v v 0 (Fl.sub_self hvb hfv)
              clear HMk HLf hfv
              go_upto_region 8 with fail
              apply wp_region_typed2 (by kernel_rfl) [isV _, isV _, isV _, isV _, isV _, isV _, isV _, isV _, isV _, isV _, isV _, isV _, isV _, isV _, isV _, isV _] [[], [], [1], [0, 2], [3], [4], [4], [4, 5, 6], [4, 7], [4], [4], [4, 9, 10], [4, 11], [4, 8, 12], [4, 13], [4, 14]] (by kernel_rfl) (by kernel_rfl)
              case ho =>
                refine owes2_cons (fun wx hox => ?_) ?_
                · skip
                  skip
                  refine withs_plain rfl ?_
                  simp only [withs, List.getElem?_cons_zero, List.getElem?_cons_succ, Option.bind, Option.getD]
                  repeat (with_reducible refine all_isV ?_)
                  go_simp
                  exact ⟨Only.refl _ _, isV.self _ _⟩
                refine owes2_cons (fun wx hox => ?_) ?_
                · skip
                  skip
                  refine withs_plain rfl ?_
                  simp only [withs, List.getElem?_cons_zero, List.getElem?_cons_succ, Option.bind, Option.getD]
                  repeat (with_reducible refine all_isV ?_)
                  go_simp
                  exact ⟨Only.refl _ _, isV.self _ _⟩
                refine owes2_cons (fun wx hox => ?_) ?_
                · skip
                  skip
                  refine withs_plain rfl ?_
                  simp only [withs, List.getElem?_cons_zero, List.getElem?_cons_succ, Option.bind, Option.getD]
                  repeat (with_reducible refine all_isV ?_)
                  go_simp
                  exact ⟨Only.refl _ _, isV.self _ _⟩
                refine owes2_cons (fun wx hox => ?_) ?_
                · skip
                  skip
                  refine withs_plain rfl ?_
                  simp only [withs, List.getElem?_cons_zero, List.getElem?_cons_succ, Option.bind, Option.getD]
                  repeat (with_reducible refine all_isV ?_)
                  go_simp
                  exact ⟨Only.refl _ _, isV.self _ _⟩
                refine owes2_cons (fun wx hox => ?_) ?_
                · skip
                  skip
                  refine withs_plain rfl ?_
                  simp only [withs, List.getElem?_cons_zero, List.getElem?_cons_succ, Option.bind, Option.getD]
                  repeat (with_reducible refine all_isV ?_)
                  go_simp
                  exact ⟨Only.refl _ _, isV.self _ _⟩
                refine owes2_cons (fun wx hox => ?_) ?_
                · skip
                  skip
                  refine withs_guard rfl rfl ?_
                  simp only [withs, List.getElem?_cons_zero, List.getElem?_cons_succ, Option.bind, Option.getD]
                  repeat (with_reducible refine all_isV ?_)
                  refine ⟨by kernel_rfl, ?_⟩
                  go_simp
                  exact ⟨Only.refl _ _, isV.self _ _⟩
                refine owes2_cons (fun wx hox => ?_) ?_
                · skip
                  skip
                  refine withs_guard rfl rfl ?_
                  simp only [withs, List.getElem?_cons_zero, List.getElem?_cons_succ, Option.bind, Option.getD]
                  repeat (with_reducible refine all_isV ?_)
                  refine ⟨by kernel_rfl, ?_⟩
                  go_simp
                  exact ⟨Only.refl _ _, isV.self _ _⟩
                refine owes2_cons (fun wx hox => ?_) ?_
                · skip
                  skip
                  refine withs_guard rfl rfl ?_
                  simp only [withs, List.getElem?_cons_zero, List.getElem?_cons_succ, Option.bind, Option.getD]
                  repeat (with_reducible refine all_isV ?_)
                  refine ⟨by kernel_rfl, ?_⟩
                  go_simp
                  exact ⟨Only.refl _ _, isV.self _ _⟩
                refine owes2_cons (fun wx hox => ?_) ?_
                · skip
                  have hcv := hox.cell HCV.out (by simp)
                  refine withs_guard rfl rfl ?_
                  simp only [withs, List.getElem?_cons_zero, List.getElem?_cons_succ, Option.bind, Option.getD]
                  repeat (with_reducible refine all_isV ?_)
                  refine ⟨by kernel_rfl, ?_⟩
                  go_simp
                  exact ⟨Only.refl _ _, isV.self _ _⟩
                refine owes2_cons (fun wx hox => ?_) ?_
                · skip
                  skip
                  refine withs_guard rfl rfl ?_
                  simp only [withs, List.getElem?_cons_zero, List.getElem?_cons_succ, Option.bind, Option.getD]
                  repeat (with_reducible refine all_isV ?_)
                  refine ⟨by kernel_rfl, ?_⟩
                  go_simp
                  exact ⟨Only.refl _ _, isV.self _ _⟩
                refine owes2_cons (fun wx hox => ?_) ?_
                · skip
                  skip
                  refine withs_guard rfl rfl ?_
                  simp only [withs, List.getElem?_cons_zero, List.getElem?_cons_succ, Option.bind, Option.getD]
                  repeat (with_reducible refine all_isV ?_)
                  refine ⟨by kernel_rfl, ?_⟩
                  go_simp
                  exact ⟨Only.refl _ _, isV.self _ _⟩
                refine owes2_cons (fun wx hox => ?_) ?_
                · skip
                  skip
                  refine withs_guard rfl rfl ?_
                  simp only [withs, List.getElem?_cons_zero, List.getElem?_cons_succ, Option.bind, Option.getD]
                  repeat (with_reducible refine all_isV ?_)
                  refine ⟨by kernel_rfl, ?_⟩
                  go_simp
                  exact ⟨Only.refl _ _, isV.self _ _⟩
                refine owes2_cons (fun wx hox => ?_) ?_
                · skip
                  have hcv := hox.cell HCV.out (by simp)
                  refine withs_guard rfl rfl ?_
                  simp only [withs, List.getElem?_cons_zero, List.getElem?_cons_succ, Option.bind, Option.getD]
                  repeat (with_reducible refine all_isV ?_)
                  refine ⟨by kernel_rfl, ?_⟩
                  go_simp
                  exact ⟨Only.refl _ _, isV.self _ _⟩
                refine owes2_cons (fun wx hox => ?_) ?_
                · skip
                  skip
                  refine withs_guard rfl rfl ?_
                  simp only [withs, List.getElem?_cons_zero, List.getElem?_cons_succ, Option.bind, Option.getD]
                  repeat (with_reducible refine all_isV ?_)
                  refine ⟨by kernel_rfl, ?_⟩
                  go_simp
                  exact ⟨Only.refl _ _, isV.self _ _⟩
                refine owes2_cons (fun wx hox => ?_) ?_
                · skip
                  skip
                  refine withs_guard rfl rfl ?_
                  simp only [withs, List.getElem?_cons_zero, List.getElem?_cons_succ, Option.bind, Option.getD]
                  repeat (with_reducible refine all_isV ?_)
                  refine ⟨by kernel_rfl, ?_⟩
                  go_simp
                  exact ⟨Only.refl _ _, isV.self _ _⟩
                refine owes2_cons (fun wx hox => ?_) ?_
                · skip
                  skip
                  refine withs_plain rfl ?_
                  simp only [withs, List.getElem?_cons_zero, List.getElem?_cons_succ, Option.bind, Option.getD]
                  repeat (with_reducible refine all_isV ?_)
                  go_simp
                  exact ⟨Only.refl _ _, isV.self _ _⟩
                exact owes2_nil
              case he =>
                intro wx hox
                have hcv := hox.cell HCV.out (by simp)
                refine withs_of (by simp only [List.length, List.range, List.range.loop]; exact rfl) ?_
                simp only [withs, List.getElem?_cons_zero, List.getElem?_cons_succ, Option.bind, Option.getD]
                repeat (with_reducible refine all_isV ?_)
                go_simp
                have hsz := hox.size
                go_wp2_with (at_builtin; refine wpList_append_lies _ rfl _ _ _ rfl 0 31 i0 _ 4 32 Tryd.underlying25 hi hz0 hz1 hz2 rfl (by decide) (.slice Au k uc) k (flat (treeVL kinds refs vals k)) rfl (by exact HRow.out (hox.alloc _)) ⟨wx.heap.size, 0, none⟩ 1 1 [.int .i64 0, .float .f64 v, .int .i64 0, .int .i64 0] rfl rfl (by exact news4 (heap_alloc_new _ _)) (by simp [Value.oneCell']) (by decide) (by simp only [maxLen]; omega) (by omega) (Nat.zero_le _) (wx.heap.size + 1) (by simp) ?_; intro g cap w3 hown3 hgr3 hat3 hlt3; have HT3 := Lib.hid (HT.out.push (hox.alloc _) ⟨0, v, 0, 0⟩ HE.out hown3 hgr3 (hat3.imp id (fun e => by omega))); clear hown3 hgr3 hat3 hlt3)
                go_roundw
                case rel => exact ⟨k + 1, by omega, by go_num, HT3.out⟩
                case measure => simp [intOf]; omega
              case hl =>
                repeat (refine List.forall_mem_cons.2 ⟨?_, ?_⟩; first | exact isV.lasts _ | exact Fl.isNB.lasts)
                exact fun _ h => (by cases h)
            | false =>
              have HE := Lib.hid (HMk.out (HLf.out.trans (if_neg (by rw [hfv]; decide))))
              have hsn := Lib.hid (fun w => Fl.sub_none hvb hfv 29 Tryd.prog w)
              clear HMk HLf
              go_upto_region 8 with fail
              apply wp_region_typed2 (by kernel_rfl) [isV _, isV _, isV _, isV _, isV _, isV _, isV _, isV _, isV _, isV _, isV _, isV _, isV _, Fl.isNB, isV _, isV _] [[], [], [1], [0, 2], [3], [4], [4], [4, 5, 6], [4, 7], [4], [4], [4, 9, 10], [4, 11], [4, 8, 12], [4, 13], [4, 14]] (by kernel_rfl) (by kernel_rfl)
              case ho =>
                refine owes2_cons (fun wx hox => ?_) ?_
                · skip
                  skip
                  refine withs_plain rfl ?_
                  simp only [withs, List.getElem?_cons_zero, List.getElem?_cons_succ, Option.bind, Option.getD]
                  repeat (first | (with_reducible refine all_isV ?_) | (with_reducible refine Fl.all_isNB ?_; intro nx hnx))
                  go_simp
                  exact ⟨Only.refl _ _, isV.self _ _⟩
                refine owes2_cons (fun wx hox => ?_) ?_
                · skip
                  skip
                  refine withs_plain rfl ?_
                  simp only [withs, List.getElem?_cons_zero, List.getElem?_cons_succ, Option.bind, Option.getD]
                  repeat (first | (with_reducible refine all_isV ?_) | (with_reducible refine Fl.all_isNB ?_; intro nx hnx))
                  go_simp
                  exact ⟨Only.refl _ _, isV.self _ _⟩
                refine owes2_cons (fun wx hox => ?_) ?_
                · skip
                  skip
                  refine withs_plain rfl ?_
                  simp only [withs, List.getElem?_cons_zero, List.getElem?_cons_succ, Option.bind, Option.getD]
                  repeat (first | (with_reducible refine all_isV ?_) | (with_reducible refine Fl.all_isNB ?_; intro nx hnx))
                  go_simp
                  exact ⟨Only.refl _ _, isV.self _ _⟩
                refine owes2_cons (fun wx hox => ?_) ?_
                · skip
                  skip
                  refine withs_plain rfl ?_
                  simp only [withs, List.getElem?_cons_zero, List.getElem?_cons_succ, Option.bind, Option.getD]
                  repeat (first | (with_reducible refine all_isV ?_) | (with_reducible refine Fl.all_isNB ?_; intro nx hnx))
                  go_simp
                  exact ⟨Only.refl _ _, isV.self _ _⟩
                refine owes2_cons (fun wx hox => ?_) ?_
                · skip
                  skip
                  refine withs_plain rfl ?_
                  simp only [withs, List.getElem?_cons_zero, List.getElem?_cons_succ, Option.bind, Option.getD]
                  repeat (first | (with_reducible refine all_isV ?_) | (with_reducible refine Fl.all_isNB ?_; intro nx hnx))
                  go_simp
                  exact ⟨Only.refl _ _, isV.self _ _⟩
                refine owes2_cons (fun wx hox => ?_) ?_
                · skip
                  skip
                  refine withs_guard rfl rfl ?_
                  simp only [withs, List.getElem?_cons_zero, List.getElem?_cons_succ, Option.bind, Option.getD]
                  repeat (first | (with_reducible refine all_isV ?_) | (with_reducible refine Fl.all_isNB ?_; intro nx hnx))
                  refine ⟨by kernel_rfl, ?_⟩
                  go_simp
                  exact ⟨Only.refl _ _, isV.self _ _⟩
                refine owes2_cons (fun wx hox => ?_) ?_
                · skip
                  skip
                  refine withs_guard rfl rfl ?_
                  simp only [withs, List.getElem?_cons_zero, List.getElem?_cons_succ, Option.bind, Option.getD]
                  repeat (first | (with_reducible refine all_isV ?_) | (with_reducible refine Fl.all_isNB ?_; intro nx hnx))
                  refine ⟨by kernel_rfl, ?_⟩
                  go_simp
                  exact ⟨Only.refl _ _, isV.self _ _⟩
                refine owes2_cons (fun wx hox => ?_) ?_
                · skip
                  skip
                  refine withs_guard rfl rfl ?_
                  simp only [withs, List.getElem?_cons_zero, List.getElem?_cons_succ, Option.bind, Option.getD]
                  repeat (first | (with_reducible refine all_isV ?_) | (with_reducible refine Fl.all_isNB ?_; intro nx hnx))
                  refine ⟨by kernel_rfl, ?_⟩
                  go_simp
                  exact ⟨Only.refl _ _, isV.self _ _⟩
                refine owes2_cons (fun wx hox => ?_) ?_
                · skip
                  have hcv := hox.cell HCV.out (by simp)
                  refine withs_guard rfl rfl ?_
                  simp only [withs, List.getElem?_cons_zero, List.getElem?_cons_succ, Option.bind, Option.getD]
                  repeat (first | (with_reducible refine all_isV ?_) | (with_reducible refine Fl.all_isNB ?_; intro nx hnx))
                  refine ⟨by kernel_rfl, ?_⟩
                  go_simp
                  exact ⟨Only.refl _ _, isV.self _ _⟩
                refine owes2_cons (fun wx hox => ?_) ?_
                · skip
                  skip
                  refine withs_guard rfl rfl ?_
                  simp only [withs, List.getElem?_cons_zero, List.getElem?_cons_succ, Option.bind, Option.getD]
                  repeat (first | (with_reducible refine all_isV ?_) | (with_reducible refine Fl.all_isNB ?_; intro nx hnx))
                  refine ⟨by kernel_rfl, ?_⟩
                  go_simp
                  exact ⟨Only.refl _ _, isV.self _ _⟩
                refine owes2_cons (fun wx hox => ?_) ?_
                · skip
                  skip
                  refine withs_guard rfl rfl ?_
                  simp only [withs, List.getElem?_cons_zero, List.getElem?_cons_succ, Option.bind, Option.getD]
                  repeat (first | (with_reducible refine all_isV ?_) | (with_reducible refine Fl.all_isNB ?_; intro nx hnx))
                  refine ⟨by kernel_rfl, ?_⟩
                  go_simp
                  exact ⟨Only.refl _ _, isV.self _ _⟩
                refine owes2_cons (fun wx hox => ?_) ?_
                · skip
                  skip
                  refine withs_guard rfl rfl ?_
                  simp only [withs, List.getElem?_cons_zero, List.getElem?_cons_succ, Option.bind, Option.getD]
                  repeat (first | (with_reducible refine all_isV ?_) | (with_reducible refine Fl.all_isNB ?_; intro nx hnx))
                  refine ⟨by kernel_rfl, ?_⟩
                  go_simp
                  exact ⟨Only.refl _ _, isV.self _ _⟩
                refine owes2_cons (fun wx hox => ?_) ?_
                · skip
                  have hcv := hox.cell HCV.out (by simp)
                  refine withs_guard rfl rfl ?_
                  simp only [withs, List.getElem?_cons_zero, List.getElem?_cons_succ, Option.bind, Option.getD]
                  repeat (first | (with_reducible refine all_isV ?_) | (with_reducible refine Fl.all_isNB ?_; intro nx hnx))
                  refine ⟨by kernel_rfl, ?_⟩
                  go_simp
                  exact ⟨Only.refl _ _, isV.self _ _⟩
                refine owes2_cons (fun wx hox => ?_) ?_
                · skip
                  skip
                  refine withs_guard rfl rfl ?_
                  simp only [withs, List.getElem?_cons_zero, List.getElem?_cons_succ, Option.bind, Option.getD]
                  repeat (first | (with_reducible refine all_isV ?_) | (with_reducible refine Fl.all_isNB ?_; intro nx hnx))
                  refine ⟨by kernel_rfl, ?_⟩
                  go_simp
                  (obtain ⟨n, hr, hn⟩ := hsn.out wx; rw [hr]; exact ⟨(Only.refl _ _).drew, n, rfl, hn⟩)
                refine owes2_cons (fun wx hox => ?_) ?_
                · refine withs_guard rfl rfl ?_
                  simp only [withs, List.getElem?_cons_zero, List.getElem?_cons_succ, Option.bind, Option.getD]
                  repeat (first | (with_reducible refine all_isV ?_) | (with_reducible refine Fl.all_isNB ?_; intro nx hnx))
                  have hord := hnx.out.ord 0
                  refine ⟨by kernel_rfl, ?_⟩
                  go_simp
                  exact ⟨Only.refl _ _, isV.self _ _⟩
                refine owes2_cons (fun wx hox => ?_) ?_
                · skip
                  skip
                  refine withs_plain rfl ?_
                  simp only [withs, List.getElem?_cons_zero, List.getElem?_cons_succ, Option.bind, Option.getD]
                  repeat (first | (with_reducible refine all_isV ?_) | (with_reducible refine Fl.all_isNB ?_; intro nx hnx))
                  go_simp
                  exact ⟨Only.refl _ _, isV.self _ _⟩
                exact owes2_nil
              case he =>
                intro wx hox
                refine withs_of (by simp only [List.length, List.range, List.range.loop]; exact rfl) ?_
                simp only [withs, List.getElem?_cons_zero, List.getElem?_cons_succ, Option.bind, Option.getD]
                repeat (first | (with_reducible refine all_isV ?_) | (with_reducible refine Fl.all_isNB ?_; intro nx hnx))
                go_simp
                have hsz := hox.size
                go_wp2_with (at_builtin; refine wpList_append_lies _ rfl _ _ _ rfl 0 31 i0 _ 4 32 Tryd.underlying25 hi hz0 hz1 hz2 rfl (by decide) (.slice Au k uc) k (flat (treeVL kinds refs vals k)) rfl (by exact HRow.out (hox.alloc _)) ⟨wx.heap.size, 0, none⟩ 1 1 [.int .i64 0, .float .f64 4607182418800017408, .int .i64 0, .int .i64 0] rfl rfl (by exact news4 (heap_alloc_new _ _)) (by simp [Value.oneCell']) (by decide) (by simp only [maxLen]; omega) (by omega) (Nat.zero_le _) (wx.heap.size + 1) (by simp) ?_; intro g cap w3 hown3 hgr3 hat3 hlt3; have HT3 := Lib.hid (HT.out.push (hox.alloc _) ⟨0, 4607182418800017408, 0, 0⟩ HE.out hown3 hgr3 (hat3.imp id (fun e => by omega))); clear hown3 hgr3 hat3 hlt3)
                go_roundw
                case rel => exact ⟨k + 1, by omega, by go_num, HT3.out⟩
                case measure => simp [intOf]; omega
              case hl =>
                repeat (refine List.forall_mem_cons.2 ⟨?_, ?_⟩; first | exact isV.lasts _ | exact Fl.isNB.lasts)
                exact fun _ h => (by cases h)
          · have HE := Lib.hid (HMk.out (show leafN vals k = 4607182418800017408 by unfold leafN; rw [if_neg (fun h => hvl h.1)]))
            have hglt : decide (k < vals.length) = false := decide_eq_false hvl
            clear HMk
            go_wp2_with fail
            go_quiet (fail)
            go_wp2_with (at_builtin; refine wpList_append_lies _ rfl _ _ _ rfl 0 31 i0 _ 4 32 Tryd.underlying25 hi hz0 hz1 hz2 rfl (by decide) (.slice Au k uc) k (flat (treeVL kinds refs vals k)) rfl (by exact HRow.out (((Only.refl [] wr).drewN _).alloc _)) ⟨wr.heap.size, 0, none⟩ 1 1 [.int .i64 0, .float .f64 4607182418800017408, .int .i64 0, .int .i64 0] rfl rfl (by exact news4 (heap_alloc_new _ _)) (by simp [Value.oneCell']) (by decide) (by simp only [maxLen]; omega) (by omega) (Nat.zero_le _) (wr.heap.size + 1) (by simp) ?_; intro g cap w3 hown3 hgr3 hat3 hlt3; have HT3 := Lib.hid (HT.out.push (((Only.refl [] wr).drewN _).alloc _) ⟨0, 4607182418800017408, 0, 0⟩ HE.out hown3 hgr3 (hat3.imp id (fun e => by omega))); clear hown3 hgr3 hat3 hlt3)
            go_roundw
            case rel => exact ⟨k + 1, by omega, by go_num, HT3.out⟩
            case measure => simp [intOf]; omega
        · have HMid : Hid (∀ {a b : Int}, a = (if 2 * k < refs.length then (refs[2 * k]?.getD 0) % (k : Int) else 0) → b = (if 2 * k + 1 < refs.length ∧ X ≠ 5 then (refs[2 * k + 1]?.getD 0) % (k : Int) else 0) → (⟨X, 0, a, b⟩ : Nd) = treeVN kinds refs vals k) := fun ha hb => treeVN_mid HX.out HX6.out h0 hX0 ha hb
          have gX : (X == 0) = false := by simpa using hX0
          clear h0 hX0
          by_cases hr1 : 2 * k < refs.length
          · obtain ⟨b', o', rfl, c1⟩ := hB.out (2 * k) hr1
            have p1 := HT.out.2.2.cell c1 (by simp)
            have f1 := emod_of (refs[2 * k]?.getD 0) (k : Int)
            rw [Int.add_emod_right] at f1
            obtain ⟨t3, t4⟩ := tmod_bd (refs[2 * k]?.getD 0) (k : Int) (by omega)
            have hr1' : 2 * (k : Int) < (refs.length : Int) := by omega
            generalize refs[2 * k]?.getD 0 = y at p1 f1 t3 t4 HMid
            have p1' := ((Only.refl [] wr).alloc (.cells #[.int .i64 X, .float .f64 0, .int .i64 0, .int .i64 0] 31)).cell p1 (by simp)
            clear p1
            obtain ⟨ya, hya⟩ : ∃ ya, y % (k : Int) = ya := ⟨_, rfl⟩
            rw [hya] at f1 HMid
            clear c1 hya
            by_cases hr2 : 2 * k + 1 < refs.length
            · obtain ⟨b2', o2', e2, c2⟩ := hB.out (2 * k + 1) hr2
              injection e2 with e2
              injection e2 with e2 e3
              subst e2 e3
              have p2 := HT.out.2.2.cell c2 (by simp)
              have f2 := emod_of (refs[2 * k + 1]?.getD 0) (k : Int)
              rw [Int.add_emod_right] at f2
              obtain ⟨t5, t6⟩ := tmod_bd (refs[2 * k + 1]?.getD 0) (k : Int) (by omega)
              have hr2' : 2 * (k : Int) + 1 < (refs.length : Int) := by omega
              generalize refs[2 * k + 1]?.getD 0 = z at p2 f2 t5 t6 HMid
              obtain ⟨za, hza⟩ : ∃ za, z % (k : Int) = za := ⟨_, rfl⟩
              rw [hza] at f2 HMid
              clear c2 hza
              by_cases h5 : X = 5
              · have HE : Hid ((⟨X, 0, ya, 0⟩ : Nd) = treeVN kinds refs vals k) := HMid.out (by rw [if_pos hr1]) (by rw [if_neg (by simp [h5])])
                have g5 : (X == 5) = true := by simpa using h5
                clear h5 HMid hr1 hr2 p2
                go_wp2_with (at_builtin; refine wpList_append_lies _ rfl _ _ _ rfl 0 31 i0 _ 4 32 Tryd.underlying25 hi hz0 hz1 hz2 rfl (by decide) (.slice Au k uc) k (flat (treeVL kinds refs vals k)) rfl (by exact HRow.out (((Only.refl [] wr).alloc _).alloc _)) ⟨(wr.heap.size + 1), 0, none⟩ 1 1 [.int .i64 X, .float .f64 0, .int .i64 ya, .int .i64 0] rfl rfl (by exact news4_two _ _ _ _ _ _ _) (by simp [Value.oneCell']) (by decide) (by simp only [maxLen]; omega) (by omega) (Nat.zero_le _) ((wr.heap.size + 1) + 1) (by simp) ?_; intro g cap w3 hown3 hgr3 hat3 hlt3; have HT3 := Lib.hid (HT.out.push (((Only.refl [] wr).alloc _).alloc _) ⟨X, 0, ya, 0⟩ HE.out hown3 hgr3 (hat3.imp id (fun e => by omega))); clear hown3 hgr3 hat3 hlt3)
                go_roundw
                case rel => exact ⟨k + 1, by omega, by go_num, HT3.out⟩
                case measure => simp [intOf]; omega
              · have HE : Hid ((⟨X, 0, ya, za⟩ : Nd) = treeVN kinds refs vals k) := HMid.out (by rw [if_pos hr1]) (by rw [if_pos ⟨hr2, h5⟩])
                have g5 : (X == 5) = false := by simpa using h5
                have p2' := ((Only.refl [] wr).alloc (.cells #[.int .i64 X, .float .f64 0, .int .i64 ya, .int .i64 0] 31)).cell p2 (by simp)
                clear h5 HMid hr1 hr2 p2
                go_wp2_with (at_builtin; refine wpList_append_lies _ rfl _ _ _ rfl 0 31 i0 _ 4 32 Tryd.underlying25 hi hz0 hz1 hz2 rfl (by decide) (.slice Au k uc) k (flat (treeVL kinds refs vals k)) rfl (by exact HRow.out (((Only.refl [] wr).alloc _).alloc _)) ⟨(wr.heap.size + 1), 0, none⟩ 1 1 [.int .i64 X, .float .f64 0, .int .i64 ya, .int .i64 za] rfl rfl (by exact news4_two _ _ _ _ _ _ _) (by simp [Value.oneCell']) (by decide) (by simp only [maxLen]; omega) (by omega) (Nat.zero_le _) ((wr.heap.size + 1) + 1) (by simp) ?_; intro g cap w3 hown3 hgr3 hat3 hlt3; have HT3 := Lib.hid (HT.out.push (((Only.refl [] wr).alloc _).alloc _) ⟨X, 0, ya, za⟩ HE.out hown3 hgr3 (hat3.imp id (fun e => by omega))); clear hown3 hgr3 hat3 hlt3)
                go_roundw
                case rel => exact ⟨k + 1, by omega, by go_num, HT3.out⟩
                case measure => simp [intOf]; omega
            · have HE : Hid ((⟨X, 0, ya, 0⟩ : Nd) = treeVN kinds refs vals k) := HMid.out (by rw [if_pos hr1]) (by rw [if_neg (by simp [hr2])])
              have hr2' : ¬ 2 * (k : Int) + 1 < (refs.length : Int) := by omega
              clear HMid hr1 hr2
              go_wp2_with (at_builtin; refine wpList_append_lies _ rfl _ _ _ rfl 0 31 i0 _ 4 32 Tryd.underlying25 hi hz0 hz1 hz2 rfl (by decide) (.slice Au k uc) k (flat (treeVL kinds refs vals k)) rfl (by exact HRow.out (((Only.refl [] wr).alloc _).alloc _)) ⟨(wr.heap.size + 1), 0, none⟩ 1 1 [.int .i64 X, .float .f64 0, .int .i64 ya, .int .i64 0] rfl rfl (by exact news4_two _ _ _ _ _ _ _) (by simp [Value.oneCell']) (by decide) (by simp only [maxLen]; omega) (by omega) (Nat.zero_le _) ((wr.heap.size + 1) + 1) (by simp) ?_; intro g cap w3 hown3 hgr3 hat3 hlt3; have HT3 := Lib.hid (HT.out.push (((Only.refl [] wr).alloc _).alloc _) ⟨X, 0, ya, 0⟩ HE.out hown3 hgr3 (hat3.imp id (fun e => by omega))); clear hown3 hgr3 hat3 hlt3)
              go_roundw
              case rel => exact ⟨k + 1, by omega, by go_num, HT3.out⟩
              case measure => simp [intOf]; omega
          · have HE : Hid ((⟨X, 0, 0, 0⟩ : Nd) = treeVN kinds refs vals k) := HMid.out (by rw [if_neg hr1]) (by rw [if_neg (by omega)])
            have hr1' : ¬ 2 * (k : Int) < (refs.length : Int) := by omega
            have hr2' : ¬ 2 * (k : Int) + 1 < (refs.length : Int) := by omega
            clear HMid hr1
            go_wp2_with (at_builtin; refine wpList_append_lies _ rfl _ _ _ rfl 0 31 i0 _ 4 32 Tryd.underlying25 hi hz0 hz1 hz2 rfl (by decide) (.slice Au k uc) k (flat (treeVL kinds refs vals k)) rfl (by exact HRow.out (((Only.refl [] wr).alloc _).alloc _)) ⟨(wr.heap.size + 1), 0, none⟩ 1 1 [.int .i64 X, .float .f64 0, .int .i64 0, .int .i64 0] rfl rfl (by exact news4_two _ _ _ _ _ _ _) (by simp [Value.oneCell']) (by decide) (by simp only [maxLen]; omega) (by omega) (Nat.zero_le _) ((wr.heap.size + 1) + 1) (by simp) ?_; intro g cap w3 hown3 hgr3 hat3 hlt3; have HT3 := Lib.hid (HT.out.push (((Only.refl [] wr).alloc _).alloc _) ⟨X, 0, 0, 0⟩ HE.out hown3 hgr3 (hat3.imp id (fun e => by omega))); clear hown3 hgr3 hat3 hlt3)
            go_roundw
            case rel => exact ⟨k + 1, by omega, by go_num, HT3.out⟩
            case measure => simp [intOf]; omega
    · have e : k = kinds.length := by omega
      have hnl : ¬ (k : Int) < (kinds.length : Int) := by omega
      have HK := Lib.hid e
      clear e
      go_wp2_with fail
      go_ret
      exact ⟨_, rfl, HK.out ▸ HT.out⟩
end Go.Proofs.YtigpnopeacicpaaDoor
