/-
  walk.Below: the walk.
-/
import Derived.Test.YtigpnopeacicpaaDoorTaGBel
import Derived.Test.YtigpnopeacicpaaDoorTaNode
import Derived.Test.YtigpnopeacicpaaDoorTaSortI
namespace Go.Proofs.YtigpnopeacicpaaDoor
open Go.RowKit
attribute [local go_sem] run_store_float

abbrev nilI : Value := .slice none 0 0
theorem srch_start (ns : List Nd) (R : Int → Prop) (w : World) :
    Srch ns R w (((w.alloc (.cells #[nilI] 22)).alloc (.map #[] 0)).alloc (.cells #[.map (some (w.heap.size + 1))] 110)) (w.heap.size + 1 + 1) (w.heap.size + 1) w.heap.size nilI [] (fun _ => False) := by
  have e1 : (w.alloc (.cells #[nilI] 22)).heap.size = w.heap.size + 1 := World.size_alloc w _
  have e2 : ((w.alloc (.cells #[nilI] 22)).alloc (.map #[] 0)).heap.size = w.heap.size + 1 + 1 := by rw [World.size_alloc, e1]
  have hv := Blk.new ((w.alloc (.cells #[nilI] 22)).alloc (.map #[] 0)) 110 [.map (some (w.heap.size + 1))]
  rw [e2] at hv
  have hm := MapI.made (w.alloc (.cells #[nilI] 22))
  rw [e1] at hm
  refine ⟨0, fun _ => none, nilI, [], ⟨hv, hm.only ((Only.refl [] _).alloc _) (by simp), ((Blk.new w 22 [nilI]).alloc _).alloc _, World.ownsRow_nil _ _ _ _, World.ownsRow_nil _ _ _ _, ?_, by omega, by omega, by omega, ?_, ?_, (((Only.refl _ _).alloc _).alloc _).alloc _⟩, fun _ => .inl rfl, ⟨by simp, fun x => by simp [Met], fun x hx => by simp at hx⟩, rfl, fun y hy => hy.elim⟩
  · intro g hg; simp [Value.ownBlock] at hg
  · intro g hg; simp [Value.ownBlock] at hg
  · intro g hg; simp [Value.ownBlock] at hg

theorem ints_form {w : World} {u : Value} {S : List Int} (h : IntsAt w u S) (hn : 0 < S.length) : ∃ g c, u = .slice (some ⟨g, 0, none⟩) S.length c ∧ S.length ≤ c ∧ c ≤ maxLen ∧ ∀ k, k < S.length → w.cell? ⟨g, k, none⟩ = some (.int .i64 (S[k]?.getD 0)) := by
  rcases h.2 with ⟨_, h0⟩ | ⟨g, cap, cur, rfl, _, hg, hn', hm, _⟩
  · omega
  · refine ⟨g, cap, rfl, hn', hm, fun k hk => ?_⟩
    have hc := World.ownsRow.cells h (g := g) rfl
    have h1 := hc k (.int .i64 (S[k]?.getD 0)) (by simp [ints, hk])
    rw [addr_add, Nat.zero_add] at h1
    exact h1

/-- What has been met, beside the roots: the operands of all that have been found. -/
def Need (ns : List Nd) (xs F : List Int) (y : Int) : Prop := (y ∈ xs ∧ 0 ≤ y ∧ y < ns.length) ∨ ∃ z ∈ F, y ∈ kids (nodeAt ns z)
theorem need_next {ns : List Nd} {xs F : List Int} {x y : Int} (h : Need ns xs (F ++ [x]) y) : Need ns xs F y ∨ y ∈ kids (nodeAt ns x) := by
  rcases h with h | ⟨z, hz, hy⟩
  · exact .inl (.inl h)
  · rcases List.mem_append.1 hz with hz | hz
    · exact .inl (.inr ⟨z, hz, hy⟩)
    · have e : z = x := by simpa using hz
      exact .inr (e ▸ hy)

def lenV : Value → Nat
  | .slice _ n _ => n
  | _ => 0

set_option maxHeartbeats 3200000 in
set_option maxRecDepth 100000 in
theorem below_any (d : Nat) (v : Value) (r : Option Nat) (ns : List Nd) (xs : List Int) (A : Option Addr) (c : Nat) (w : World) (hd : DagIs w d v r ns) (ok : OkDag ns) (hns : ns.length ≤ 20000) (hA : Hid (IRead w A xs)) (hxs : (xs.length : Int) ≤ 1000) :
    Calls Tryd.prog 43 #[.pointer (some ⟨d, 0, none⟩), .slice A xs.length c] w fun e w' => ∃ u, e = .returned u ∧ IntsAt w' u (belowL ns (· ∈ xs)) ∧ (∀ g, u.ownBlock = some g → w.heap.size ≤ g) ∧ Only [] w w' := by
  obtain ⟨i0, hi, hz0, hz1, hz2⟩ := int_parts
  have hmf : ∀ (fn : Fn) (first cap : Array Value) (w : World), (Instr.makeFunc fn first cap).run Tryd.prog w = .ok (.func fn first cap) w := fun _ _ _ _ => rfl
  have hmm := @run_makeMap Tryd.prog
  have HD := Lib.hid hd
  have HOk := Lib.hid ok
  have HNs := Lib.hid hns
  have S0 := Lib.hid (srch_start ns (· ∈ xs) w)
  clear hd ok hns
  go_enter Tryd.func43, Tryd.ntmps43
  go_wp2_with fail
  clear hmf hmm
  generalize w.heap.size + 1 + 1 = vb at S0 ⊢
  generalize w.heap.size + 1 = m at S0 ⊢
  generalize w.heap.size = sb at S0 ⊢
  go_loopw [24] (fun i wr => ∃ k : Nat, k ≤ xs.length ∧ i = .int .i64 (k : Int) ∧ Srch ns (· ∈ xs) w wr vb m sb nilI [] (fun y => (∃ j, j < k ∧ y = xs[j]?.getD 0) ∧ 0 ≤ y ∧ y < ns.length)) (fun i _ => xs.length - (intOf i).toNat)
  case atStart => exact ⟨0, Nat.zero_le _, rfl, S0.out.weak (fun y hy => by obtain ⟨⟨j, hj, _⟩, _⟩ := hy; omega)⟩
  case round =>
    obtain ⟨k, hk, rfl, hS⟩ := hrel
    have HS := Lib.hid hS
    clear hS S0
    by_cases hlt : k < xs.length
    · obtain ⟨b, o, rfl, hc⟩ := hA.out k hlt
      have cx := HS.out.only.cell hc (by simp)
      have HX : Hid (xs[k]?.getD 0 ∈ xs) := by
        show _ ∈ _
        rw [List.getElem?_eq_getElem hlt]
        exact List.getElem_mem hlt
      have HStep : Hid (∀ y, ((∃ j, j < k + 1 ∧ y = xs[j]?.getD 0) ∧ 0 ≤ y ∧ y < ns.length) → (((∃ j, j < k ∧ y = xs[j]?.getD 0) ∧ 0 ≤ y ∧ y < ns.length) ∨ (y = xs[k]?.getD 0 ∧ 0 ≤ y ∧ y < ns.length))) := by
        rintro y ⟨⟨j, hj, hy⟩, h0⟩
        by_cases e : j = k
        · exact .inr ⟨e ▸ hy, h0⟩
        · exact .inl ⟨⟨j, by omega, hy⟩, h0⟩
      clear hc
      generalize xs[k]?.getD 0 = x at cx HX HStep
      have hk' : (k : Int) < (xs.length : Int) := by omega
      have HDr := Lib.hid (HD.out.only HS.out.only (by simp))
      by_cases hin : 0 ≤ x ∧ x < (ns.length : Int)
      · obtain ⟨a, rfl⟩ : ∃ a : Nat, x = (a : Int) := ⟨x.toNat, by omega⟩
        have ha : a < ns.length := by omega
        go_wp2_with fail
        refine (dnode_in d v r ns a wr HDr.out ha).mono ?_
        rintro e w2 ⟨rfl, ho2⟩
        have HS2 := Lib.hid (HS.out.nil ho2)
        clear ho2 HS HDr cx
        generalize ns[a]?.getD nd0 = n
        obtain ⟨nk, nf, na, nb⟩ := n
        simp only [Nd.val]
        go_wp2_with fail
        have HS3 := Lib.hid (HS2.out.nil ((Only.refl [] w2).alloc (.cells #[.int .i64 nk, .float .f64 nf, .int .i64 na, .int .i64 nb] 31)))
        refine (visit_srch HOk.out HNs.out HS3.out (Reach.root (a : Int) HX.out hin.1 hin.2)).mono ?_
        rintro e w4 ⟨rfl, -, hS4⟩
        have HS4 := Lib.hid hS4
        clear hS4 HS2 HS3
        go_wp2_with fail
        go_roundw
        case rel => exact ⟨k + 1, by omega, by go_num, HS4.out.weak (fun y hy => by
          rcases HStep.out y hy with h | h
          · exact .inl h
          · exact .inr h.1)⟩
        case measure => simp [intOf]; omega
      · have hout : hasB ns.length x = false := by simp [hasB]; omega
        go_wp2_with fail
        refine (dnode_out d v r ns x wr HDr.out hout).mono ?_
        rintro e w2 ⟨rfl, ho2⟩
        have HS2 := Lib.hid (HS.out.nil ho2)
        clear ho2 HS HDr cx
        simp only [Nd.val, nd0]
        go_wp2_with fail
        have HS3 := Lib.hid (HS2.out.nil ((Only.refl [] w2).alloc (.cells #[.int .i64 0, .float .f64 0, .int .i64 0, .int .i64 0] 31)))
        go_roundw
        case rel => exact ⟨k + 1, by omega, by go_num, HS3.out.weak (fun y hy => by
          rcases HStep.out y hy with h | h
          · exact h
          · obtain ⟨rfl, h1, h2⟩ := h
            exact absurd ⟨h1, h2⟩ hin)⟩
        case measure => simp [intOf]; omega
    · have hnl : ¬ (k : Int) < (xs.length : Int) := by omega
      have HS1 : Hid (Srch ns (· ∈ xs) w wr vb m sb nilI [] (Need ns xs [])) := HS.out.weak (fun y hy => by
        rcases hy with ⟨hy, h0⟩ | ⟨z, hz, _⟩
        · obtain ⟨j, hj, rfl⟩ := List.getElem_of_mem hy
          exact ⟨⟨j, by omega, by rw [List.getElem?_eq_getElem hj]; rfl⟩, h0⟩
        · simp at hz)
      clear HS
      go_wp2_with fail
      go_loopw [5] (fun fv wq => ∃ F, Srch ns (· ∈ xs) w wq vb m sb fv F (Need ns xs F)) (fun fv _ => ns.length - lenV fv)
      case atStart => exact ⟨[], HS1.out⟩
      case round =>
        obtain ⟨F, nn, f, sv, S, hB, h01, hD, hnn, hneed⟩ := hrel
        clear HS1
        have HB := Lib.hid hB
        have H01 := Lib.hid h01
        have HDf := Lib.hid hD
        have HNn := Lib.hid hnn
        have HNeed := Lib.hid hneed
        have hlen := hD.len HOk.out
        obtain ⟨Af, cf, rfl, -⟩ := hB.f.shape
        rcases List.eq_nil_or_concat S with rfl | ⟨S', x, rfl⟩
        · obtain ⟨As, cs, rfl, -⟩ := hB.s.shape
          have cstk : wr.cell? ⟨sb, 0, none⟩ = some (.slice As 0 cs) := hB.stk.cell 0
          have HFin : Hid ((F.mergeSort fun x y => decide (x ≤ y)) = belowL ns (· ∈ xs)) := dfs_done HOk.out hD (fun x hx y hy => hneed y (.inr ⟨x, hx, hy⟩)) (fun x hx h0 h1 => hneed x (.inl ⟨hx, h0, h1⟩))
          have HL : Hid (F.length ≤ 1000000) := by
            have := HNs.out
            show _ ≤ _
            simp at hlen
            omega
          clear hB h01 hD hnn hneed hlen HDf HNn HNeed H01
          go_wp2_with fail
          refine (sort_any wr (.slice Af F.length cf) F HB.out.f HL.out).mono ?_
          rintro e w5 ⟨rfl, hs5, ho5⟩
          have HS5 := Lib.hid hs5
          have HO5 := Lib.hid ho5
          clear hs5 ho5
          go_wp2_with fail
          go_returns
          refine ⟨_, rfl, HFin.out ▸ HS5.out, fun g hg => HB.out.ffv g hg, HB.out.only.trans HO5.out (fun k hk => .inr (HB.out.ffv k (by simpa using hk)))⟩
        · rw [List.concat_eq_append] at *
          obtain ⟨gs, cs, rfl, hsc, hsm, hcell⟩ := ints_form hB.s (by simp)
          have hx := hcell S'.length (by simp)
          rw [show (S' ++ [x])[S'.length]?.getD 0 = x by simp] at hx
          have hpre := ints_prefix hB.s
          have cstk : wr.cell? ⟨sb, 0, none⟩ = some (.slice (some ⟨gs, 0, none⟩) (S' ++ [x]).length cs) := hB.stk.cell 0
          have fstk := hB.stk.frozen 0
          have hrx := hD.r x (by simp)
          have hrg := hrx.range HOk.out
          have HRx := Lib.hid hrx
          rw [List.length_append, List.length_singleton] at cstk hsc hlen
          have HPop := Lib.hid (hB.stack (sv' := .slice (some ⟨gs, 0, none⟩) S'.length cs) hpre (fun g hg => hB.ap g hg) (fun g hg => hB.fsv g hg))
          clear hB h01 hD hnn hneed hcell hpre hrx
          have HLen : Hid (F.length + (S'.length + 1) ≤ ns.length) := hlen
          clear hlen
          obtain ⟨a, rfl⟩ : ∃ a : Nat, x = (a : Int) := ⟨x.toNat, by omega⟩
          have ha : a < ns.length := by omega
          have hq : (S'.length : Int) ≤ 20000 := by have := HLen.out; have := HNs.out; omega
          have hsc' : S'.length ≤ cs := by omega
          have hsz : (wr.setCell ⟨sb, 0, none⟩ (.slice (some ⟨gs, 0, none⟩) S'.length cs)).heap.size = wr.heap.size := by simp [World.setCell]
          have HSz := Lib.hid hsz
          clear hrg hsz
          go_wp2_with (at_builtin; refine wpList_append_lies _ rfl _ _ _ rfl 0 3 i0 _ 1 8 Tryd.underlying22 hi hz0 hz1 hz2 rfl (by decide) (.slice Af F.length cf) F.length (ints F) rfl (by exact HPop.out.f.alloc _) ⟨wr.heap.size, 0, none⟩ 1 1 [.int .i64 (a : Int)] rfl rfl (by intro j u hu; have h1 := cell_one_new (wr.setCell ⟨sb, 0, none⟩ (.slice (some ⟨gs, 0, none⟩) S'.length cs)) (.int .i64 (a : Int)) 3 j u hu; rw [HSz.out] at h1; exact h1) (by simp [Value.oneCell']) (by decide) (by have := HLen.out; have := HNs.out; simp only [maxLen]; omega) (by have := HLen.out; have := HNs.out; omega) (Nat.zero_le _) (wr.heap.size + 1) (by rw [World.size_alloc, HSz.out]) ?_; intro g cap w3 hown2 hgr2 hat2 hlt2; have HS3 : Hid (Srch ns (· ∈ xs) w w3 vb m sb (.slice (some ⟨g, 0, none⟩) (F.length + 1) cap) (F ++ [(a : Int)]) (Need ns xs F)) := ⟨nn, f, _, S', HPop.out.grow_f hown2 hgr2 (by rw [HSz.out]; exact hat2), H01.out, HDf.out.pop, by have := HNn.out; simp at this ⊢; omega, HNeed.out⟩; clear hown2 hgr2 hat2 hlt2)
          clear hx cstk fstk HPop HDf HNn HB H01 HNeed hsc hsm hq hsc' HSz
          have HDr := Lib.hid (HD.out.only HS3.out.only (by simp))
          refine (dnode_in d v r ns a w3 HDr.out ha).mono ?_
          rintro e w4 ⟨rfl, ho4⟩
          have HS4 := Lib.hid (HS3.out.nil ho4)
          have HK : Hid (kids (nodeAt ns (a : Int)) = kids (ns[a]?.getD nd0)) := rfl
          clear ho4 HS3 HDr
          generalize ns[a]?.getD nd0 = n at HK ⊢
          obtain ⟨nk, nf, na, nb⟩ := n
          simp only [Nd.val]
          have HS5 := Lib.hid (HS4.out.nil ((Only.refl [] w4).alloc (.cells #[.int .i64 nk, .float .f64 nf, .int .i64 na, .int .i64 nb] 31)))
          clear HS4
          by_cases h0 : nk = 0
          · subst h0
            have HKids : Hid (∀ y ∈ kids (nodeAt ns (a : Int)), False) := by
              show ∀ y ∈ _, False
              rw [HK.out]
              simp [kids]
            go_wp2_with fail
            refine (parts_leaf nf na nb _).mono ?_
            rintro e w6 ⟨rfl, ho6⟩
            have HS7 := Lib.hid ((HS5.out.nil ho6).nil ((Only.refl [] w6).alloc (.cells #[.int .i64 0, .int .i64 0] 122)))
            clear HS5 ho6
            go_wp2_with fail
            refine wp_loop_rounds 1 ?_
            rw [rounds_succ]
            go_wp2_with fail
            go_roundw
            case rel => exact ⟨F ++ [(a : Int)], HS7.out.weak (fun y hy => by
              rcases need_next hy with h | h
              · first | exact h | exact .inl h | exact .inl (.inl h)
              · exact (HKids.out y h).elim)⟩
            case measure => have := HLen.out; simp [lenV]; omega
          · by_cases h5 : nk = 5
            · subst h5
              have HKids : Hid (kids (nodeAt ns (a : Int)) = [na]) := by
                show _ = _
                rw [HK.out]
                simp [kids]
              go_wp2_with fail
              refine (parts_root nf na nb _).mono ?_
              rintro e w6 ⟨rfl, ho6⟩
              have HS7 := Lib.hid ((HS5.out.nil ho6).nil ((Only.refl [] w6).alloc (.cells #[.int .i64 na, .int .i64 0] 122)))
              have c0 := (Blk.new w6 122 [.int .i64 na, .int .i64 0]).cell 0
              simp only [List.getElem?_cons_zero] at c0
              clear HS5 ho6
              go_wp2_with fail
              refine wp_loop_rounds 2 ?_
              rw [rounds_succ]
              go_wp2_with fail
              refine (visit_srch HOk.out HNs.out HS7.out (Reach.kid (a : Int) na HRx.out (by rw [HKids.out]; simp))).mono ?_
              rintro e w8 ⟨rfl, hK8, hS8⟩
              have HS8 := Lib.hid hS8
              clear hS8 HS7 c0 hK8
              go_wp2_with fail
              rw [rounds_succ]
              go_wp2_with fail
              go_roundw
              case rel => exact ⟨F ++ [(a : Int)], HS8.out.weak (fun y hy => by
                rcases need_next hy with h | h
                · first | exact h | exact .inl h | exact .inl (.inl h)
                · (rw [HKids.out] at h; exact .inr (by simpa using h)))⟩
              case measure => have := HLen.out; simp [lenV]; omega
            · have HKids : Hid (kids (nodeAt ns (a : Int)) = [na, nb]) := by
                show _ = _
                rw [HK.out]
                simp [kids, h0, h5]
              have g0 : (nk == 0) = false := by simpa using h0
              have g5 : (nk == 5) = false := by simpa using h5
              clear h0 h5
              go_wp2_with fail
              refine (parts_two nk nf na nb _ g0 g5).mono ?_
              rintro e w6 ⟨rfl, ho6⟩
              have HS7 := Lib.hid ((HS5.out.nil ho6).nil ((Only.refl [] w6).alloc (.cells #[.int .i64 na, .int .i64 nb] 122)))
              have HB6 := Lib.hid (Blk.new w6 122 [.int .i64 na, .int .i64 nb])
              have c0 := HB6.out.cell 0
              simp only [List.getElem?_cons_zero] at c0
              clear HS5 ho6
              go_wp2_with fail
              refine wp_loop_rounds 3 ?_
              rw [rounds_succ]
              go_wp2_with fail
              refine (visit_srch HOk.out HNs.out HS7.out (Reach.kid (a : Int) na HRx.out (by rw [HKids.out]; simp))).mono ?_
              rintro e w8 ⟨rfl, hK8, hS8⟩
              have HS8 := Lib.hid hS8
              have HB8 := Lib.hid (hK8 _ _ HB6.out)
              have c1 := HB8.out.cell 1
              simp only [List.getElem?_cons_succ, List.getElem?_cons_zero] at c1
              clear hS8 HS7 c0 hK8 HB6
              go_wp2_with fail
              rw [rounds_succ]
              go_wp2_with fail
              refine (visit_srch HOk.out HNs.out HS8.out (Reach.kid (a : Int) nb HRx.out (by rw [HKids.out]; simp))).mono ?_
              rintro e w9 ⟨rfl, hK9, hS9⟩
              have HS9 := Lib.hid hS9
              clear hS9 HS8 c1 hK9 HB8
              go_wp2_with fail
              rw [rounds_succ]
              go_wp2_with fail
              go_roundw
              case rel => exact ⟨F ++ [(a : Int)], HS9.out.weak (fun y hy => by
                rcases need_next hy with h | h
                · first | exact h | exact .inl h | exact .inl (.inl h)
                · (rw [HKids.out] at h; simp at h; rcases h with h | h; exact .inl (.inr h); exact .inr h))⟩
              case measure => have := HLen.out; simp [lenV]; omega
end Go.Proofs.YtigpnopeacicpaaDoor
