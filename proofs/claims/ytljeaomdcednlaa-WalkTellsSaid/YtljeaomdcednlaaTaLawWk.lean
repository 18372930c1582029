/-
  WalkTells: the law's walk.
-/
import Derived.Test.YtljeaomdcednlaaTaTree
import Derived.Test.YtljeaomdcednlaaTaWkT
import Derived.Test.YtljeaomdcednlaaTaMapK
import Derived.Test.YtljeaomdcednlaaTaKpI
import Derived.Test.YtljeaomdcednlaaTaDepth
import Derived.Test.YtljeaomdcednlaaTaIntsIn
namespace Go.Proofs.Ytljeaomdcednlaa
open Go.RowKit
attribute [local go_sem] run_store_float

theorem IntsIn.read {w : World} {A : Option Addr} {L : List Int} (h : IntsIn w A L) : IRead w A L := fun k hk => by
  obtain ⟨b, o, e, hc⟩ := h k hk
  exact ⟨b, o, e, hc k hk⟩
set_option maxRecDepth 100000 in
theorem wtells_out (A B R : Option Addr) (n c m c' p cR : Nat) (at_ : Int) (w : World) (h : 100 < (n : Int) ∨ ((n : Int) ≤ 100 ∧ 300 < (m : Int)) ∨ ((n : Int) ≤ 100 ∧ (m : Int) ≤ 300 ∧ 12 < (p : Int))) :
    Calls Try.prog 3 #[.slice A n c, .slice B m c', .slice R p cR, .int .i64 at_] w fun e w' => e = .returned (.bool true) ∧ Only [] w w' := by
  rcases h with h | ⟨h, h0⟩ | ⟨h, h0, h2⟩
  all_goals
    go_enter Try.func3, Try.ntmps3
    go_wp2_with fail
    refine (alive10_any w).mono ?_
    rintro e w1 ⟨rfl, ho⟩
    have HO := Lib.hid ho
    clear ho
    go_wp2_with fail
    go_ret
    exact ⟨rfl, HO.out⟩

/-- Depth of what is not there. -/
theorem ints_set (xs : List Int) (i : Nat) (v : Int) : (ints xs).set i (.int .i64 v) = ints (xs.set i v) := by simp [ints, List.map_set]

set_option maxHeartbeats 12800000 in
set_option maxRecDepth 100000 in
theorem wtells_in (A B R : Option Addr) (c c' p cR : Nat) (kinds refs rs : List Int) (at_ : Int) (w : World) (hA : Hid (IRead w A kinds)) (hB : Hid (IRead w B refs)) (hR : Hid (IRead w R rs)) (hp : Hid (p = rs.length)) (hk : (kinds.length : Int) ≤ 100) (hr : (refs.length : Int) ≤ 300) (hp12 : (p : Int) ≤ 12)
    (HDep : Hid (∀ (d : Nat) (v : Value) (ns : List Nd) (W : World), DagIs W d v none ns → OkDag ns → ns.length ≤ 20000 → Calls Try.prog 13 #[.pointer (some ⟨d, 0, none⟩), .int .i64 at_] W fun e w' => e = .returned (.int .i64 (depOf ns at_)) ∧ Only [] W w')) :
    Calls Try.prog 3 #[.slice A kinds.length c, .slice B refs.length c', .slice R p cR, .int .i64 at_] w fun e w' => e = .returned (.bool true) ∧ Only [] w w' := by
  obtain ⟨i0, hi, hz0, hz1, hz2⟩ := int_parts
  have hmm := @run_makeMap Try.prog
  go_enter Try.func3, Try.ntmps3
  go_wp2_with fail
  refine (alive10_any w).mono ?_
  rintro e w1 ⟨rfl, ho1⟩
  have HO1 := Lib.hid ho1
  clear ho1
  go_wp2_with fail
  refine (tree_any A B c c' kinds refs w1 (hA.out.only HO1.out) (hB.out.only HO1.out) (by omega) (by omega)).mono ?_
  rintro e w2 ⟨u, rfl, hT⟩
  have HT := Lib.hid hT
  obtain ⟨Au, cu, rfl, -, -, -⟩ := hT.1.shape
  rw [treeL_len]
  clear hT
  go_wp2_with fail
  have HNR : Hid (NRead w2 Au (treeL kinds refs kinds.length)) := (HT.out.1.read).2
  have HAll : Hid (AllOk (treeL kinds refs kinds.length)) := treeL_ok kinds refs kinds.length (by omega)
  have HBits : Hid (∀ k, k < (treeL kinds refs kinds.length).length → ((treeL kinds refs kinds.length)[k]?.getD nd0).f < 2 ^ 64) := fun k hk => by
    rw [treeL_len] at hk
    rw [treeL_get _ _ _ _ hk]
    exact treeN_bits kinds refs k
  have HLd := Lib.hid (load10_any Au cu (treeL kinds refs kinds.length) w2 HNR HBits (by rw [treeL_len]; omega) HAll)
  have HLen : Hid ((treeL kinds refs kinds.length).length = kinds.length) := treeL_len _ _ _
  generalize treeL kinds refs kinds.length = ns at HNR HAll HLd HLen HT ⊢
  rw [HLen.out] at HLd
  refine HLd.out.mono ?_
  rintro e w3 ⟨d, v, rfl, hown⟩
  have HOwn := Lib.hid hown
  clear hown HLd HBits
  have HW3 : Hid (Only [] w w3) := HO1.out.nil_trans (HT.out.2.2.nil_trans HOwn.out.only)
  have HNR3 : Hid (NRead w3 Au ns) := HNR.out.only HOwn.out.only
  clear HT HO1 hA hB HNR
  obtain ⟨n, hn⟩ : ∃ n, kinds.length = n := ⟨_, rfl⟩
  rw [hn] at HLen hk
  rw [hn]
  clear hn
  have HOk : Hid (OkDag ns) := ok_dag HAll.out
  have HNs : Hid (ns.length ≤ 20000) := by show _ ≤ _; rw [HLen.out]; omega
  have HD : Hid (DagIs w3 d v none ns) := HOwn.out.is
  have HRB : Hid (∀ (root : Int) (W : World), Only [] w3 W → Calls Try.prog 8 #[.slice Au n cu, .int .i64 root] W fun e w' => ∃ u, e = .returned u ∧ IntsAt w' u (belowOf ns root) ∧ (∀ g, u.ownBlock = some g → W.heap.size ≤ g) ∧ Only [] W w') := fun root W ho => by
    have h := rbelow_any Au cu ns root W (Lib.hid (HNR3.out.only ho)) HOk (by have := HNs.out; omega)
    rw [HLen.out] at h
    exact h
  have HRR : Hid (∀ (root : Int) (W : World), Only [] w3 W → Calls Try.prog 15 #[.slice Au n cu, .int .i64 root] W fun e w' => e = .returned (.int .i64 (rootsL ns (belowOf ns root) : Int)) ∧ Only [] W w') := fun root W ho => by
    have h := rroots_any Au cu ns root W (Lib.hid (HNR3.out.only ho)) HOk (by have := HNs.out; omega)
    rw [HLen.out] at h
    exact h
  have HNlt : Hid (∀ x : Nat, x < n → ∃ b o, Au = some ⟨b, o, none⟩ ∧ Cells4 w3 b (o + x * 4) (nodeAt ns (x : Int))) := fun x hx => by
    obtain ⟨b, o, h1, h2⟩ := HNR3.out x (by rw [HLen.out]; exact hx)
    refine ⟨b, o, h1, ?_⟩
    have e : nodeAt ns (x : Int) = ns[x]?.getD nd0 := by unfold nodeAt; rw [Int.toNat_natCast]; rfl
    rw [e]
    exact h2
  clear HAll HOwn HNR3
  go_wp2_with fail
  refine (lentInts_any R p cR rs w3 (Lib.hid (hR.out.only HW3.out)) hp (by omega)).mono ?_
  rintro e w5 ⟨gL, cL, rfl, hL, -, ho⟩
  have HLn := Lib.hid hL
  have HO35 := Lib.hid ho
  clear hL ho
  go_upto_region 9 with fail
  have HBk0 : Hid (Blk (w5.alloc (.cells #[.slice none 0 0, .slice none 0 0, .slice none 0 0, .slice none 0 0, .slice none 0 0, .slice none 0 0, .slice none 0 0, .slice none 0 0, .slice none 0 0, .slice none 0 0] 36)) w5.heap.size 36 [nilS, nilS, nilS, nilS, nilS, nilS, nilS, nilS, nilS, nilS]) := Blk.new w5 _ _
  have HO56 : Hid (Only [] w5 (w5.alloc (.cells #[.slice none 0 0, .slice none 0 0, .slice none 0 0, .slice none 0 0, .slice none 0 0, .slice none 0 0, .slice none 0 0, .slice none 0 0, .slice none 0 0, .slice none 0 0] 36))) := (Only.refl _ _).alloc _
  generalize w5.alloc _ = w6 at *
  obtain ⟨bk, hbk⟩ : ∃ bk, w5.heap.size = bk := ⟨_, rfl⟩
  have HBkn : Hid (w5.heap.size ≤ bk) := by show _ ≤ _; omega
  rw [hbk] at HBk0 ⊢
  clear hbk
  obtain ⟨w7, hmk, hb7, ho7⟩ := make_bools w6 n (n : Int) rfl (by omega)
  obtain ⟨g, hg⟩ : ∃ g, w6.heap.size = g := ⟨_, rfl⟩
  rw [hg] at hmk hb7
  have HGn : Hid (w5.heap.size ≤ g) := by have := HO56.out.size; show _ ≤ _; omega
  rw [← inB_zero ns rs] at hb7
  have HB7 := Lib.hid hb7
  have HBk7 := Lib.hid (HBk0.out.only ho7 (by simp))
  have HO57 := Lib.hid (HO56.out.nil_trans ho7)
  clear hb7 ho7 HBk0 HO56 hg
  go_wp2_with fail
  clear hmk
  go_loopw [15] (fun i wr => ∃ k : Nat, k ≤ p ∧ i = .int .i64 (k : Int) ∧ Blk wr g 4 (boolV n (inB ns rs k)) ∧ Blk wr bk 36 [nilS, nilS, nilS, nilS, nilS, nilS, nilS, nilS, nilS, nilS] ∧ Only [] w5 wr) (fun i _ => p - (intOf i).toNat)
  case atStart => exact ⟨0, Nat.zero_le _, rfl, HB7.out, HBk7.out, HO57.out⟩
  case round =>
    obtain ⟨k, hkp, rfl, h1, h2, h3⟩ := hrel
    have HB := Lib.hid h1
    have HBk := Lib.hid h2
    have HO := Lib.hid h3
    clear h1 h2 h3 HB7 HBk7 HO57
    by_cases hlt : k < p
    · obtain ⟨rb, ro, rfl, hc⟩ := hR.out.only (HW3.out.nil_trans (HO35.out.nil_trans HO.out)) k (by have := hp.out; omega)
      obtain ⟨x, hx⟩ : ∃ x, rs[k]?.getD 0 = x := ⟨_, rfl⟩
      rw [hx] at hc
      have HX := Lib.hid hx
      have hlt' : (k : Int) < (p : Int) := by omega
      clear hx
      go_wp2_with fail
      refine (HRB.out x _ (HO35.out.nil_trans HO.out)).mono ?_
      rintro e w8 ⟨u, rfl, hL, hfr, ho⟩
      obtain ⟨L, hLe⟩ : ∃ L, L = belowOf ns x := ⟨_, rfl⟩
      have HLe := Lib.hid hLe
      have HIds : Hid (Ids ns L) := hLe ▸ belowL_ids HOk.out (· ∈ [x])
      replace hL : IntsAt w8 u L := hLe ▸ hL
      clear hLe
      obtain ⟨Al, cl, rfl, -⟩ := hL.shape
      have HL := Lib.hid hL
      have HB8 := Lib.hid (HB.out.only ho (by simp))
      have HBk8 := Lib.hid (HBk.out.only ho (by simp))
      have HO8 := Lib.hid (HO.out.nil_trans ho)
      have hLl : (L.length : Int) ≤ 100 := by have := HIds.out.len; have := HLen.out; omega
      clear hL hfr ho hc
      go_wp2_with fail
      go_loopw [17] (fun i wr => ∃ q : Nat, q ≤ L.length ∧ i = .int .i64 (q : Int) ∧ Blk wr g 4 (boolV n (fun j => inB ns rs k j || decide ((j : Int) ∈ L.take q))) ∧ IntsAt wr (.slice Al L.length cl) L ∧ Blk wr bk 36 [nilS, nilS, nilS, nilS, nilS, nilS, nilS, nilS, nilS, nilS] ∧ Only [] w5 wr) (fun i _ => L.length - (intOf i).toNat)
      case atStart => exact ⟨0, Nat.zero_le _, rfl, by
        have e : (fun j => inB ns rs k j || decide ((j : Int) ∈ L.take 0)) = inB ns rs k := by funext j; simp
        rw [e]
        exact HB8.out, HL.out, HBk8.out, HO8.out⟩
      case round =>
        obtain ⟨q, hq, rfl, h1, h2, h3, h4⟩ := hrel
        have HBq := Lib.hid h1
        have HLq := Lib.hid h2
        have HBkq := Lib.hid h3
        have HOq := Lib.hid h4
        clear h1 h2 h3 h4 HB8 HBk8 HO8 HL HB HBk HO
        by_cases hql : q < L.length
        · obtain ⟨a, ha, han⟩ := HIds.out.mem q hql
          obtain ⟨Ax, cx, e, hLr⟩ := HLq.out.shape
          injection e with e1 e0 e2
          subst e1 e2
          clear e0
          obtain ⟨lb, lo, rfl, hcell⟩ := hLr q hql
          rw [ha] at hcell
          have hann : a < n := by have := HLen.out; omega
          have ca := HBq.out.cell a
          rw [boolV_get _ _ _ hann] at ca
          have fa := HBq.out.frozen a
          have HB9 : Hid (Blk (wr.setCell ⟨g, a, none⟩ (.bool true)) g 4 (boolV n (fun j => inB ns rs k j || decide ((j : Int) ∈ L.take (q + 1))))) := by
            have h := HBq.out.set_ a (.bool true)
            rw [boolV_set] at h
            have e : (fun j => if j = a then true else inB ns rs k j || decide ((j : Int) ∈ L.take q)) = fun j => inB ns rs k j || decide ((j : Int) ∈ L.take (q + 1)) := by
              funext j
              have h5 := take_snoc_mem hql (j : Int)
              rw [ha] at h5
              by_cases e : j = a
              · subst e
                rw [if_pos rfl]
                simp [h5]
              · rw [if_neg e]
                have e' : ¬ (j : Int) = (a : Int) := by omega
                simp [h5, e']
            rw [e] at h
            exact h
          have ho9 : Only [g] wr (wr.setCell ⟨g, a, none⟩ (.bool true)) := (Only.refl [g] wr).setCell (.inl (by simp)) _
          have HL9 : Hid (IntsAt (wr.setCell ⟨g, a, none⟩ (.bool true)) (.slice (some ⟨lb, lo, none⟩) L.length cl) L) := HLq.out.only ho9 (fun y hy hm => by
            have e : y = g := by simpa using hm
            subst e
            obtain ⟨cs, fr, hcc⟩ := HLq.out.typ hy
            exact heap_ne hcc HBq.out (by intro e; injection e with _ e2; exact absurd e2 (by decide)) rfl)
          have HBk9 : Hid (Blk (wr.setCell ⟨g, a, none⟩ (.bool true)) bk 36 [nilS, nilS, nilS, nilS, nilS, nilS, nilS, nilS, nilS, nilS]) := HBkq.out.only ho9 (fun hm => by
            have e : bk = g := by simpa using hm
            subst e
            exact heap_ne HBkq.out HBq.out (by intro e; injection e with _ e2; exact absurd e2 (by decide)) rfl)
          have HO9 : Hid (Only [] w5 (wr.setCell ⟨g, a, none⟩ (.bool true))) := HOq.out.setCell (.inr (by have := HGn.out; show _ ≤ g; omega)) _
          have hql' : (q : Int) < (L.length : Int) := by omega
          generalize (inB ns rs k a || decide ((a : Int) ∈ L.take q)) = va at ca
          clear ho9 ha hLr
          go_wp2_with fail
          go_roundw
          case rel => exact ⟨q + 1, by omega, by go_num, HB9.out, HL9.out, HBk9.out, HO9.out⟩
          case measure => simp [intOf] <;> omega
        · have hnl : ¬ (q : Int) < (L.length : Int) := by omega
          obtain rfl : q = L.length := by omega
          have HBf : Hid (Blk wr g 4 (boolV n (inB ns rs (k + 1)))) := by
            have h := HBq.out
            have e : (fun j => inB ns rs k j || decide ((j : Int) ∈ L.take L.length)) = inB ns rs (k + 1) := by
              funext j
              rw [inB_next, HX.out, List.take_length, HLe.out]
            rw [e] at h
            exact h
          go_wp2_with fail
          go_roundw
          case rel => exact ⟨k + 1, by omega, by go_num, HBf.out, HBkq.out, HOq.out⟩
          case measure => simp [intOf] <;> omega
    · have hnl : ¬ (k : Int) < (p : Int) := by omega
      obtain rfl : k = p := by omega
      clear hkp hnl hlt
      generalize hff : inB ns rs k = f at *
      have HF : Hid (marked f n = belowL ns (· ∈ rs)) := by
        have h := marked_in HOk.out rs
        rw [HLen.out, ← hp.out, hff] at h
        exact h
      clear hff
      go_wp2_with fail
      go_loopw [13, 18] (fun out i wr => ∃ q : Nat, q ≤ n ∧ i = .int .i64 (q : Int) ∧ IntsAt wr out (marked f q) ∧ (∀ x, out.ownBlock = some x → w5.heap.size ≤ x) ∧ Blk wr g 4 (boolV n f) ∧ Blk wr bk 36 [nilS, nilS, nilS, nilS, nilS, nilS, nilS, nilS, nilS, nilS] ∧ Only [] w5 wr) (fun _ i _ => n - (intOf i).toNat)
      case atStart => exact ⟨0, Nat.zero_le _, rfl, World.ownsRow_nil _ _ _ _, fun x hx => by simp [Value.ownBlock] at hx, HB.out, HBk.out, HO.out⟩
      case round =>
        obtain ⟨q, hq, rfl, h1, h2, h3, h4, h5⟩ := hrel
        obtain ⟨Au', cu', rfl, -⟩ := h1.shape
        have HU := Lib.hid h1
        have HQ := Lib.hid h2
        have HBq := Lib.hid h3
        have HBkq := Lib.hid h4
        have HOq := Lib.hid h5
        clear h1 h2 h3 h4 h5 HB HBk HO
        by_cases hqn : q < n
        · have ck := HBq.out.cell q
          rw [boolV_get _ _ _ hqn] at ck
          have hms := marked_snoc f q
          have hqn' : (q : Int) < (n : Int) := by omega
          cases hfk : f q with
          | false =>
            rw [hfk] at ck hms
            have HM := Lib.hid hms
            clear hms
            go_wp2_with fail
            go_roundw
            case rel => exact ⟨q + 1, by omega, by go_num, by rw [HM.out]; simpa using HU.out, HQ.out, HBq.out, HBkq.out, HOq.out⟩
            case measure => simp [intOf] <;> omega
          | true =>
            rw [hfk] at ck hms
            have HM := Lib.hid hms
            have HL : Hid ((marked f q).length ≤ n) := by
              have h := List.length_filter_le (fun j => f j) (List.range q)
              have e : (marked f q).length = ((List.range q).filter fun j => f j).length := by simp [marked]
              show _ ≤ _
              rw [e]
              rw [List.length_range] at h
              omega
            clear hms
            go_wp2_with (at_builtin; refine wpList_append_lies _ rfl _ _ _ rfl 0 3 i0 _ 1 8 Try.underlying22 hi hz0 hz1 hz2 rfl (by decide) (.slice Au' (marked f q).length cu') (marked f q).length (ints (marked f q)) rfl (by have h := HU.out.only ((Only.refl [] wr).alloc (.cells #[.int .i64 (q : Int)] 3)) (by simp); exact h) ⟨wr.heap.size, 0, none⟩ 1 1 [.int .i64 (q : Int)] rfl rfl (by exact cell_one_new _ _ _) (by simp [Value.oneCell']) (by decide) (by have := HL.out; simp only [maxLen]; omega) (by have := HL.out; omega) (Nat.zero_le _) (wr.heap.size + 1) (by simp) ?_; intro g' cap w4 hown hgr hat hlt)
            have ho4 : Only (Value.slice Au' (marked f q).length cu').ownBlock.toList wr w4 := ((Only.refl _ wr).alloc (.cells #[.int .i64 (q : Int)] 3)).trans (Only.of_grown (S := (Value.slice Au' (marked f q).length cu').ownBlock.toList) hgr (by simp)) (fun x hx => .inl hx)
            have hB4 : Blk w4 g 4 (boolV n f) := HBq.out.only ho4 (fun hm => by
              obtain ⟨cs, fr, hc⟩ := HU.out.typ (g := g) (by simpa using hm)
              exact heap_ne hc HBq.out (by intro e; injection e with _ e2; exact absurd e2 (by decide)) rfl)
            have hBk4 : Blk w4 bk 36 [nilS, nilS, nilS, nilS, nilS, nilS, nilS, nilS, nilS, nilS] := HBkq.out.only ho4 (fun hm => by
              obtain ⟨cs, fr, hc⟩ := HU.out.typ (g := bk) (by simpa using hm)
              exact heap_ne hc HBkq.out (by intro e; injection e with _ e2; exact absurd e2 (by decide)) rfl)
            go_roundw
            case rel =>
              refine ⟨q + 1, by omega, by go_num, ?_, ?_, hB4, hBk4, HOq.out.trans ho4 (fun x hx => .inr (HQ.out x (by simpa using hx)))⟩
              · rw [HM.out]
                unfold IntsAt
                simpa [ints] using hown
              · intro x hx
                have e : g' = x := by simpa [Value.ownBlock] using hx
                subst e
                rcases hat with h | h
                · exact HQ.out g' h
                · have := HOq.out.size
                  omega
            case measure => simp [intOf] <;> omega
        · have hnl : ¬ (q : Int) < (n : Int) := by omega
          have hqe : q = n := by omega
          have HW : Hid (IntsAt wr (.slice Au' (marked f q).length cu') (belowL ns (· ∈ rs))) := by
            have h := HU.out
            have e : marked f q = belowL ns (· ∈ rs) := by rw [hqe, HF.out]
            rw [e] at h
            rw [e]
            exact h
          have HWl : Hid ((marked f q).length = (belowL ns (· ∈ rs)).length ∧ (belowL ns (· ∈ rs)).length ≤ n) := by
            refine ⟨by rw [hqe, HF.out], ?_⟩
            have h := (belowL_ids HOk.out (· ∈ rs)).len
            rw [HLen.out] at h
            exact h
          clear hqe hqn HU HBq HF
          generalize (marked f q).length = wl at *
          generalize hWW : belowL ns (· ∈ rs) = W at *
          have HWW := Lib.hid hWW
          clear hWW
          obtain ⟨hwl, hwn⟩ := HWl.out
          subst hwl
          have HK : Hid (Kp w5 wr bk [] []) := Kp.start HBkq.out HBkn.out HOq.out
          clear HBkq HOq HQ HWl
          go_wp2_with fail
          clear hnl
          go_loopw [19] (fun i wr => ∃ (j : Nat) (K : KL), j ≤ 2 ∧ i = .int .i64 (j : Int) ∧ K.length = j ∧ Kp w5 wr bk K [] ∧ IntsAt wr (.slice Au' W.length cu') W) (fun i _ => 2 - (intOf i).toNat)
          case atStart => exact ⟨0, [], Nat.zero_le _, rfl, rfl, HK.out, HW.out⟩
          case round =>
            obtain ⟨j, K, hj, rfl, h1, h2, h3⟩ := hrel
            have HKl := Lib.hid h1
            have HKK := Lib.hid h2
            have HWW2 := Lib.hid h3
            have hKn : K.length ≤ 2 := by omega
            clear h1 h2 h3 HK HW
            by_cases hjl : j < 2
            · have hjl' : (j : Int) < 2 := by omega
              have HBl : Hid (Calls Try.prog 9 #[.pointer (some ⟨d, 0, none⟩), .slice (some ⟨gL, 0, none⟩) k cL] wr fun e w' => ∃ u, e = .returned u ∧ IntsAt w' u W ∧ (∀ g, u.ownBlock = some g → wr.heap.size ≤ g) ∧ Only [] wr w') := by
                have h := below_any d v none ns rs (some ⟨gL, 0, none⟩) cL wr (HD.out.only (HO35.out.nil_trans HKK.out.only) (by simp)) HOk.out HNs.out (Lib.hid (HLn.out.only HKK.out.only (by simp)).read) (by have := hp.out; omega)
                rw [← hp.out, HWW.out] at h
                exact h
              go_wp2_with fail
              refine HBl.out.mono ?_
              rintro e w8 ⟨u, rfl, hu, hfr, ho⟩
              obtain ⟨Ax, cx, rfl, -⟩ := hu.shape
              have HK8 := Lib.hid (HKK.out.push hu hfr ho (by omega))
              have HW8 := Lib.hid (HWW2.out.only ho (by simp))
              clear hu hfr ho HBl
              go_wp2_with fail
              refine (Kp.keep HK8 (by omega)).mono ?_
              rintro e w9 ⟨rfl, hk9, hkeep⟩
              have HK9 := Lib.hid hk9
              have HW9 := Lib.hid (hkeep _ _ HW8.out)
              have HX9 : Hid (IntsAt w9 (.slice Ax W.length cx) W) := HK9.out.at_ (p := (.slice Ax W.length cx, W)) (by simp)
              clear hk9 hkeep HK8 HW8
              go_wp2_with fail
              refine (sameints_any Ax Au' cx cu' W w9 (Lib.hid (e_read HX9.out).2) (Lib.hid (e_read HW9.out).2) (by omega)).mono ?_
              rintro e w10 ⟨rfl, ho⟩
              have HK10 := Lib.hid (HK9.out.step ho)
              have HW10 := Lib.hid (HW9.out.only ho (by simp))
              clear ho
              go_wp2_with fail
              go_roundw
              case rel => exact ⟨j + 1, _, by omega, by go_num, by simp [HKl.out], HK10.out, HW10.out⟩
              case measure => simp [intOf] <;> omega
            · have hnl : ¬ (j : Int) < 2 := by omega
              clear hjl HWW2 HWW
              go_wp2_with fail
              refine (HRB.out at_ _ (HO35.out.nil_trans HKK.out.only)).mono ?_
              rintro e w8 ⟨u, rfl, hL, -, ho⟩
              obtain ⟨L, hLe⟩ : ∃ L, L = belowOf ns at_ := ⟨_, rfl⟩
              have HLe := Lib.hid hLe
              have HIds : Hid (Ids ns L) := hLe ▸ belowL_ids HOk.out (· ∈ [at_])
              have HKid : Hid (∀ q, q < L.length → ((∀ c ∈ kids (nodeAt ns (L[q]?.getD 0)), c ∈ L.take q) ∧ L[q]?.getD 0 ∉ L.take q) ∧ ∀ z ∈ L.take q, L[q]?.getD 0 ∉ kids (nodeAt ns z)) := by
                rw [hLe]
                exact fun q hq => ⟨ids_kids HOk.out hq, ids_later HOk.out hq⟩
              replace hL : IntsAt w8 u L := hLe ▸ hL
              clear hLe
              obtain ⟨Al, cl, rfl, -⟩ := hL.shape
              have HL := Lib.hid hL
              have HK8 := Lib.hid (HKK.out.step ho)
              have hLl : (L.length : Int) ≤ 100 := by have := HIds.out.len; have := HLen.out; omega
              have HLb : Hid (∀ x, (Value.slice Al L.length cl).ownBlock = some x → x < w8.heap.size) := hL.lt
              clear hL ho HKK
              go_upto_region 33 with fail
              have HM0 : Hid (MapK (w8.alloc (.map #[] 0)) w8.heap.size 0 (fun _ => none)) := MapK.made w8
              have HO89 : Hid (Only [] w8 (w8.alloc (.map #[] 0))) := (Only.refl _ _).alloc _
              have hsz9 : (w8.alloc (.map #[] 0)).heap.size = w8.heap.size + 1 := by simp
              generalize w8.alloc (.map #[] 0) = w9 at *
              obtain ⟨m, hm⟩ : ∃ m, w8.heap.size = m := ⟨_, rfl⟩
              have HMn : Hid (w8.heap.size = m) := hm
              rw [hm] at HM0 ⊢
              obtain ⟨w10, hmk, hb10, ho10⟩ := make_intsF w9 n (n : Int) rfl (by omega)
              rw [hsz9, hm] at hmk hb10
              have HM10 := Lib.hid (HM0.out.only ho10 (by simp))
              have HO810 := Lib.hid (HO89.out.nil_trans ho10)
              rw [← deepL_nil ns n] at hb10
              have HD10 := Lib.hid hb10
              have he0 : useF ns [] = fun _ => none := by funext y; simp [useF]
              rw [← he0] at HM10
              clear hb10 ho10 hm hsz9 HM0 HO89 he0
              go_wp2_with fail
              clear hmk
              go_loopw [24] (fun i wr => ∃ q : Nat, q ≤ L.length ∧ i = .int .i64 (q : Int) ∧ MapK wr m q (useF ns (L.take q)) ∧ Blk wr (m + 1) 3 (ints (deepL ns (L.take q) n)) ∧ Only [] w8 wr) (fun i _ => L.length - (intOf i).toNat)
              case atStart => exact ⟨0, Nat.zero_le _, rfl, HM10.out, HD10.out, HO810.out⟩
              case round =>
                obtain ⟨q, hq, rfl, h1, h2, h3⟩ := hrel
                have HM := Lib.hid h1
                have HDp := Lib.hid h2
                have HO := Lib.hid h3
                clear h1 h2 h3 HM10 HD10 HO810
                by_cases hql : q < L.length
                · obtain ⟨a, ha, han⟩ := HIds.out.mem q hql
                  have hann : a < n := by have := HLen.out; omega
                  obtain ⟨lb, lo, hAl, hcell⟩ := (e_read HL.out).2 q hql
                  have hlb : lb < m := by
                    have h := HLb.out lb (by rw [hAl]; rfl)
                    have := HMn.out
                    omega
                  rw [ha] at hcell
                  subst hAl
                  obtain ⟨nb_, no_, hAu, hc4⟩ := HNlt.out a hann
                  have hc4' := hc4.only (HO35.out.nil_trans (HK8.out.only.nil_trans HO.out)) (by simp)
                  have hkd := HKid.out q hql
                  rw [ha] at hkd
                  have hT : L.take (q + 1) = L.take q ++ [(a : Int)] := by
                    rw [List.take_succ_eq_append_getElem hql]
                    rw [List.getElem?_eq_getElem hql, Option.getD_some] at ha
                    rw [ha]
                  have HT := Lib.hid hT
                  have hPl : (L.take q).length ≤ 100 := by have : (L.take q).length ≤ q := List.length_take_le _ _; omega
                  have hdk := dep_kids HOk.out (x := (a : Int)) (by omega) (by have := HLen.out; omega)
                  have HUs := Lib.hid (use_step (ns := ns) (P := L.take q) (x := (a : Int)) hkd.1.2 hkd.1.1 hkd.2)
                  have HN : Hid (nodeAt ns (a : Int) = nodeAt ns (a : Int)) := rfl
                  obtain ⟨nd, hnd⟩ : ∃ nd, nodeAt ns (a : Int) = nd := ⟨_, rfl⟩
                  rw [hnd] at hc4' hkd hdk HUs
                  generalize L.take q = P at *
                  obtain ⟨nk, nf, na, nb⟩ := nd
                  obtain ⟨n0, n1, n2, n3⟩ := hc4'
                  simp only at n0 n1 n2 n3
                  have HNd := Lib.hid hnd
                  have HKd := Lib.hid hkd
                  have HDk := Lib.hid hdk
                  clear hnd hkd hdk hT hc4 ha HN
                  have cl0 := HO.out.cell hcell (by simp)
                  have hql' : (q : Int) < (L.length : Int) := by omega
                  subst hAu
                  go_upto_region 38 with fail
                  have hbx : Blk (wr.alloc (.cells #[.int .i64 nk, .float .f64 nf, .int .i64 na, .int .i64 nb] 45)) wr.heap.size 45 [.int .i64 nk, .float .f64 nf, .int .i64 na, .int .i64 nb] := Blk.new wr _ _
                  have hoa : Only [] wr (wr.alloc (.cells #[.int .i64 nk, .float .f64 nf, .int .i64 na, .int .i64 nb] 45)) := (Only.refl _ _).alloc _
                  have hbm : ¬ wr.heap.size = m := by have := HM.out.lt; omega
                  have hbm1 : ¬ wr.heap.size = m + 1 := by have := HDp.out.lt; omega
                  generalize wr.alloc (.cells #[.int .i64 nk, .float .f64 nf, .int .i64 na, .int .i64 nb] 45) = w1' at *
                  generalize wr.heap.size = bx at *
                  have HM1 := Lib.hid (HM.out.only hoa (by simp))
                  have HDp1 := Lib.hid (HDp.out.only hoa (by simp))
                  have HOa := Lib.hid (HO.out.nil_trans hoa)
                  have cl1 := hoa.cell cl0 (by simp)
                  have hlk := HM1.out.look (k := (a : Int)) (by unfold Small; omega)
                  have hnone : useF ns P (a : Int) = none := by unfold useF; rw [if_neg HKd.out.1.2]
                  obtain ⟨w2', hup, hM2, hO2⟩ := HM1.out.store (k := (a : Int)) (v := 0) (by omega) (by unfold Small; omega) (by unfold Small; omega)
                  rw [hnone] at hlk hM2
                  simp only [Option.getD_none, Option.isSome_none, Bool.false_eq_true, if_false] at hlk hM2
                  have HM2 : Hid (MapK w2' m (q + 1) (setF (useF ns P) (a : Int) 0)) := hM2
                  have HOm := Lib.hid hO2
                  have HB2 := Lib.hid (hbx.only hO2 (by simpa using hbm))
                  have HDp2 := Lib.hid (HDp1.out.only hO2 (by simp))
                  have cl2 := hO2.cell cl1 (by simp; omega)
                  have HO2 : Hid (Only [] w8 w2') := HOa.out.trans hO2 (fun y hy => .inr (by
                    have e : y = m := by simpa using hy
                    have := HMn.out
                    omega))
                  have HBM := Lib.hid hbm
                  have HBM1 := Lib.hid hbm1
                  clear hnone hM2 hO2 hoa hbx HM HDp HO HM1 HDp1 HOa cl0 n0 n1 n2 n3 hcell hbm hbm1
                  go_upto_region 39 with fail
                  clear hlk hup cl1
                  have b0 := HB2.out.cell 0
                  simp only [List.getElem?_cons_zero] at b0
                  have hPP : ∀ y, y ∈ P ++ [(a : Int)] ↔ y ∈ P ∨ y = (a : Int) := by simp
                  have HPP := Lib.hid hPP
                  clear hPP
                  by_cases hk0 : nk = 0
                  · subst hk0
                    have HMf : Hid (MapK w2' m (q + 1) (useF ns (L.take (q + 1)))) := by
                      rw [HT.out, ← HUs.out]
                      exact HM2.out
                    have HDf : Hid (Blk w2' (m + 1) 3 (ints (deepL ns (L.take (q + 1)) n))) := by
                      rw [HT.out, ← deepL_leaf ns P _ n a HPP.out (HDk.out.1 rfl)]
                      exact HDp2.out
                    go_wp2_with fail
                    go_roundw
                    case rel => exact ⟨q + 1, by omega, by go_num, HMf.out, HDf.out, HO2.out⟩
                    case measure => simp [intOf] <;> omega
                  · have hka : na ∈ kids ⟨nk, nf, na, nb⟩ := by unfold kids; rw [if_neg hk0]; split <;> simp
                    have haP := HKd.out.1.1 na hka
                    have ha0 : 0 ≤ na ∧ na < (a : Int) := by
                      have h := HOk.out (a : Int) (by omega) (by have := HLen.out; omega) na (by rw [HNd.out]; exact hka)
                      exact h
                    obtain ⟨a1, rfl⟩ : ∃ a1 : Nat, na = (a1 : Int) := ⟨na.toNat, by omega⟩
                    have b2 := HB2.out.cell 2
                    simp only [List.getElem?_cons_zero, List.getElem?_cons_succ] at b2
                    have hlk := HM2.out.look (k := (a1 : Int)) (by unfold Small; omega)
                    have hf1 : setF (useF ns P) (a : Int) 0 (a1 : Int) = some (cnt ns P (a1 : Int) : Int) := by
                      unfold setF useF
                      rw [if_neg (by omega), if_pos haP]
                    have hcb : (cnt ns P (a1 : Int) : Int) ≤ 200 := by have := cnt_le ns P (a1 : Int); omega
                    have hcb0 : (0 : Int) ≤ (cnt ns P (a1 : Int) : Int) := by omega
                    rw [hf1] at hlk
                    simp only [Option.getD_some] at hlk
                    generalize (cnt ns P (a1 : Int) : Int) = c1 at *
                    obtain ⟨w3', hup, hM3, hO3⟩ := HM2.out.store (k := (a1 : Int)) (v := c1 + 1) (by omega) (by unfold Small; omega) (by unfold Small; omega)
                    rw [hf1] at hM3
                    simp only [Option.isSome_some, if_true] at hM3
                    have HM3 : Hid (MapK w3' m (q + 1) (incF (setF (useF ns P) (a : Int) 0) (a1 : Int))) := by
                      unfold incF
                      rw [hf1]
                      exact hM3
                    have HF1 := Lib.hid hf1
                    have HB3 := Lib.hid (HB2.out.only hO3 (by simpa using HBM.out))
                    have HDp3 := Lib.hid (HDp2.out.only hO3 (by simp))
                    have cl3 := hO3.cell cl2 (by simp; omega)
                    have HO3 : Hid (Only [] w8 w3') := HO2.out.trans hO3 (fun y hy => .inr (by
                      have e : y = m := by simpa using hy
                      have := HMn.out
                      omega))
                    clear hM3 hO3 hf1 HM2 HDp2 HO2 HOm
                    go_upto_region 41 with fail
                    clear hlk hup cl2 b0 b2
                    have b2 := HB3.out.cell 2
                    simp only [List.getElem?_cons_zero, List.getElem?_cons_succ] at b2
                    have ha1n : a1 < n := by omega
                    have d1 := HDp3.out.cell a1
                    rw [ints_get _ _ (by rw [deepL_len]; exact ha1n), deepL_get _ _ _ _ ha1n, if_pos haP] at d1
                    have dx := HDp3.out.cell a
                    rw [ints_get _ _ (by rw [deepL_len]; exact hann), deepL_get _ _ _ _ hann, if_neg HKd.out.1.2] at dx
                    have fx := HDp3.out.frozen a
                    have hdb := dep_bd (ns := ns) (a1 : Int) (by omega) (by have := HLen.out; omega)
                    obtain ⟨e1, he1⟩ : ∃ e1, dep ns (a1 : Int) = e1 := ⟨_, rfl⟩
                    rw [he1] at d1 hdb
                    have hdb2 : e1 ≤ 100 := by have := HLen.out; omega
                    have hdb1 := hdb.1
                    have HE1 := Lib.hid he1
                    clear hdb he1
                    have ho4 : Only [m + 1] w3' ((w3'.setCell ⟨m + 1, a, none⟩ (.int .i64 (e1 + 1))).drew) := ((Only.refl [m + 1] w3').setCell (.inl (by simp)) _).drew
                    have HDp4 : Hid (Blk ((w3'.setCell ⟨m + 1, a, none⟩ (.int .i64 (e1 + 1))).drew) (m + 1) 3 (ints ((deepL ns P n).set a (e1 + 1)))) := by
                      have h := HDp3.out.set_ a (.int .i64 (e1 + 1))
                      rw [ints_set] at h
                      exact h
                    have HB4 := Lib.hid (HB3.out.only ho4 (by simpa using HBM1.out))
                    have HM4 := Lib.hid (HM3.out.only ho4 (by simp))
                    have cl4 := ho4.cell cl3 (by simp; omega)
                    have HO4 : Hid (Only [] w8 ((w3'.setCell ⟨m + 1, a, none⟩ (.int .i64 (e1 + 1))).drew)) := HO3.out.trans ho4 (fun y hy => .inr (by
                      have e : y = m + 1 := by simpa using hy
                      have := HMn.out
                      omega))
                    clear ho4 HDp3 HM3 HO3
                    go_region
                    go_upto_region 42 with fail
                    clear b2 d1 dx fx cl3
                    generalize (w3'.setCell ⟨m + 1, a, none⟩ (.int .i64 (e1 + 1))).drew = w4' at *
                    have b0 := HB4.out.cell 0
                    simp only [List.getElem?_cons_zero] at b0
                    by_cases hk5 : nk = 5
                    · subst hk5
                      have hkk : kids ⟨5, nf, a1, nb⟩ = [(a1 : Int)] := rfl
                      have HMf : Hid (MapK w4' m (q + 1) (useF ns (L.take (q + 1)))) := by
                        have h := HUs.out
                        rw [hkk] at h
                        rw [HT.out, ← h]
                        exact HM4.out
                      have HDf : Hid (Blk w4' (m + 1) 3 (ints (deepL ns (L.take (q + 1)) n))) := by
                        rw [HT.out, ← deepL_set ns P _ n a HPP.out, HDk.out.2.1 _ hkk, HE1.out]
                        exact HDp4.out
                      clear hkk
                      go_wp2_with fail
                      go_roundw
                      case rel => exact ⟨q + 1, by omega, by go_num, HMf.out, HDf.out, HO4.out⟩
                      case measure => simp [intOf] <;> omega
                    · have hkk : kids ⟨nk, nf, a1, nb⟩ = [(a1 : Int), nb] := by unfold kids; rw [if_neg hk0, if_neg hk5]
                      have hbP := HKd.out.1.1 nb (by rw [hkk]; simp)
                      have hb0 : 0 ≤ nb ∧ nb < (a : Int) := HOk.out (a : Int) (by omega) (by have := HLen.out; omega) nb (by rw [HNd.out, hkk]; simp)
                      obtain ⟨b1, rfl⟩ : ∃ b1 : Nat, nb = (b1 : Int) := ⟨nb.toNat, by omega⟩
                      have HKk := Lib.hid hkk
                      clear hkk
                      have b3 := HB4.out.cell 3
                      simp only [List.getElem?_cons_zero, List.getElem?_cons_succ] at b3
                      have hlk := HM4.out.look (k := (b1 : Int)) (by unfold Small; omega)
                      obtain ⟨c2, hf2, hc2⟩ : ∃ c2, incF (setF (useF ns P) (a : Int) 0) (a1 : Int) (b1 : Int) = some c2 ∧ (0 : Int) ≤ c2 ∧ c2 ≤ 300 := by
                        by_cases e : (b1 : Int) = (a1 : Int)
                        · refine ⟨c1 + 1, ?_, by omega, by omega⟩
                          unfold incF
                          rw [HF1.out]
                          unfold setF
                          rw [if_pos e]
                          rfl
                        · refine ⟨(cnt ns P (b1 : Int) : Int), ?_, by omega, by have := cnt_le ns P (b1 : Int); omega⟩
                          unfold incF setF useF
                          rw [if_neg e, if_neg (by omega), if_pos hbP]
                      obtain ⟨hc20, hc21⟩ := hc2
                      rw [hf2] at hlk
                      simp only [Option.getD_some] at hlk
                      obtain ⟨w5', hup, hM5, hO5⟩ := HM4.out.store (k := (b1 : Int)) (v := c2 + 1) (by omega) (by unfold Small; omega) (by unfold Small; omega)
                      rw [hf2] at hM5
                      simp only [Option.isSome_some, if_true] at hM5
                      have HMf : Hid (MapK w5' m (q + 1) (useF ns (L.take (q + 1)))) := by
                        have h := HUs.out
                        rw [HKk.out] at h
                        rw [HT.out, ← h]
                        show MapK w5' m (q + 1) (incF (incF (setF (useF ns P) (a : Int) 0) (a1 : Int)) (b1 : Int))
                        have e : incF (incF (setF (useF ns P) (a : Int) 0) (a1 : Int)) (b1 : Int) = fun x => if x = (b1 : Int) then some (c2 + 1) else incF (setF (useF ns P) (a : Int) 0) (a1 : Int) x := by
                          funext y
                          show (if y = (b1 : Int) then some ((incF (setF (useF ns P) (a : Int) 0) (a1 : Int) (b1 : Int)).getD 0 + 1) else incF (setF (useF ns P) (a : Int) 0) (a1 : Int) y) = _
                          rw [hf2]
                          rfl
                        rw [e]
                        exact hM5
                      have HB5 := Lib.hid (HB4.out.only hO5 (by simpa using HBM.out))
                      have HDp5 := Lib.hid (HDp4.out.only hO5 (by simp))
                      have cl5 := hO5.cell cl4 (by simp; omega)
                      have HO5 : Hid (Only [] w8 w5') := HO4.out.trans hO5 (fun y hy => .inr (by
                        have e : y = m := by simpa using hy
                        have := HMn.out
                        omega))
                      clear hM5 hO5 hf2 HM4 HDp4 HO4 HB4
                      go_upto_region 44 with fail
                      clear hlk hup cl4 b0 b3
                      have b2 := HB5.out.cell 2
                      have b3 := HB5.out.cell 3
                      simp only [List.getElem?_cons_zero, List.getElem?_cons_succ] at b2 b3
                      have hb1n : b1 < n := by omega
                      have hne1 : ¬ a = a1 := by omega
                      have hne2 : ¬ a = b1 := by omega
                      have hls : ∀ j : Nat, j < n → ¬ a = j → ((deepL ns P n).set a (e1 + 1))[j]?.getD 0 = (deepL ns P n)[j]?.getD 0 := fun j _ h => by rw [List.getElem?_set_ne h]
                      have d1 := HDp5.out.cell a1
                      rw [ints_get _ _ (by rw [List.length_set, deepL_len]; exact ha1n), hls a1 ha1n hne1, deepL_get _ _ _ _ ha1n, if_pos haP, HE1.out] at d1
                      have d2 := HDp5.out.cell b1
                      rw [ints_get _ _ (by rw [List.length_set, deepL_len]; exact hb1n), hls b1 hb1n hne2, deepL_get _ _ _ _ hb1n, if_pos hbP] at d2
                      have dx := HDp5.out.cell a
                      rw [ints_get _ _ (by rw [List.length_set, deepL_len]; exact hann)] at dx
                      generalize ((deepL ns P n).set a (e1 + 1))[a]?.getD 0 = vx at dx
                      have fx := HDp5.out.frozen a
                      have hdb := dep_bd (ns := ns) (b1 : Int) (by omega) (by have := HLen.out; omega)
                      obtain ⟨e2, he2⟩ : ∃ e2, dep ns (b1 : Int) = e2 := ⟨_, rfl⟩
                      rw [he2] at d2 hdb
                      have hdb4 : e2 ≤ 100 := by have := HLen.out; omega
                      have hdb3 := hdb.1
                      have HE2 := Lib.hid he2
                      clear hdb he2 hls
                      obtain ⟨em, hem⟩ : ∃ em, max e1 e2 = em := ⟨_, rfl⟩
                      have hem0 : 0 ≤ em ∧ em ≤ 100 := by omega
                      obtain ⟨hem1, hem2⟩ := hem0
                      have ho6 : Only [m + 1] w5' ((w5'.setCell ⟨m + 1, a, none⟩ (.int .i64 (em + 1))).drew) := ((Only.refl [m + 1] w5').setCell (.inl (by simp)) _).drew
                      have HDf : Hid (Blk ((w5'.setCell ⟨m + 1, a, none⟩ (.int .i64 (em + 1))).drew) (m + 1) 3 (ints (deepL ns (L.take (q + 1)) n))) := by
                        have h := HDp5.out.set_ a (.int .i64 (em + 1))
                        rw [ints_set, List.set_set] at h
                        rw [HT.out, ← deepL_set ns P _ n a HPP.out, HDk.out.2.2 _ _ HKk.out, HE1.out, HE2.out, hem]
                        exact h
                      have HMf6 := Lib.hid (HMf.out.only ho6 (by simp))
                      have HO6 : Hid (Only [] w8 ((w5'.setCell ⟨m + 1, a, none⟩ (.int .i64 (em + 1))).drew)) := HO5.out.trans ho6 (fun y hy => .inr (by
                        have e : y = m + 1 := by simpa using hy
                        have := HMn.out
                        omega))
                      clear ho6 HDp5 HMf HO5 haP hbP
                      go_region
                      go_wp2_with fail
                      go_roundw
                      case rel => exact ⟨q + 1, by omega, by go_num, HMf6.out, HDf.out, HO6.out⟩
                      case measure => simp [intOf] <;> omega
                · have hnl : ¬ (q : Int) < (L.length : Int) := by omega
                  obtain rfl : q = L.length := by omega
                  rw [List.take_length] at HM HDp
                  go_wp2_with fail
                  refine (uses_any d v none ns at_ wr (HD.out.only (HO35.out.nil_trans (HK8.out.only.nil_trans HO.out)) (by simp)) HOk.out HNs.out).mono ?_
                  rintro e w11 ⟨m2, rfl, hm2, hM2, ho⟩
                  rw [← HLe.out] at hM2
                  have HM11 := Lib.hid (HM.out.only ho (by simp))
                  have HD11 := Lib.hid (HDp.out.only ho (by simp))
                  have HX11 := Lib.hid hM2
                  have HK11 := Lib.hid ((HK8.out.step HO.out).step ho)
                  have hl1 := fun ty => HM11.out.toX.len ty
                  have hl2 := fun ty => HX11.out.len ty
                  clear hM2 ho HM HDp HO HK8
                  go_wp2_with (first | (at_range; refine wpList_range_k _ rfl _ rfl m L.length (useF ns L) rfl HM11.out ?_; intro w12 left cnt hrg ho12; clear hl1 hl2))
                  obtain ⟨r, hr⟩ : ∃ r, w11.heap.size = r := ⟨_, rfl⟩
                  have HRn : Hid (w11.heap.size = r) := hr
                  rw [hr] at hrg ⊢
                  have HRg := Lib.hid hrg
                  have HO12 := Lib.hid ho12
                  clear hr hrg ho12
                  go_frame
                  go_loopw [] (fun wr => ∃ (left : Lit → Bool) (cnt : Nat), RangK wr m r L.length (useF ns L) left cnt ∧ Only [] w11 wr) (fun wr => wr.rangeLeft m r)
                  case atStart => exact ⟨_, _, HRg.out, HO12.out⟩
                  case round =>
                    obtain ⟨lf, ct, h1, h2⟩ := hrel
                    have HR1 := Lib.hid h1
                    have HO1 := Lib.hid h2
                    clear h1 h2 HRg HO12
                    have HX1 := Lib.hid (HX11.out.only HO1.out (by simp))
                    go_wp2_with (first | (at_next; refine wpList_next_k _ rfl _ rfl m r L.length (useF ns L) lf ct rfl HR1.out ?_ ?_) | go_in)
                    · intro hc0
                      clear hc0
                      have HD1 := Lib.hid (HD11.out.only HO1.out (by simp))
                      have HK1 := Lib.hid (HK11.out.step HO1.out)
                      have HO31 : Hid (Only [] w3 wr) := HO35.out.nil_trans HK1.out.only
                      clear HR1 HO1 HX1 HM11 HD11 HX11 HK11
                      by_cases hin : 0 ≤ at_ ∧ at_ < (n : Int)
                      · obtain ⟨t, rfl⟩ : ∃ t : Nat, at_ = (t : Int) := ⟨at_.toNat, by omega⟩
                        have htn : t < n := by omega
                        have htL : (t : Int) ∈ L := by
                          rw [HLe.out]
                          exact (mem_belowL HOk.out).2 (.root _ (by simp) (by omega) (by rw [HLen.out]; omega))
                        have hL0 : (0 : Int) < (L.length : Int) := by have := List.length_pos_of_mem htL; omega
                        have dt := HD1.out.cell t
                        rw [ints_get _ _ (by rw [deepL_len]; exact htn), deepL_get _ _ _ _ htn, if_pos htL] at dt
                        have HDe : Hid (depOf ns (t : Int) = dep ns (t : Int)) := by
                          show _ = _
                          unfold depOf
                          rw [if_pos (by rw [← HLe.out]; exact htL)]
                        generalize dep ns (t : Int) = dz at dt HDe
                        clear htL hin
                        go_wp2_with fail
                        refine (HDep.out d v ns _ (HD.out.only HO31.out (by simp)) HOk.out HNs.out).mono ?_
                        rintro e y1 ⟨rfl, ho⟩
                        rw [HDe.out]
                        replace HK1 := Lib.hid (HK1.out.step ho)
                        replace HO31 := Lib.hid (HO31.out.nil_trans ho)
                        clear ho
                        go_wp2_with fail
                        refine (roots_any d v none ns _ _ (HD.out.only HO31.out (by simp)) HOk.out HNs.out).mono ?_
                        rintro e y2 ⟨rfl, ho⟩
                        replace HK1 := Lib.hid (HK1.out.step ho)
                        replace HO31 := Lib.hid (HO31.out.nil_trans ho)
                        clear ho
                        go_wp2_with fail
                        refine (HRR.out _ _ HO31.out).mono ?_
                        rintro e y3 ⟨rfl, ho⟩
                        replace HK1 := Lib.hid (HK1.out.step ho)
                        replace HO31 := Lib.hid (HO31.out.nil_trans ho)
                        clear ho
                        go_wp2_with fail
                        refine (staysInts_any gL k cL cR R rs _ (Lib.hid (HLn.out.only HK1.out.only (by simp))) (Lib.hid (hR.out.only (HW3.out.nil_trans HO31.out))) hp (by omega)).mono ?_
                        rintro e y4 ⟨rfl, ho⟩
                        replace HK1 := Lib.hid (HK1.out.step ho)
                        replace HO31 := Lib.hid (HO31.out.nil_trans ho)
                        clear ho
                        go_wp2_with fail
                        refine (Kp.apart HK1 (by omega)).mono ?_
                        rintro e y5 ⟨rfl, ho⟩
                        have HOf := Lib.hid (HW3.out.nil_trans (HO35.out.nil_trans ho))
                        clear ho
                        go_wp2_with fail
                        go_ret
                        exact ⟨rfl, HOf.out⟩
                      · have hLn : L = [] := by
                          rw [HLe.out]
                          exact below_out (by rw [HLen.out]; omega)
                        have hL0 : ¬ (0 : Int) < (L.length : Int) := by rw [hLn]; simp
                        obtain ⟨dz, hdz⟩ : ∃ dz : Int, dz = 0 := ⟨0, rfl⟩
                        have HDe : Hid (depOf ns at_ = 0) := by
                          show _ = _
                          unfold depOf
                          rw [if_neg (by rw [← HLe.out, hLn]; simp)]
                        clear hLn hdz hin
                        go_wp2_with fail
                        refine (HDep.out d v ns _ (HD.out.only HO31.out (by simp)) HOk.out HNs.out).mono ?_
                        rintro e y1 ⟨rfl, ho⟩
                        rw [HDe.out]
                        replace HK1 := Lib.hid (HK1.out.step ho)
                        replace HO31 := Lib.hid (HO31.out.nil_trans ho)
                        clear ho
                        go_wp2_with fail
                        refine (roots_any d v none ns _ _ (HD.out.only HO31.out (by simp)) HOk.out HNs.out).mono ?_
                        rintro e y2 ⟨rfl, ho⟩
                        replace HK1 := Lib.hid (HK1.out.step ho)
                        replace HO31 := Lib.hid (HO31.out.nil_trans ho)
                        clear ho
                        go_wp2_with fail
                        refine (HRR.out _ _ HO31.out).mono ?_
                        rintro e y3 ⟨rfl, ho⟩
                        replace HK1 := Lib.hid (HK1.out.step ho)
                        replace HO31 := Lib.hid (HO31.out.nil_trans ho)
                        clear ho
                        go_wp2_with fail
                        refine (staysInts_any gL k cL cR R rs _ (Lib.hid (HLn.out.only HK1.out.only (by simp))) (Lib.hid (hR.out.only (HW3.out.nil_trans HO31.out))) hp (by omega)).mono ?_
                        rintro e y4 ⟨rfl, ho⟩
                        replace HK1 := Lib.hid (HK1.out.step ho)
                        replace HO31 := Lib.hid (HO31.out.nil_trans ho)
                        clear ho
                        go_wp2_with fail
                        refine (Kp.apart HK1 (by omega)).mono ?_
                        rintro e y5 ⟨rfl, ho⟩
                        have HOf := Lib.hid (HW3.out.nil_trans (HO35.out.nil_trans ho))
                        clear ho
                        go_wp2_with fail
                        go_ret
                        exact ⟨rfl, HOf.out⟩
                    · intro x w13 lf' ct' hsx hfx hrg' hlt' ho' hen
                      have HX13 := Lib.hid (HX1.out.only ho' (by
                        have := HX11.out.lt
                        have := HRn.out
                        simp
                        omega))
                      have hlk := HX13.out.look_ok hsx
                      rw [hfx] at hlk
                      have HRg' := Lib.hid hrg'
                      have HO13 : Hid (Only [] w11 w13) := HO1.out.trans ho' (fun y hy => .inr (by
                        have e : y = r := by simpa using hy
                        have := HRn.out
                        omega))
                      generalize (useF ns L x).getD 0 = vv at hlk hen
                      have HCt := Lib.hid hlt'
                      clear hrg' ho' hfx hlt'
                      go_wp2_with fail
                      go_roundw
                      case rel => exact ⟨_, _, HRg'.out, HO13.out⟩
                      case measure => rw [HRg'.out.left_eq, HR1.out.left_eq]; exact HCt.out

theorem empty_look {w w1 : World} (ho : Only [] (w.alloc (.map #[] 0)) w1) {root : Int} (hw : (Lit.int .i64 root).wf = true) : (Instr.lookup 42 (.map (some w.heap.size)) (.int .i64 root) false).run Try.prog w1 = .ok (.int .i64 0) w1 := by
  obtain ⟨es, clock, h1, h2⟩ := World.ownsMap_made (H := Unit) w Try.prog 3 (plainElem Try.prog 3)
  have h' : w1.ownsMap Try.prog 3 (plainElem (H := Unit) Try.prog 3) w.heap.size 0 (.map []) := ⟨es, clock, ho.heap h1 (by simp), h2⟩
  obtain ⟨x, hr, hx, _⟩ := h'.lookup_int (q := .i64) (Go.Maps.int_keyed Try.underlying3) Try.underlying42 Try.underlying3 (zeroInt w1) (Go.Maps.keyOf_int_mk Try.underlying3 hw)
  have e : DataW.lit (H := Unit) (.int .i64 0) = .lit (.int .i64 x) := hx
  simp only [DataW.lit.injEq, Lit.int.injEq, true_and] at e
  rw [hr, ← e]
set_option maxHeartbeats 1600000 in
set_option maxRecDepth 100000 in
theorem depth_out (d : Nat) (v : Value) (ns : List Nd) (root : Int) (w : World) (hd : DagIs w d v none ns) (ok : OkDag ns) (hns : ns.length ≤ 20000) (hw : (Lit.int .i64 root).wf = true) (hout : root < 0 ∨ (ns.length : Int) ≤ root) :
    Calls Try.prog 13 #[.pointer (some ⟨d, 0, none⟩), .int .i64 root] w fun e w' => e = .returned (.int .i64 (depOf ns root)) ∧ Only [] w w' := by
  have hmm := @run_makeMap Try.prog
  have hb : belowOf ns root = [] := below_out hout
  have hde : depOf ns root = 0 := by unfold depOf; rw [hb]; simp
  rw [hde]
  have HD := Lib.hid hd
  have HNs := Lib.hid hns
  have HOk := Lib.hid ok
  have HB := Lib.hid hb
  have HW := Lib.hid hw
  clear hd hns ok hb hde hw hout
  go_enter Try.func13, Try.ntmps13
  go_wp2_with fail
  have HA : Hid (IRead ((w.alloc (.map #[] 0)).alloc (.cells #[.int .i64 root] 3)) (some ⟨w.heap.size + 1, 0, none⟩) [root]) := fun k hk => ⟨w.heap.size + 1, 0, rfl, by
    have e : k = 0 := by simpa using hk
    subst e
    have := (Blk.new (w.alloc (.map #[] 0)) 3 [.int .i64 root]).cell 0
    rw [World.size_alloc] at this
    exact this⟩
  refine (below_any d v none ns [root] (some ⟨w.heap.size + 1, 0, none⟩) 1 _ (HD.out.only (((Only.refl [] w).alloc _).alloc _) (by simp)) HOk.out HNs.out HA (by simp)).mono ?_
  rintro e w1 ⟨u, rfl, hL, -, ho1⟩
  have hL : IntsAt w1 u [] := by
    have h : belowL ns (· ∈ [root]) = [] := HB.out
    rw [h] at hL
    exact hL
  obtain ⟨Au, cu, rfl, -⟩ := hL.shape
  have hlk := empty_look (((Only.refl [] (w.alloc (.map #[] 0))).alloc (.cells #[.int .i64 root] 3)).nil_trans ho1) HW.out
  have HO := Lib.hid ((((Only.refl [] w).alloc (.map #[] 0)).alloc (.cells #[.int .i64 root] 3)).nil_trans ho1)
  simp only [List.length_nil]
  clear hL ho1 HA hmm
  go_wp2_with fail
  refine wp_loop_rounds 1 ?_
  rw [rounds_succ]
  go_wp2_with fail
  go_returns
  exact ⟨rfl, HO.out⟩

theorem walkTells_any (A : Option Addr) (c : Nat) (L : List Int) (B : Option Addr) (c' : Nat) (M : List Int) (R : Option Addr) (cR : Nat) (rs : List Int) (at_ : Int) (w : World) (hA : IntsIn w A L) (_ : L.length ≤ c) (_ : c ≤ maxLen) (hB : IntsIn w B M) (_ : M.length ≤ c') (_ : c' ≤ maxLen) (hR : IntsIn w R rs) (_ : rs.length ≤ cR) (_ : cR ≤ maxLen) (hat : (Lit.int .i64 at_).wf = true) :
    Calls Try.prog 3 #[.slice A L.length c, .slice B M.length c', .slice R rs.length cR, .int .i64 at_] w fun e w' => e = .returned (.bool true) ∧ Only [] w w' := by
  by_cases h : (100 < (L.length : Int) ∨ ((L.length : Int) ≤ 100 ∧ 300 < (M.length : Int)) ∨ ((L.length : Int) ≤ 100 ∧ (M.length : Int) ≤ 300 ∧ 12 < (rs.length : Int)))
  · exact wtells_out A B R _ c _ c' _ cR at_ w h
  · exact wtells_in A B R c c' _ cR L M rs at_ w (Lib.hid hA.read) (Lib.hid hB.read) (Lib.hid hR.read) (Lib.hid rfl) (by omega) (by omega) (by omega) (Lib.hid fun d v ns W hd ok hns => by
      by_cases hin : 0 ≤ at_ ∧ at_ < (ns.length : Int)
      · exact depth_any d v none ns at_ W hd ok hns (by unfold Small; omega)
      · exact depth_out d v ns at_ W hd ok hns hat (by omega))
end Go.Proofs.Ytljeaomdcednlaa
