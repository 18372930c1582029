/-
  The reference's Below: marks from the root down, then the marked ones, rising (plain law and walk).
-/
import Derived.Test.YtljeaomdcednlaaTaRoots
import Derived.Laws.MakeOwn
namespace Go.Proofs.Ytljeaomdcednlaa
open Go.RowKit
attribute [local go_sem] run_store_float

open Classical in
/-- Who is marked when all from k on have been looked at. -/
noncomputable def mkB (ns : List Nd) (root k : Nat) (j : Nat) : Bool := decide (j = root ∨ ∃ z : Int, (k : Int) ≤ z ∧ Reach ns (· ∈ [(root : Int)]) z ∧ (j : Int) ∈ kids (nodeAt ns z))
theorem reach_le {ns : List Nd} (ok : OkDag ns) {a x : Int} (hx : Reach ns (· ∈ [a]) x) : x ≤ a := by
  induction hx with
  | root x h _ _ => simp at h; omega
  | kid x c h hc ih =>
    have hr := h.range ok
    have := ok x hr.1 hr.2 c hc
    omega
open Classical in
theorem mkB_start {ns : List Nd} (ok : OkDag ns) (root j : Nat) : mkB ns root (root + 1) j = decide (j = root) := by
  unfold mkB
  congr 1
  apply propext
  constructor
  · rintro (h | ⟨z, hz, hr, _⟩)
    · exact h
    · have := reach_le ok hr
      omega
  · exact .inl
open Classical in
theorem mkB_reach {ns : List Nd} (ok : OkDag ns) {root i : Nat} (hr : root < ns.length) (hi : i ≤ root) : mkB ns root (i + 1) i = true ↔ Reach ns (· ∈ [(root : Int)]) (i : Int) := by
  unfold mkB
  rw [decide_eq_true_iff]
  constructor
  · rintro (h | ⟨z, hz, h, hk⟩)
    · subst h
      exact .root _ (by simp) (by omega) (by omega)
    · exact .kid _ _ h hk
  · intro h
    cases h with
    | root _ h _ _ => left; simp at h; omega
    | kid x _ h hc =>
      right
      have hx := h.range ok
      have := ok x hx.1 hx.2 _ hc
      exact ⟨x, by omega, h, hc⟩
open Classical in
theorem mkB_skip {ns : List Nd} {root i : Nat} (h : ¬ Reach ns (· ∈ [(root : Int)]) (i : Int)) (j : Nat) : mkB ns root i j = mkB ns root (i + 1) j := by
  unfold mkB
  congr 1
  apply propext
  constructor
  · rintro (h1 | ⟨z, hz, h1, h2⟩)
    · exact .inl h1
    · refine .inr ⟨z, ?_, h1, h2⟩
      have : z ≠ (i : Int) := fun e => h (e ▸ h1)
      omega
  · rintro (h1 | ⟨z, hz, h1, h2⟩)
    · exact .inl h1
    · exact .inr ⟨z, by omega, h1, h2⟩
open Classical in
theorem mkB_next {ns : List Nd} {root i : Nat} (h : Reach ns (· ∈ [(root : Int)]) (i : Int)) (j : Nat) : mkB ns root i j = (mkB ns root (i + 1) j || decide ((j : Int) ∈ kids (nodeAt ns (i : Int)))) := by
  unfold mkB
  rw [Bool.eq_iff_iff, Bool.or_eq_true, decide_eq_true_iff, decide_eq_true_iff, decide_eq_true_iff]
  constructor
  · rintro (h1 | ⟨z, hz, h1, h2⟩)
    · exact .inl (.inl h1)
    · by_cases e : z = (i : Int)
      · subst e; exact .inr h2
      · exact .inl (.inr ⟨z, by omega, h1, h2⟩)
  · rintro ((h1 | ⟨z, hz, h1, h2⟩) | h1)
    · exact .inl h1
    · exact .inr ⟨z, by omega, h1, h2⟩
    · exact .inr ⟨i, by omega, h, h1⟩
/-- The marks in memory. -/
def boolV (n : Nat) (f : Nat → Bool) : List Value := (List.range n).map fun j => .bool (f j)
theorem boolV_get (n : Nat) (f : Nat → Bool) (j : Nat) (h : j < n) : (boolV n f)[j]? = some (.bool (f j)) := by simp [boolV, h]
theorem boolV_set (n : Nat) (f : Nat → Bool) (a : Nat) (b : Bool) : (boolV n f).set a (.bool b) = boolV n (fun j => if j = a then b else f j) := by
  apply List.ext_getElem
  · simp [boolV]
  · intro i h1 h2
    simp only [boolV, List.getElem_set, List.getElem_map, List.getElem_range]
    by_cases e : a = i
    · subst e; simp
    · rw [if_neg e, if_neg (fun h => e h.symm)]
/-- Those marked, rising. -/
def marked (f : Nat → Bool) (k : Nat) : List Int := ((List.range k).filter fun j => f j).map fun (i : Nat) => (i : Int)
theorem marked_snoc (f : Nat → Bool) (k : Nat) : marked f (k + 1) = marked f k ++ if f k = true then [(k : Int)] else [] := by
  unfold marked
  rw [List.range_succ, List.filter_append, List.map_append]
  cases h : f k <;> simp [h]
open Classical in
theorem marked_below {ns : List Nd} (ok : OkDag ns) {root : Nat} (hr : root < ns.length) : marked (mkB ns root 0) (root + 1) = belowOf ns (root : Int) := by
  unfold marked belowOf belowL
  have e : List.range ns.length = List.range (root + 1) ++ (List.range (ns.length - (root + 1))).map fun x => root + 1 + x := by
    rw [← List.range_add]
    congr 1
    omega
  rw [e, List.filter_append, List.map_append]
  have h2 : ((List.range (ns.length - (root + 1))).map fun x => root + 1 + x).filter (fun (i : Nat) => decide (Reach ns (· ∈ [(root : Int)]) (i : Int))) = [] := by
    rw [List.filter_eq_nil_iff]
    intro x hx
    rw [List.mem_map] at hx
    obtain ⟨y, _, rfl⟩ := hx
    simp only [decide_eq_true_eq]
    intro h
    have := reach_le ok h
    omega
  rw [h2, List.map_nil, List.append_nil]
  congr 1
  apply List.filter_congr
  intro i hi
  rw [List.mem_range] at hi
  rw [Bool.eq_iff_iff, decide_eq_true_iff]
  have h3 : mkB ns root 0 i = true ↔ mkB ns root (i + 1) i = true := by
    unfold mkB
    rw [decide_eq_true_iff, decide_eq_true_iff]
    constructor
    · rintro (h1 | ⟨z, hz, h1, hk⟩)
      · exact .inl h1
      · have hx := h1.range ok
        have := ok z hx.1 hx.2 _ hk
        exact .inr ⟨z, by omega, h1, hk⟩
    · rintro (h1 | ⟨z, hz, h1, hk⟩)
      · exact .inl h1
      · exact .inr ⟨z, by omega, h1, hk⟩
  rw [h3]
  exact mkB_reach ok hr (by omega)
theorem below_out {ns : List Nd} {root : Int} (h : root < 0 ∨ (ns.length : Int) ≤ root) : belowOf ns root = [] := by
  unfold belowOf belowL
  rw [List.map_eq_nil_iff, List.filter_eq_nil_iff]
  intro i _
  simp only [decide_eq_true_eq]
  intro hr
  have : ∀ x, ¬ Reach ns (· ∈ [root]) x := by
    intro x hx
    induction hx with
    | root x hx h0 h1 => simp at hx; omega
    | kid x c _ _ ih => exact ih
  exact this _ hr
theorem Try.kboolInfo : (Try.prog.info? 4).map (fun i => (i.zero, i.size, i.bytes)) = some (some (.bool false), 1, 1) := by kernel_rfl
theorem bool_parts : ∃ i : TypeInfo, Try.prog.info? 4 = some i ∧ i.zero = some (.bool false) ∧ i.size = 1 ∧ i.bytes = 1 := by
  obtain ⟨i, h, e⟩ := Option.map_eq_some_iff.1 Try.kboolInfo
  simp only [Prod.mk.injEq] at e
  exact ⟨i, h, e.1, e.2.1, e.2.2⟩
set_option maxRecDepth 100000 in
/-- make([]bool, n). -/
theorem make_bools (w : World) (n : Nat) (z : Int) (hz : (n : Int) = z) (hn : (n : Int) ≤ 16000000) : ∃ w', (Instr.makeSlice 37 (.int .i64 z) (.int .i64 z)).run Try.prog w = .ok (.slice (some ⟨w.heap.size, 0, none⟩) n n) w' ∧
    Blk w' w.heap.size 4 (boolV n fun _ => false) ∧ Only [] w w' := by
  subst hz
  obtain ⟨i0, hi, hz0, hz1, hz2⟩ := bool_parts
  obtain ⟨w', hr, ho, hg⟩ := run_make_full (P := Try.prog) w 0 37 4 i0 _ 1 Try.underlying37 hi hz0 hz1 .i64 .i64 n (by rw [hz2]; omega) (by simp only [maxLen]; omega) (Nat.zero_le _)
  refine ⟨w', hr, ?_, Only.of_grown hg (by simp)⟩
  rcases ho.2 with ⟨h0, _⟩ | ⟨g, cap, cur, e, _, hb, _, _, hs, ht⟩
  · cases h0
  · injection e with e1 e2 e3
    injection e1 with e1
    injection e1 with e1 _ _
    subst e1 e3
    unfold Blk
    rw [hb]
    congr 2
    apply Array.ext'
    rw [← List.take_of_length_le (l := cur.toList) (i := n * 1) (by simp [hs]), ht]
    have e : (Value.bool false).cells = #[.bool false] := rfl
    simp only [madeCells, e, boolV]
    simp [Nat.mod_one]
set_option maxRecDepth 100000 in
/-- make([]int, 0, n). -/
theorem make_intsC (w : World) (n : Nat) (hn : (n : Int) ≤ 16000000) : ∃ w', (Instr.makeSlice 22 (.int .i64 0) (.int .i64 (n : Int))).run Try.prog w = .ok (.slice (some ⟨w.heap.size, 0, none⟩) 0 n) w' ∧
    IntsAt w' (.slice (some ⟨w.heap.size, 0, none⟩) 0 n) [] ∧ Only [] w w' := by
  obtain ⟨i0, hi, hz0, hz1, hz2⟩ := int_parts
  obtain ⟨w', hr, ho, hg⟩ := run_make_own (P := Try.prog) w 0 22 3 i0 _ 1 Try.underlying22 hi hz0 hz1 .i64 .i64 n (by rw [hz2]; omega) (by simp only [maxLen]; omega) (Nat.zero_le _)
  exact ⟨w', hr, ho, Only.of_grown hg (by simp)⟩

/-- The mark of an operand. -/
theorem mkB_kids {ns : List Nd} {root i : Nat} (h : Reach ns (· ∈ [(root : Int)]) (i : Int)) {K : List Nat} (hK : kids (nodeAt ns (i : Int)) = K.map fun (x : Nat) => (x : Int)) : mkB ns root i = fun j => mkB ns root (i + 1) j || decide (j ∈ K) := by
  funext j
  rw [mkB_next h, hK]
  congr 1
  have e : ((j : Int) ∈ K.map fun (x : Nat) => (x : Int)) = (j ∈ K) := by
    apply propext
    rw [List.mem_map]
    constructor
    · rintro ⟨x, hx, e⟩
      obtain rfl : x = j := by omega
      exact hx
    · exact fun h => ⟨j, h, rfl⟩
  simp only [e]

set_option maxHeartbeats 3200000 in
set_option maxRecDepth 100000 in
theorem rbelow_in (A : Option Addr) (c : Nat) (ns : List Nd) (r : Nat) (w : World) (hA : Hid (NRead w A ns)) (ok : Hid (OkDag ns)) (hl : (ns.length : Int) ≤ 20000) (hr : (r : Int) < (ns.length : Int)) :
    Calls Try.prog 8 #[.slice A ns.length c, .int .i64 (r : Int)] w fun e w' => ∃ u, e = .returned u ∧ IntsAt w' u (belowOf ns (r : Int)) ∧ (∀ g, u.ownBlock = some g → w.heap.size ≤ g) ∧ Only [] w w' := by
  obtain ⟨i0, hi, hz0, hz1, hz2⟩ := int_parts
  obtain ⟨w1, hmk, hb1, ho1⟩ := make_bools w (r + 1) ((r : Int) + 1) (by omega) (by omega)
  have c0 := hb1.cell r
  rw [boolV_get _ _ _ (by omega)] at c0
  have f0 := hb1.frozen r
  have HB1 : Hid (Blk (w1.setCell ⟨w.heap.size, r, none⟩ (.bool true)) w.heap.size 4 (boolV (r + 1) (mkB ns r (r + 1)))) := by
    have h := hb1.set_ r (.bool true)
    rw [boolV_set] at h
    have e : (fun j => if j = r then true else false) = mkB ns r (r + 1) := by
      funext j
      rw [mkB_start ok.out]
      by_cases e : j = r <;> simp [e]
    rw [e] at h
    exact h
  have HO1 : Hid (Only [] w (w1.setCell ⟨w.heap.size, r, none⟩ (.bool true))) := ho1.setCell (.inr (Nat.le_refl _)) _
  clear hb1 ho1
  have hr0 : ¬ (r : Int) < 0 := by omega
  go_enter Try.func8, Try.ntmps8
  go_wp2_with fail
  clear hmk c0 f0
  generalize hgg : w.heap.size = g at *
  have HG := Lib.hid hgg
  clear hgg
  generalize w1.setCell ⟨g, r, none⟩ (.bool true) = w2 at *
  go_loopw [6, 7] (fun n i wr => ∃ k : Nat, k ≤ r + 1 ∧ (∃ z : Int, i = .int .i64 z ∧ z + 1 = (k : Int)) ∧ (∃ m : Nat, n = .int .i64 (m : Int) ∧ m + k ≤ r + 1) ∧ Blk wr g 4 (boolV (r + 1) (mkB ns r k)) ∧ Only [] w wr) (fun _ i _ => (intOf i + 1).toNat)
  case atStart => exact ⟨r + 1, Nat.le_refl _, ⟨_, rfl, by omega⟩, ⟨0, rfl, by omega⟩, HB1.out, HO1.out⟩
  case round =>
    obtain ⟨k, hk, ⟨z, rfl, hz⟩, ⟨m, rfl, hm⟩, hB, ho⟩ := hrel
    have HB := Lib.hid hB
    have HO := Lib.hid ho
    clear hB ho HB1 HO1
    by_cases h0 : 0 ≤ z
    · obtain ⟨j, rfl⟩ : ∃ j : Nat, z = (j : Int) := ⟨z.toNat, by omega⟩
      obtain rfl : k = j + 1 := by omega
      have cj := HB.out.cell j
      rw [boolV_get _ _ _ (by omega)] at cj
      by_cases hR : Reach ns (· ∈ [(r : Int)]) (j : Int)
      · rw [(mkB_reach ok.out (by omega) (by omega)).2 hR] at cj
        obtain ⟨bb, o, rfl, hc⟩ := hA.out.only HO.out j (by omega)
        obtain ⟨n0, n1, n2, n3⟩ := hc
        have hkid := ok.out (j : Int) (by omega) (by omega)
        have hnode : nodeAt ns (j : Int) = ns[j]?.getD nd0 := by unfold nodeAt; rw [Int.toNat_natCast]; rfl
        have HN := Lib.hid hnode
        rw [hnode] at hkid
        generalize ns[j]?.getD nd0 = nd at n0 n1 n2 n3 hkid HN
        obtain ⟨nk, nf, na, nb⟩ := nd
        simp only at n0 n1 n2 n3
        have HRr := Lib.hid hR
        clear hR hnode n1
        by_cases hk0 : nk = 0
        · subst hk0
          have hBB : Hid (Blk wr g 4 (boolV (r + 1) (mkB ns r j))) := by
            rw [mkB_kids HRr.out (K := []) (by rw [HN.out]; rfl)]
            have e : (fun i => mkB ns r (j + 1) i || decide (i ∈ ([] : List Nat))) = mkB ns r (j + 1) := by funext i; simp
            rw [e]
            exact HB.out
          clear hkid
          go_wp2_with fail
          go_roundw
          case rel => exact ⟨j, by omega, ⟨_, rfl, by omega⟩, ⟨m + 1, by go_num, by omega⟩, hBB.out, HO.out⟩
          case measure => simp [intOf] <;> omega
        · have ha : 0 ≤ na ∧ na < (j : Int) := hkid na (by unfold kids; rw [if_neg hk0]; split <;> simp)
          obtain ⟨a, rfl⟩ : ∃ a : Nat, na = (a : Int) := ⟨na.toNat, by omega⟩
          have ca := HB.out.cell a
          rw [boolV_get _ _ _ (by omega)] at ca
          have fa := HB.out.frozen a
          have HB2 : Hid (Blk (wr.setCell ⟨g, a, none⟩ (.bool true)) g 4 (boolV (r + 1) (fun i => if i = a then true else mkB ns r (j + 1) i))) := by
            have h := HB.out.set_ a (.bool true)
            rw [boolV_set] at h
            exact h
          have HO2 : Hid (Only [] w (wr.setCell ⟨g, a, none⟩ (.bool true))) := HO.out.setCell (.inr (by have := HG.out; show _ ≤ g; omega)) _
          have hab : a < r + 1 := by omega
          generalize hv : mkB ns r (j + 1) a = va at ca
          clear hv
          by_cases hk5 : nk = 5
          · subst hk5
            have hBB : Hid (Blk (wr.setCell ⟨g, a, none⟩ (.bool true)) g 4 (boolV (r + 1) (mkB ns r j))) := by
              rw [mkB_kids HRr.out (K := [a]) (by rw [HN.out]; rfl)]
              have h := HB2.out
              have e : (fun i => if i = a then true else mkB ns r (j + 1) i) = fun i => mkB ns r (j + 1) i || decide (i ∈ [a]) := by
                funext i
                by_cases e : i = a <;> simp [e]
              rw [e] at h
              exact h
            clear hkid
            go_wp2_with fail
            go_roundw
            case rel => exact ⟨j, by omega, ⟨_, rfl, by omega⟩, ⟨m + 1, by go_num, by omega⟩, hBB.out, HO2.out⟩
            case measure => simp [intOf] <;> omega
          · have hb : 0 ≤ nb ∧ nb < (j : Int) := hkid nb (by unfold kids; rw [if_neg hk0, if_neg hk5]; simp)
            obtain ⟨b, rfl⟩ : ∃ b : Nat, nb = (b : Int) := ⟨nb.toNat, by omega⟩
            have cb := HB2.out.cell b
            rw [boolV_get _ _ _ (by omega)] at cb
            have fb := HB2.out.frozen b
            have hbb : b < r + 1 := by omega
            have HO3 : Hid (Only [] w ((wr.setCell ⟨g, a, none⟩ (.bool true)).setCell ⟨g, b, none⟩ (.bool true))) := HO2.out.setCell (.inr (by have := HG.out; show _ ≤ g; omega)) _
            have hBB : Hid (Blk ((wr.setCell ⟨g, a, none⟩ (.bool true)).setCell ⟨g, b, none⟩ (.bool true)) g 4 (boolV (r + 1) (mkB ns r j))) := by
              rw [mkB_kids HRr.out (K := [a, b]) (by rw [HN.out]; unfold kids; rw [if_neg hk0, if_neg hk5]; rfl)]
              have h := HB2.out.set_ b (.bool true)
              rw [boolV_set] at h
              have e : (fun i => if i = b then true else if i = a then true else mkB ns r (j + 1) i) = fun i => mkB ns r (j + 1) i || decide (i ∈ [a, b]) := by
                funext i
                by_cases e : i = a <;> by_cases e' : i = b <;> simp [e, e']
              rw [e] at h
              exact h
            generalize hv : (if b = a then true else mkB ns r (j + 1) b) = vb at cb
            clear hkid hv
            obtain ⟨d0, d2, d3⟩ : (wr.setCell ⟨g, a, none⟩ (.bool true)).cell? ⟨bb, o + j * 4, none⟩ = some (.int .i64 nk) ∧ True ∧ (wr.setCell ⟨g, a, none⟩ (.bool true)).cell? ⟨bb, o + j * 4 + 3, none⟩ = some (.int .i64 (b : Int)) := by
              obtain ⟨b', o', e, hc⟩ := hA.out.only HO2.out j (by omega)
              injection e with e
              injection e with e1 e2
              subst e1 e2
              have hnode := HN.out
              unfold nodeAt at hnode
              rw [Int.toNat_natCast] at hnode
              have hnode' : ns[j]?.getD nd0 = ⟨nk, nf, a, b⟩ := hnode
              rw [hnode'] at hc
              exact ⟨hc.1, trivial, hc.2.2.2⟩
            clear d2
            go_wp2_with fail
            go_roundw
            case rel => exact ⟨j, by omega, ⟨_, rfl, by omega⟩, ⟨m + 1, by go_num, by omega⟩, hBB.out, HO3.out⟩
            case measure => simp [intOf] <;> omega
      · have hf : mkB ns r (j + 1) j = false := by
          cases h : mkB ns r (j + 1) j
          · rfl
          · exact absurd ((mkB_reach ok.out (by omega) (by omega)).1 h) hR
        rw [hf] at cj
        have hBB : Hid (Blk wr g 4 (boolV (r + 1) (mkB ns r j))) := by
          have e : mkB ns r j = mkB ns r (j + 1) := funext (mkB_skip hR)
          rw [e]
          exact HB.out
        clear hR hf
        go_wp2_with fail
        go_roundw
        case rel => exact ⟨j, by omega, ⟨_, rfl, by omega⟩, ⟨m, by go_num, by omega⟩, hBB.out, HO.out⟩
        case measure => simp [intOf] <;> omega
    · obtain rfl : k = 0 := by omega
      clear hk
      obtain ⟨w3, hmk, hu, ho3⟩ := make_intsC wr m (by omega)
      have HB3 := Lib.hid (HB.out.only ho3 (by simp))
      have HO3 := Lib.hid (HO.out.nil_trans ho3)
      have HU := Lib.hid hu
      have HF3 : Hid (w.heap.size ≤ wr.heap.size) := HO.out.size
      clear hu ho3 HB
      generalize hff : mkB ns r 0 = f at *
      have HFf := Lib.hid hff
      clear hff
      go_wp2_with fail
      clear hmk
      generalize wr.heap.size = g3 at *
      go_loopw [8, 9] (fun out i wr => ∃ k : Nat, k ≤ r + 1 ∧ i = .int .i64 (k : Int) ∧ IntsAt wr out (marked f k) ∧ (∀ q, out.ownBlock = some q → w.heap.size ≤ q) ∧ Blk wr g 4 (boolV (r + 1) f) ∧ Only [] w wr) (fun _ i _ => r + 1 - (intOf i).toNat)
      case atStart => exact ⟨0, Nat.zero_le _, rfl, HU.out, fun q hq => by
        have e : g3 = q := by simpa [Value.ownBlock] using hq
        have := HF3.out
        omega, HB3.out, HO3.out⟩
      case round =>
        obtain ⟨k, hk, rfl, hu, hq, hB, ho⟩ := hrel
        have HBq := Lib.hid hB
        have HOq := Lib.hid ho
        have HUq := Lib.hid hu
        have HQ := Lib.hid hq
        obtain ⟨Au, cu, rfl, -⟩ := hu.shape
        clear hB ho hu hq HB3 HO3 HU
        by_cases hkr : (k : Int) ≤ (r : Int)
        · have ck := HBq.out.cell k
          rw [boolV_get _ _ _ (by omega)] at ck
          have hms := marked_snoc f k
          cases hfk : f k with
          | false =>
            rw [hfk] at ck hms
            have HM := Lib.hid hms
            clear hms
            go_wp2_with fail
            go_roundw
            case rel => exact ⟨k + 1, by omega, by go_num, by rw [HM.out]; simpa using HUq.out, HQ.out, HBq.out, HOq.out⟩
            case measure => simp [intOf] <;> omega
          | true =>
            rw [hfk] at ck hms
            have HM := Lib.hid hms
            have HL : Hid ((marked f k).length ≤ r + 1) := by
              have h := List.length_filter_le (fun j => f j) (List.range k)
              have e : (marked f k).length = ((List.range k).filter fun j => f j).length := by simp [marked]
              show _ ≤ _
              rw [e]
              rw [List.length_range] at h
              omega
            clear hms
            go_wp2_with (at_builtin; refine wpList_append_lies _ rfl _ _ _ rfl 0 3 i0 _ 1 8 Try.underlying22 hi hz0 hz1 hz2 rfl (by decide) (.slice Au (marked f k).length cu) (marked f k).length (ints (marked f k)) rfl (by have h := HUq.out.only ((Only.refl [] wr).alloc (.cells #[.int .i64 (k : Int)] 3)) (by simp); exact h) ⟨wr.heap.size, 0, none⟩ 1 1 [.int .i64 (k : Int)] rfl rfl (by exact cell_one_new _ _ _) (by simp [Value.oneCell']) (by decide) (by have := HL.out; simp only [maxLen]; omega) (by have := HL.out; omega) (Nat.zero_le _) (wr.heap.size + 1) (by simp) ?_; intro g' cap w4 hown hgr hat hlt)
            have ho4 : Only (Value.slice Au (marked f k).length cu).ownBlock.toList wr w4 := ((Only.refl _ wr).alloc (.cells #[.int .i64 (k : Int)] 3)).trans (Only.of_grown (S := (Value.slice Au (marked f k).length cu).ownBlock.toList) hgr (by simp)) (fun x hx => .inl hx)
            have hB4 : Blk w4 g 4 (boolV (r + 1) f) := HBq.out.only ho4 (fun hm => by
              obtain ⟨cs, fr, hc⟩ := HUq.out.typ (g := g) (by simpa using hm)
              exact heap_ne hc HBq.out (by intro e; injection e with _ e2; exact absurd e2 (by decide)) rfl)
            go_roundw
            case rel =>
              refine ⟨k + 1, by omega, by go_num, ?_, ?_, hB4, HOq.out.trans ho4 (fun x hx => .inr (HQ.out x (by simpa using hx)))⟩
              · rw [HM.out]
                unfold IntsAt
                simpa [ints] using hown
              · intro q hq
                have e : g' = q := by simpa [Value.ownBlock] using hq
                subst e
                rcases hat with h | h
                · exact HQ.out g' h
                · have := HOq.out.size
                  omega
            case measure => simp [intOf] <;> omega
        · obtain rfl : k = r + 1 := by omega
          go_wp2_with fail
          go_returns
          refine ⟨_, rfl, ?_, HQ.out, HOq.out⟩
          have h := HUq.out
          rw [← HFf.out, marked_below ok.out (by omega)] at h
          rw [← HFf.out, marked_below ok.out (by omega)]
          exact h

theorem rbelow_any (A : Option Addr) (c : Nat) (ns : List Nd) (root : Int) (w : World) (hA : Hid (NRead w A ns)) (ok : Hid (OkDag ns)) (hl : (ns.length : Int) ≤ 20000) :
    Calls Try.prog 8 #[.slice A ns.length c, .int .i64 root] w fun e w' => ∃ u, e = .returned u ∧ IntsAt w' u (belowOf ns root) ∧ (∀ g, u.ownBlock = some g → w.heap.size ≤ g) ∧ Only [] w w' := by
  by_cases h0 : root < 0
  · rw [below_out (.inl h0)]
    go_enter Try.func8, Try.ntmps8
    go_wp2_with fail
    go_returns
    exact ⟨_, rfl, World.ownsRow_nil _ _ _ _, fun g hg => by simp [Value.ownBlock] at hg, Only.refl _ _⟩
  · by_cases h1 : root < (ns.length : Int)
    · obtain ⟨r, rfl⟩ : ∃ r : Nat, root = (r : Int) := ⟨root.toNat, by omega⟩
      exact rbelow_in A c ns r w hA ok hl h1
    · rw [below_out (.inr (by omega))]
      have h2 : (ns.length : Int) ≤ root := by omega
      go_enter Try.func8, Try.ntmps8
      go_wp2_with fail
      go_returns
      exact ⟨_, rfl, World.ownsRow_nil _ _ _ _, fun g hg => by simp [Value.ownBlock] at hg, Only.refl _ _⟩
end Go.Proofs.Ytljeaomdcednlaa
