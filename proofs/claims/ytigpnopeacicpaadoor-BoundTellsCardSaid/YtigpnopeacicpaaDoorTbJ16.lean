/-
  Joined texts.
-/
import Derived.Test.YtigpnopeacicpaaDoorTbJ14
import Derived.Test.YtigpnopeacicpaaDoorTbTreeV
import Derived.Test.YtigpnopeacicpaaDoorTbJ11
import Derived.Test.YtigpnopeacicpaaDoorTbJ0
import Derived.Test.YtigpnopeacicpaaDoorTbJ5
import Derived.Laws.Bits64b
/-
  Dags as they should be; the first call of compasslaw11.
-/
namespace Go.Proofs.YtigpnopeacicpaaDoor
set_option linter.unusedSimpArgs false
open Go.RowKit
attribute [local go_sem] run_store_float

theorem dag_ok {L : List Nd} (hok : AllOk L) (hf : ∀ k, k < L.length → (L[k]?.getD nd0).f < 2 ^ 64) (hl : L.length ≤ 20000) : DagOk L := by
  refine ⟨ok_dag hok, hl, fun x hx => ?_⟩
  have h := hok x hx
  have hfx := hf x hx
  unfold okB at h
  have hn : nodeAt L (x : Int) = L[x]?.getD nd0 := by unfold nodeAt; rw [Int.toNat_natCast]; rfl
  rw [hn]
  generalize L[x]?.getD nd0 = n at h hfx
  unfold takesB at h
  rw [Bool.and_eq_true] at h
  obtain ⟨h1, h2⟩ := h
  simp only [validB, decide_eq_true_eq] at h1
  refine ⟨⟨by omega, fun h0 => ?_⟩, by unfold Small; omega, by unfold Small; omega⟩
  rw [if_pos h0] at h2
  exact ⟨h2, hfx⟩
theorem roots_leaf {ns : List Nd} (ok : OkDag ns) {x : Nat} (hk : (nodeAt ns (x : Int)).k = 0) : rootsL ns (belowOf ns (x : Int)) = 0 := by
  rw [rootsL_below, List.countP_eq_zero]
  intro i _ h
  simp only [decide_eq_true_eq] at h
  rcases reach_step ok h.1 with e | ⟨c, hc, _⟩
  · have : (i : Int) = (x : Int) := e
    rw [this, hk] at h
    exact absurd h.2 (by decide)
  · unfold kids at hc
    rw [if_pos hk] at hc
    simp at hc
def ns11 : List Nd := [⟨0, 4611686018427387904, 0, 0⟩, ⟨5, 0, 0, 0⟩]
theorem ok11 : AllOk ns11 := by
  intro j hj
  have : j = 0 ∨ j = 1 := by simp [ns11] at hj; omega
  rcases this with rfl | rfl <;> decide +kernel
theorem f11 : ∀ k, k < ns11.length → (ns11[k]?.getD nd0).f < 2 ^ 64 := by
  intro j hj
  have : j = 0 ∨ j = 1 := by simp [ns11] at hj; omega
  rcases this with rfl | rfl <;> decide
theorem dag11 : DagOk ns11 := dag_ok ok11 f11 (by decide)
theorem dyW_2 : dyW 4611686018427387904 = ⟨1, 1⟩ := by
  unfold dyW Fl.fD
  rw [show Fl.mantW (4611686018427387904 % 9223372036854775808) = 4503599627370496 by decide, show Fl.expoW (4611686018427387904 % 9223372036854775808) = 1023 by decide]
  exact nrm_eval 52 0 (by decide)
theorem ent11_0 : ent lfB ns11 0 = ⟨2, 0, true⟩ := by
  have h := ent_eq lfB dag11.ok dag11.nodes.kind (x := 0) (by decide)
  rw [show ((0 : Nat) : Int) = 0 from rfl] at h
  rw [h]
  have e : nodeAt ns11 0 = ⟨0, 4611686018427387904, 0, 0⟩ := by decide
  rw [e]
  have e2 : combE lfB ⟨0, 4611686018427387904, 0, 0⟩ (ent lfB ns11 0) (ent lfB ns11 0) = lfB 4611686018427387904 := rfl
  show clipE (combE lfB ⟨0, 4611686018427387904, 0, 0⟩ (ent lfB ns11 0) (ent lfB ns11 0)) = _
  rw [e2]
  have e3 : lfB 4611686018427387904 = ⟨2, 0, true⟩ := by
    unfold lfB
    rw [if_pos ⟨by decide, by decide⟩, dyW_2]
    unfold leafE
    rw [if_neg (by decide)]
    have : bitsN (Dy.z ⟨1, 1⟩).natAbs = 1 := by decide +kernel
    rw [this]
    rfl
  rw [e3]
  rfl
theorem ent11_1 : ent lfB ns11 1 = ⟨1, 0, true⟩ := by
  have h := ent_eq lfB dag11.ok dag11.nodes.kind (x := 1) (by decide)
  rw [show ((1 : Nat) : Int) = 1 from rfl] at h
  rw [h]
  have e : nodeAt ns11 1 = ⟨5, 0, 0, 0⟩ := by decide
  rw [e]
  show clipE (combE lfB ⟨5, 0, 0, 0⟩ (ent lfB ns11 0) (ent lfB ns11 0)) = _
  rw [ent11_0]
  rfl
theorem roots11 : rootsL ns11 (belowOf ns11 1) = 1 := by
  have h := roots_root dag11.ok (x := 1) (by decide) (by decide)
  rw [show ((1 : Nat) : Int) = 1 from rfl] at h
  rw [h]
  have e : (nodeAt ns11 1).a = 0 := by decide
  rw [e]
  have h2 := roots_leaf dag11.ok (x := 0) (by decide)
  rw [show ((0 : Nat) : Int) = 0 from rfl] at h2
  rw [h2]
theorem sep11 : sepB lfB ns11 1 = true ∧ sepV lfB ns11 1 = 3 := by
  unfold sepB sepV
  rw [ent11_1, roots11]
  decide

set_option maxHeartbeats 1600000 in
set_option maxRecDepth 100000 in
theorem alive11_any (w : World) (hT : Hid (Tab6 w)) : Calls Tryd.prog 6 #[] w fun e w' => e = .returned (.bool true) ∧ Only [] w w' := by
  go_enter Tryd.func6, Tryd.ntmps6
  go_wp2_with fail
  have HB := Lib.hid (Blk.new w 31 [.int .i64 0, .float .f64 4611686018427387904, .int .i64 0, .int .i64 0, .int .i64 5, .float .f64 0, .int .i64 0, .int .i64 0])
  have HA : Hid (NRead (w.alloc (.cells #[.int .i64 0, .float .f64 4611686018427387904, .int .i64 0, .int .i64 0, .int .i64 5, .float .f64 0, .int .i64 0, .int .i64 0] 31)) (some ⟨w.heap.size, 0, none⟩) ns11) := fun k hk => by
    refine ⟨w.heap.size, 0, rfl, ?_⟩
    have : k = 0 ∨ k = 1 := by simp [ns11] at hk; omega
    rcases this with rfl | rfl
    · exact ⟨HB.out.cell 0, HB.out.cell 1, HB.out.cell 2, HB.out.cell 3⟩
    · exact ⟨HB.out.cell 4, HB.out.cell 5, HB.out.cell 6, HB.out.cell 7⟩
  refine (load10_any (some ⟨w.heap.size, 0, none⟩) 2 ns11 _ HA f11 (by decide) (Lib.hid ok11)).mono ?_
  rintro e w1 ⟨d, v, rfl, hown⟩
  have HD := Lib.hid hown.is
  have HO1 : Hid (Only [] w w1) := ((Only.refl [] w).alloc _).nil_trans hown.only
  clear hown HA HB
  go_wp2_with fail
  refine (bof_in d v ns11 1 ⟨1, 0, true⟩ 1 w1 (Lib.hid (hT.out.keep HO1.out)) HD (Lib.hid dag11) (by decide) (Lib.hid ent11_1) (Lib.hid roots11)).mono ?_
  rintro e w2 ⟨rfl, ho⟩
  have HO2 : Hid (Only [] w1 (w2.alloc (.cells #[.int .i64 1, .int .i64 0, .int .i64 1] 35))) := ho.alloc _
  clear ho
  go_wp2_with fail
  refine (bsep_in d v ns11 1 _ (Lib.hid (hT.out.keep (HO1.out.nil_trans HO2.out))) (Lib.hid (HD.out.only HO2.out (by simp))) (Lib.hid dag11) (by decide)).mono ?_
  rw [show ((1 : Nat) : Int) = 1 from rfl, sep11.1, sep11.2]
  rintro e w3 ⟨rfl, ho⟩
  have HO3 := Lib.hid (HO2.out.nil_trans ho)
  have hbx := Lib.hid ((Blk.new w2 35 [.int .i64 1, .int .i64 0, .int .i64 1]).only ho (by simp))
  have b0 := hbx.out.cell 0
  have b1 := hbx.out.cell 1
  have b2 := hbx.out.cell 2
  simp only [List.getElem?_cons_zero, List.getElem?_cons_succ] at b0 b1 b2
  clear ho hbx
  have heq : ∀ w : World, (binOp .eql 35 (bndV 1 0 1) (bndV 1 0 1)).run Tryd.prog w = .ok (.bool true) w := fun w => by kernel_rfl
  go_wp2_with fail
  go_ret
  exact ⟨rfl, HO1.out.nil_trans HO3.out⟩
end Go.Proofs.YtigpnopeacicpaaDoor

/-
  Package bound, plain: the set of a number's roots, by their places among those of a list.
-/
namespace Go.Proofs.YtigpnopeacicpaaDoor

/-- The roots of a list. -/
def rt (ns : List Nd) (L : List Int) : List Int := L.filter fun x => (nodeAt ns x).k == 5
theorem rt_app (ns : List Nd) (L M : List Int) : rt ns (L ++ M) = rt ns L ++ rt ns M := by simp [rt]
open Classical in
/-- Is the j-th root of L among those that y is made of? -/
noncomputable def setP (ns : List Nd) (L : List Int) (y : Int) (j : Nat) : Bool := decide (j < (rt ns L).length ∧ Reach ns (· ∈ [y]) ((rt ns L)[j]?.getD 0))
theorem setP_far {ns : List Nd} {L : List Int} (y : Int) {j : Nat} (h : (rt ns L).length ≤ j) : setP ns L y j = false := by
  unfold setP
  rw [decide_eq_false_iff_not]
  omega
theorem rt_mem {ns : List Nd} {L : List Int} {j : Nat} (h : j < (rt ns L).length) : (rt ns L)[j]?.getD 0 ∈ L ∧ (nodeAt ns ((rt ns L)[j]?.getD 0)).k = 5 := by
  rw [List.getElem?_eq_getElem h]
  have hm : (rt ns L)[j] ∈ rt ns L := List.getElem_mem h
  have := List.mem_filter.1 hm
  exact ⟨this.1, by simpa using this.2⟩
theorem setP_leaf {ns : List Nd} (ok : OkDag ns) {L : List Int} {x : Int} (h0 : (nodeAt ns x).k = 0) (j : Nat) : setP ns L x j = false := by
  unfold setP
  rw [decide_eq_false_iff_not]
  rintro ⟨h1, h2⟩
  have h3 := (rt_mem h1).2
  rcases reach_step ok h2 with e | ⟨c, hc, _⟩
  · rw [e, h0] at h3
    exact absurd h3 (by decide)
  · unfold kids at hc
    rw [if_pos h0] at hc
    simp at hc
open Classical in
theorem setP_two {ns : List Nd} (ok : OkDag ns) {L : List Int} {x : Int} (hx : 0 ≤ x ∧ x < ns.length) (h0 : (nodeAt ns x).k ≠ 0) (h5 : (nodeAt ns x).k ≠ 5) (j : Nat) : setP ns L x j = (setP ns L (nodeAt ns x).a j || setP ns L (nodeAt ns x).b j) := by
  have hk : kids (nodeAt ns x) = [(nodeAt ns x).a, (nodeAt ns x).b] := by unfold kids; rw [if_neg h0, if_neg h5]
  unfold setP
  rw [Bool.eq_iff_iff, Bool.or_eq_true, decide_eq_true_iff, decide_eq_true_iff, decide_eq_true_iff]
  constructor
  · rintro ⟨h1, h2⟩
    rcases reach_step ok h2 with e | ⟨c, hc, h3⟩
    · have := (rt_mem h1).2
      rw [e] at this
      exact absurd this h5
    · rw [hk] at hc
      have : c = (nodeAt ns x).a ∨ c = (nodeAt ns x).b := by simpa using hc
      rcases this with rfl | rfl
      · exact .inl ⟨h1, h3⟩
      · exact .inr ⟨h1, h3⟩
  · rintro (⟨h1, h2⟩ | ⟨h1, h2⟩)
    · exact ⟨h1, reach_up hx.1 hx.2 (by rw [hk]; simp) h2⟩
    · exact ⟨h1, reach_up hx.1 hx.2 (by rw [hk]; simp) h2⟩
theorem rt_at {ns : List Nd} {L : List Int} {k : Nat} (hk : k < L.length) (h5 : (nodeAt ns (L[k]?.getD 0)).k = 5) : (rt ns L)[(rt ns (L.take k)).length]?.getD 0 = L[k]?.getD 0 ∧ (rt ns (L.take k)).length < (rt ns L).length := by
  rw [List.getElem?_eq_getElem hk, Option.getD_some] at h5 ⊢
  have e2 : rt ns L = rt ns (L.take k) ++ L[k] :: rt ns (L.drop (k + 1)) := by
    have e3 : rt ns L = rt ns (L.take k ++ L.drop k) := by rw [List.take_append_drop]
    rw [e3, rt_app, List.drop_eq_getElem_cons hk]
    congr 1
    unfold rt
    rw [List.filter_cons_of_pos (by simpa using h5)]
  rw [e2]
  exact ⟨by rw [List.getElem?_append_right (by omega), Nat.sub_self]; rfl, by simp⟩
theorem rt_nodup {ns : List Nd} {L : List Int} (h : L.Pairwise (· < ·)) : (rt ns L).Pairwise (· < ·) := h.filter _
open Classical in
theorem setP_root {ns : List Nd} (ok : OkDag ns) {L : List Int} (hL : L.Pairwise (· < ·)) {k : Nat} (hk : k < L.length) (hx : 0 ≤ L[k]?.getD 0 ∧ L[k]?.getD 0 < ns.length) (h5 : (nodeAt ns (L[k]?.getD 0)).k = 5) (j : Nat) :
    setP ns L (L[k]?.getD 0) j = (setP ns L (nodeAt ns (L[k]?.getD 0)).a j || decide (j = (rt ns (L.take k)).length)) := by
  obtain ⟨h1, h2⟩ := rt_at hk h5
  generalize L[k]?.getD 0 = x at *
  have hkd : kids (nodeAt ns x) = [(nodeAt ns x).a] := by unfold kids; rw [if_neg (by omega), if_pos h5]
  unfold setP
  rw [Bool.eq_iff_iff, Bool.or_eq_true, decide_eq_true_iff, decide_eq_true_iff, decide_eq_true_iff]
  constructor
  · rintro ⟨h3, h4⟩
    rcases reach_step ok h4 with e | ⟨c, hc, h6⟩
    · right
      rw [List.getElem?_eq_getElem h3, Option.getD_some] at e
      rw [List.getElem?_eq_getElem h2, Option.getD_some] at h1
      have hp := List.pairwise_iff_getElem.1 (rt_nodup (ns := ns) hL)
      rcases Nat.lt_trichotomy j (rt ns (L.take k)).length with h | h | h
      · have := hp j _ h3 h2 h
        omega
      · exact h
      · have := hp _ j h2 h3 h
        omega
    · rw [hkd] at hc
      have : c = (nodeAt ns x).a := by simpa using hc
      exact .inl ⟨h3, this ▸ h6⟩
  · rintro (⟨h3, h4⟩ | rfl)
    · exact ⟨h3, reach_up hx.1 hx.2 (by rw [hkd]; simp) h4⟩
    · exact ⟨h2, by rw [h1]; exact .root _ (by simp) hx.1 hx.2⟩
theorem range_count {α : Type} (p : α → Bool) (d : α) : ∀ (l : List α), (List.range l.length).countP (fun j => p (l[j]?.getD d)) = l.countP p
  | [] => by simp
  | x :: l => by
    rw [List.length_cons, List.range_succ_eq_map, List.countP_cons, List.countP_map, List.countP_cons]
    have e : (fun j => p ((x :: l)[j]?.getD d)) ∘ Nat.succ = fun j => p (l[j]?.getD d) := by
      funext j
      simp
    rw [e, range_count p d l]
    simp
open Classical in
/-- As many as there are roots in what it is made of. -/
theorem setP_count {ns : List Nd} (ok : OkDag ns) {R : Int → Prop} {y : Int} (hy : y ∈ belowL ns R) : (List.range (rt ns (belowL ns R)).length).countP (setP ns (belowL ns R) y) = rootsL ns (belowOf ns y) := by
  have h1 : (List.range (rt ns (belowL ns R)).length).countP (setP ns (belowL ns R) y) = (List.range (rt ns (belowL ns R)).length).countP (fun j => decide (Reach ns (· ∈ [y]) ((rt ns (belowL ns R))[j]?.getD 0))) := by
    apply List.countP_congr
    intro j hj
    rw [List.mem_range] at hj
    unfold setP
    simp [hj]
  rw [h1, range_count (fun x => decide (Reach ns (· ∈ [y]) x)) 0, List.countP_eq_length_filter]
  have h2 : (rt ns (belowL ns R)).filter (fun x => decide (Reach ns (· ∈ [y]) x)) = rt ns (belowOf ns y) := by
    refine asc_ext _ _ ((rt_nodup (belowL_asc ns R)).filter _) (rt_nodup (belowL_asc ns _)) (fun x => ?_)
    have hr := (mem_belowL ok).1 hy
    unfold rt belowOf
    rw [List.mem_filter, List.mem_filter, List.mem_filter, mem_belowL ok, mem_belowL ok, decide_eq_true_iff]
    constructor
    · rintro ⟨⟨_, h5⟩, h⟩
      exact ⟨h, h5⟩
    · rintro ⟨h, h5⟩
      exact ⟨⟨reach_kid hr h, h5⟩, h⟩
  rw [h2]
  rfl
end Go.Proofs.YtigpnopeacicpaaDoor

/-
  How many bits are set: what the shifts and masks of bits.OnesCount64 compute (plain).
-/
namespace Go.Proofs.YtigpnopeacicpaaDoor
/-- The sum of the first n digits to the base 2^k. -/
def dsum (k : Nat) : Nat → Nat → Nat
  | 0, _ => 0
  | n + 1, x => x % 2 ^ k + dsum k n (x / 2 ^ k)
/-- Each of the first n digits to the base 2^k is b at most. -/
def dle (k b : Nat) : Nat → Nat → Prop
  | 0, _ => True
  | n + 1, x => x % 2 ^ k ≤ b ∧ dle k b n (x / 2 ^ k)
/-- The lower halves of n digits of 2 s bits. -/
def lows (s : Nat) : Nat → Nat
  | 0 => 0
  | n + 1 => 2 ^ (2 * s) * lows s n + (2 ^ s - 1)
theorem and_parts {k a b c d : Nat} (ha : a < 2 ^ k) (hc : c < 2 ^ k) : (2 ^ k * b + a) &&& (2 ^ k * d + c) = 2 ^ k * (b &&& d) + (a &&& c) := by
  apply Nat.eq_of_testBit_eq
  intro j
  rw [Nat.testBit_and, Nat.testBit_two_pow_mul_add _ ha, Nat.testBit_two_pow_mul_add _ hc, Nat.testBit_two_pow_mul_add _ (Nat.lt_of_le_of_lt Nat.and_le_left ha)]
  split <;> simp [Nat.testBit_and]
theorem and_lows (s n x : Nat) : x &&& lows s (n + 1) = 2 ^ (2 * s) * (x / 2 ^ (2 * s) &&& lows s n) + x % 2 ^ s := by
  have h1 : x = 2 ^ (2 * s) * (x / 2 ^ (2 * s)) + x % 2 ^ (2 * s) := (Nat.div_add_mod _ _).symm
  have h2 : 2 ^ s - 1 < 2 ^ (2 * s) := by
    have : 2 ^ s ≤ 2 ^ (2 * s) := Nat.pow_le_pow_right (by omega) (by omega)
    have := Nat.two_pow_pos s
    omega
  show x &&& (2 ^ (2 * s) * lows s n + (2 ^ s - 1)) = _
  rw [show x &&& (2 ^ (2 * s) * lows s n + (2 ^ s - 1)) = (2 ^ (2 * s) * (x / 2 ^ (2 * s)) + x % 2 ^ (2 * s)) &&& (2 ^ (2 * s) * lows s n + (2 ^ s - 1)) by rw [← h1]]
  rw [and_parts (Nat.mod_lt _ (Nat.two_pow_pos _)) h2, Nat.and_two_pow_sub_one_eq_mod, Nat.mod_mod_of_dvd _ (Nat.pow_dvd_pow 2 (by omega))]
/-- Neighbouring digits of s bits, added: digits of 2 s bits. -/
def bpairs (s n x : Nat) : Nat := (x / 2 ^ s &&& lows s n) + (x &&& lows s n)
theorem bpairs_succ (s n x : Nat) : bpairs s (n + 1) x = 2 ^ (2 * s) * bpairs s n (x / 2 ^ (2 * s)) + (x % 2 ^ s + x / 2 ^ s % 2 ^ s) := by
  unfold bpairs
  rw [and_lows, and_lows, Nat.div_div_eq_div_mul, Nat.div_div_eq_div_mul, Nat.mul_comm (2 ^ s), Nat.mul_add]
  omega
theorem bpair_lt (s x : Nat) (hs : 0 < s) : x % 2 ^ s + x / 2 ^ s % 2 ^ s < 2 ^ (2 * s) := by
  have h1 := Nat.mod_lt x (Nat.two_pow_pos s)
  have h2 := Nat.mod_lt (x / 2 ^ s) (Nat.two_pow_pos s)
  have h3 : 2 ^ (2 * s) = 2 ^ s * 2 ^ s := by rw [← Nat.pow_add]; congr 1; omega
  have h4 : 2 ≤ 2 ^ s := by
    have := Nat.pow_le_pow_right (n := 2) (by omega) hs
    omega
  have h5 := Nat.mul_le_mul_right (2 ^ s) h4
  omega
theorem dsum_succ (k n x : Nat) : dsum k (n + 1) x = x % 2 ^ k + dsum k n (x / 2 ^ k) := rfl
theorem bpairs_sum (s : Nat) (hs : 0 < s) : ∀ n x, dsum (2 * s) n (bpairs s n x) = dsum s (2 * n) x
  | 0, x => rfl
  | n + 1, x => by
    have hl := bpair_lt s x hs
    rw [show 2 * (n + 1) = 2 * n + 1 + 1 by omega, dsum_succ, dsum_succ, dsum_succ, bpairs_succ, Nat.mul_add_mod, Nat.mod_eq_of_lt hl, Nat.mul_add_div (Nat.two_pow_pos _), Nat.div_eq_of_lt hl, Nat.add_zero, bpairs_sum s hs n, Nat.div_div_eq_div_mul, ← Nat.pow_add, show s + s = 2 * s by omega]
    omega
theorem bpairs_le (s b : Nat) (hs : 0 < s) : ∀ n x, dle s b (2 * n) x → dle (2 * s) (2 * b) n (bpairs s n x)
  | 0, x, _ => trivial
  | n + 1, x, h => by
    have h' : x % 2 ^ s ≤ b ∧ x / 2 ^ s % 2 ^ s ≤ b ∧ dle s b (2 * n) (x / 2 ^ s / 2 ^ s) := h
    rw [bpairs_succ]
    have hl := bpair_lt s x hs
    unfold dle
    rw [Nat.mul_add_mod, Nat.mod_eq_of_lt hl, Nat.mul_add_div (Nat.two_pow_pos _), Nat.div_eq_of_lt hl, Nat.add_zero]
    refine ⟨by omega, bpairs_le s b hs n _ ?_⟩
    rw [show 2 ^ (2 * s) = 2 ^ s * 2 ^ s by rw [← Nat.pow_add]; congr 1; omega, ← Nat.div_div_eq_div_mul]
    exact h'.2.2
/-- Added first, halved behind: where no digit is above 7. -/
theorem late_bpairs : ∀ n x, dle 4 7 (2 * n) x → (x / 16 + x) &&& lows 4 n = bpairs 4 n x
  | 0, x, _ => by simp [bpairs, lows]
  | n + 1, x, h => by
    have h' : x % 16 ≤ 7 ∧ x / 16 % 16 ≤ 7 ∧ dle 4 7 (2 * n) (x / 16 / 16) := h
    rw [bpairs_succ, and_lows]
    have e2 : (x / 16 + x) % 2 ^ 4 = x % 2 ^ 4 + x / 2 ^ 4 % 2 ^ 4 := by
      rw [show (2 : Nat) ^ 4 = 16 by decide]
      omega
    rw [e2]
    cases n with
    | zero => simp [lows, bpairs]
    | succ n =>
      have h4 := h'.2.2.1
      have h4' : x / 16 / 16 % 16 ≤ 7 := h4
      have g0 := h'.1
      have g1 := h'.2.1
      have hd := h'.2.2
      clear h4 h h' e2
      have e : (x / 16 + x) / 2 ^ (2 * 4) = (x / 2 ^ (2 * 4)) / 16 + x / 2 ^ (2 * 4) := by
        rw [show (2 : Nat) ^ (2 * 4) = 256 by decide, show x / 256 = x / 16 / 16 by rw [Nat.div_div_eq_div_mul]]
        generalize hy : x / 16 / 16 / 16 = y
        generalize h2 : x / 16 / 16 % 16 = n2 at h4'
        generalize h1 : x / 16 % 16 = n1 at g1
        generalize h0 : x % 16 = n0 at g0
        have e2 : x / 16 / 16 = n2 + 16 * y := by omega
        have e1 : x / 16 = n1 + 16 * (n2 + 16 * y) := by omega
        have e0 : x = n0 + 16 * (n1 + 16 * (n2 + 16 * y)) := by omega
        rw [e2, e1, e0]
        omega
      rw [e, late_bpairs (n + 1) _ (by rw [show (2 : Nat) ^ (2 * 4) = 16 * 16 by decide, ← Nat.div_div_eq_div_mul]; exact hd)]
theorem bytes_sum {b0 b1 b2 b3 b4 b5 b6 b7 x d e : Nat} (h0 : b0 ≤ 8) (h1 : b1 ≤ 8) (h2 : b2 ≤ 8) (h3 : b3 ≤ 8) (h4 : b4 ≤ 8) (h5 : b5 ≤ 8) (h6 : b6 ≤ 8) (h7 : b7 ≤ 8)
    (hx : x = b0 + 256 * (b1 + 256 * (b2 + 256 * (b3 + 256 * (b4 + 256 * (b5 + 256 * (b6 + 256 * b7))))))) (hd : x + x / 256 = d) (he : d + d / 65536 = e) : (e + e / 4294967296) % 128 = b0 + b1 + b2 + b3 + b4 + b5 + b6 + b7 ∧ e + e / 4294967296 < 2 ^ 63 := by
  have e1 : x / 256 = b1 + 256 * (b2 + 256 * (b3 + 256 * (b4 + 256 * (b5 + 256 * (b6 + 256 * b7))))) := by
    rw [hx, Nat.add_mul_div_left _ _ (by decide), Nat.div_eq_of_lt (by omega), Nat.zero_add]
  have e2 : d = ((b0 + b1) + 256 * (b1 + b2)) + 65536 * ((b2 + b3) + 256 * ((b3 + b4) + 256 * ((b4 + b5) + 256 * ((b5 + b6) + 256 * ((b6 + b7) + 256 * b7))))) := by
    rw [← hd, e1, hx]; clear hx hd he e1; omega
  have e3 : d / 65536 = (b2 + b3) + 256 * ((b3 + b4) + 256 * ((b4 + b5) + 256 * ((b5 + b6) + 256 * ((b6 + b7) + 256 * b7)))) := by
    rw [e2, Nat.add_mul_div_left _ _ (by decide), Nat.div_eq_of_lt (by omega), Nat.zero_add]
  have e4 : e = ((b0 + b1 + b2 + b3) + 256 * ((b1 + b2 + b3 + b4) + 256 * ((b2 + b3 + b4 + b5) + 256 * (b3 + b4 + b5 + b6)))) + 4294967296 * ((b4 + b5 + b6 + b7) + 256 * ((b5 + b6 + b7) + 256 * ((b6 + b7) + 256 * b7))) := by
    rw [← he, e3, e2]; clear hx hd he e1 e2 e3; omega
  have e5 : e / 4294967296 = (b4 + b5 + b6 + b7) + 256 * ((b5 + b6 + b7) + 256 * ((b6 + b7) + 256 * b7)) := by
    rw [e4, Nat.add_mul_div_left _ _ (by decide), Nat.div_eq_of_lt (by omega), Nat.zero_add]
  rw [e5, e4]
  clear hx hd he e1 e2 e3 e4 e5
  refine ⟨?_, by omega⟩
  have : ((b0 + b1 + b2 + b3) + 256 * ((b1 + b2 + b3 + b4) + 256 * ((b2 + b3 + b4 + b5) + 256 * (b3 + b4 + b5 + b6)))) + 4294967296 * ((b4 + b5 + b6 + b7) + 256 * ((b5 + b6 + b7) + 256 * ((b6 + b7) + 256 * b7))) + ((b4 + b5 + b6 + b7) + 256 * ((b5 + b6 + b7) + 256 * ((b6 + b7) + 256 * b7))) = (b0 + b1 + b2 + b3 + b4 + b5 + b6 + b7) + 128 * (2 * ((b1 + b2 + b3 + b4) + 256 * ((b2 + b3 + b4 + b5) + 256 * (b3 + b4 + b5 + b6))) + 33554432 * ((b4 + b5 + b6 + b7) + 256 * ((b5 + b6 + b7) + 256 * ((b6 + b7) + 256 * b7))) + 2 * ((b5 + b6 + b7) + 256 * ((b6 + b7) + 256 * b7))) := by omega
  rw [this, Nat.add_mul_mod_self_left, Nat.mod_eq_of_lt (by omega)]
theorem dle_top (k b : Nat) : ∀ n x, dle k b (n + 1) x → x / 2 ^ (k * n) % 2 ^ k ≤ b
  | 0, x, h => by simpa using h.1
  | n + 1, x, h => by
    have := dle_top k b n _ h.2
    rw [Nat.div_div_eq_div_mul, ← Nat.pow_add] at this
    rw [show k * (n + 1) = k + k * n by rw [Nat.mul_add]; omega]
    exact this
/-- How many bits are set. -/
def pop64 (x : Nat) : Nat := dsum 1 64 x
theorem dle_one : ∀ n x, dle 1 1 n x
  | 0, _ => trivial
  | n + 1, x => ⟨by omega, dle_one n _⟩
theorem dle_mono {k b c : Nat} (h : b ≤ c) : ∀ n x, dle k b n x → dle k c n x
  | 0, _, _ => trivial
  | n + 1, _, hx => ⟨Nat.le_trans hx.1 h, dle_mono h n _ hx.2⟩
theorem dsum_bits (p : Nat → Bool) : ∀ n x, (∀ i, i < n → x.testBit i = p i) → dsum 1 n x = (List.range n).countP p
  | 0, _, _ => rfl
  | n + 1, x, h => by
    rw [dsum_succ, List.range_succ_eq_map, List.countP_cons, List.countP_map, dsum_bits (p ∘ Nat.succ) n (x / 2 ^ 1) (fun i hi => by
      have := h (i + 1) (by omega)
      rw [Nat.testBit_succ] at this
      exact this)]
    have h0 := h 0 (by omega)
    rw [Nat.testBit_zero] at h0
    rw [← h0]
    rcases Nat.mod_two_eq_zero_or_one x with e | e <;> simp [e] <;> omega
theorem lows1 : lows 1 32 = 6148914691236517205 := by decide
theorem lows2 : lows 2 16 = 3689348814741910323 := by decide
theorem lows4 : lows 4 8 = 1085102592571150095 := by decide
theorem bpairs_lt (s : Nat) (hs : 0 < s) : ∀ n x, bpairs s n x < 2 ^ (2 * s * n)
  | 0, x => by simp [bpairs, lows]
  | n + 1, x => by
    rw [bpairs_succ]
    have h1 := bpairs_lt s hs n (x / 2 ^ (2 * s))
    have h2 := bpair_lt s x hs
    have e : 2 ^ (2 * s * (n + 1)) = 2 ^ (2 * s) * 2 ^ (2 * s * n) := by rw [← Nat.pow_add]; congr 1; rw [Nat.mul_add]; omega
    rw [e]
    have h3 := Nat.mul_le_mul_left (2 ^ (2 * s)) h1
    rw [Nat.mul_succ] at h3
    omega
/-- What bits.OnesCount64 computes. -/
theorem ones_law {x a b c d e f : Nat} (h1 : (x / 2 &&& 6148914691236517205) + (x &&& 6148914691236517205) = a) (h2 : (a / 4 &&& 3689348814741910323) + (a &&& 3689348814741910323) = b)
    (h3 : (b / 16 + b) &&& 1085102592571150095 = c) (h4 : c + c / 256 = d) (h5 : d + d / 65536 = e) (h6 : e + e / 4294967296 = f) : f % 128 = pop64 x ∧ a < 2 ^ 64 ∧ b < 2 ^ 64 ∧ b / 16 + b < 2 ^ 64 ∧ c < 2 ^ 64 ∧ d < 2 ^ 64 ∧ e < 2 ^ 64 ∧ f < 2 ^ 63 := by
  have ea : a = bpairs 1 32 x := by rw [← h1]; unfold bpairs; rw [lows1]
  have eb : b = bpairs 2 16 a := by rw [← h2]; unfold bpairs; rw [lows2]
  have da : dle 2 2 32 a := by rw [ea]; exact bpairs_le 1 1 (by omega) 32 x (dle_one _ _)
  have db : dle 4 4 16 b := by rw [eb]; exact bpairs_le 2 2 (by omega) 16 a da
  have ec : c = bpairs 4 8 b := by rw [← h3, ← lows4, late_bpairs 8 b (dle_mono (by omega) _ _ db)]
  have dc : dle 8 8 8 c := by rw [ec]; exact bpairs_le 4 4 (by omega) 8 b db
  have la : a < 2 ^ 64 := by rw [ea]; exact bpairs_lt 1 (by omega) 32 x
  have lb : b < 2 ^ 64 := by rw [eb]; exact bpairs_lt 2 (by omega) 16 a
  have lc : c < 2 ^ 64 := by rw [ec]; exact bpairs_lt 4 (by omega) 8 b
  have lb2 : b / 16 + b < 2 ^ 64 := by
    have h := dle_top 4 4 15 b db
    have e : 2 ^ (4 * 15) = 1152921504606846976 := by decide
    rw [e] at h
    omega
  obtain ⟨h0, h1', h2', h3', h4', h5', h6', h7', -⟩ := dc
  have hc : c = c % 2 ^ 8 + 256 * (c / 2 ^ 8 % 2 ^ 8 + 256 * (c / 2 ^ 8 / 2 ^ 8 % 2 ^ 8 + 256 * (c / 2 ^ 8 / 2 ^ 8 / 2 ^ 8 % 2 ^ 8 + 256 * (c / 2 ^ 8 / 2 ^ 8 / 2 ^ 8 / 2 ^ 8 % 2 ^ 8 + 256 * (c / 2 ^ 8 / 2 ^ 8 / 2 ^ 8 / 2 ^ 8 / 2 ^ 8 % 2 ^ 8 + 256 * (c / 2 ^ 8 / 2 ^ 8 / 2 ^ 8 / 2 ^ 8 / 2 ^ 8 / 2 ^ 8 % 2 ^ 8 + 256 * (c / 2 ^ 8 / 2 ^ 8 / 2 ^ 8 / 2 ^ 8 / 2 ^ 8 / 2 ^ 8 / 2 ^ 8 % 2 ^ 8))))))) := by
    have hs : ∀ y : Nat, y = y % 2 ^ 8 + 256 * (y / 2 ^ 8) := fun y => by omega
    have ht : c / 2 ^ 8 / 2 ^ 8 / 2 ^ 8 / 2 ^ 8 / 2 ^ 8 / 2 ^ 8 / 2 ^ 8 < 2 ^ 8 := by
      rw [Nat.div_div_eq_div_mul, Nat.div_div_eq_div_mul, Nat.div_div_eq_div_mul, Nat.div_div_eq_div_mul, Nat.div_div_eq_div_mul, Nat.div_div_eq_div_mul]
      exact Nat.div_lt_of_lt_mul lc
    have h7 := hs (c / 2 ^ 8 / 2 ^ 8 / 2 ^ 8 / 2 ^ 8 / 2 ^ 8 / 2 ^ 8)
    rw [← Nat.mod_eq_of_lt ht] at h7
    rw [← h7, ← hs, ← hs, ← hs, ← hs, ← hs, ← hs]
  obtain ⟨hs, hf⟩ := bytes_sum h0 h1' h2' h3' h4' h5' h6' h7' hc h4 h5
  rw [h6] at hs hf
  have sum : dsum 8 8 c = pop64 x := by
    unfold pop64
    rw [ec, bpairs_sum 4 (by omega) 8, eb, bpairs_sum 2 (by omega) 16, ea, bpairs_sum 1 (by omega) 32]
  have sum2 : dsum 8 8 c = c % 2 ^ 8 + c / 2 ^ 8 % 2 ^ 8 + c / 2 ^ 8 / 2 ^ 8 % 2 ^ 8 + c / 2 ^ 8 / 2 ^ 8 / 2 ^ 8 % 2 ^ 8 + c / 2 ^ 8 / 2 ^ 8 / 2 ^ 8 / 2 ^ 8 % 2 ^ 8 + c / 2 ^ 8 / 2 ^ 8 / 2 ^ 8 / 2 ^ 8 / 2 ^ 8 % 2 ^ 8 + c / 2 ^ 8 / 2 ^ 8 / 2 ^ 8 / 2 ^ 8 / 2 ^ 8 / 2 ^ 8 % 2 ^ 8 + c / 2 ^ 8 / 2 ^ 8 / 2 ^ 8 / 2 ^ 8 / 2 ^ 8 / 2 ^ 8 / 2 ^ 8 % 2 ^ 8 := by
    simp only [dsum]
    generalize c % 2 ^ 8 = y0, c / 2 ^ 8 % 2 ^ 8 = y1, c / 2 ^ 8 / 2 ^ 8 % 2 ^ 8 = y2, c / 2 ^ 8 / 2 ^ 8 / 2 ^ 8 % 2 ^ 8 = y3
    simp only [Nat.add_assoc, Nat.add_zero]
  have le1 : d ≤ e := by rw [← h5]; exact Nat.le_add_right _ _
  have le2 : e ≤ f := by rw [← h6]; exact Nat.le_add_right _ _
  exact ⟨by rw [hs, ← sum, sum2], la, lb, lb2, lc, Nat.lt_of_lt_of_le (Nat.lt_of_le_of_lt (Nat.le_trans le1 le2) hf) (by decide), Nat.lt_of_lt_of_le (Nat.lt_of_le_of_lt le2 hf) (by decide), hf⟩
end Go.Proofs.YtigpnopeacicpaaDoor

/-
  bits.OnesCount64; bound's sets: with, join, count.
-/
namespace Go.Proofs.YtigpnopeacicpaaDoor
set_option linter.unusedSimpArgs false
open Go.RowKit

theorem and_nat (a b : Nat) (ha : a < 2 ^ 64) (hb : b < 2 ^ 64) (c : Nat) (h : a &&& b = c) : bits .and .u64 (a : Int) (b : Int) = (c : Int) := by
  subst h
  exact bits_and_u64_nat a b ha hb
theorem and_127 (f : Nat) : bits .and .i64 (f : Int) 127 = ((f % 128 : Nat) : Int) := by
  simp only [bits, BitVec.toNat_and]
  rw [show (BitVec.ofInt IntKind.i64.bits 127).toNat = 2 ^ 7 - 1 by decide, Nat.and_two_pow_sub_one_eq_mod]
  rw [show ((BitVec.ofInt IntKind.i64.bits (f : Int)).toNat) = ((f : Int) % 18446744073709551616).toNat by rw [BitVec.toNat_ofInt]; rfl]
  rw [IntKind.wrap_i64]
  omega
set_option maxHeartbeats 1600000 in
theorem ones_any (x : Nat) (hx : x < 2 ^ 64) (w : World) : Calls Tryd.prog 124 #[.int .u64 (x : Int)] w fun e w' => e = .returned (.int .i64 (pop64 x : Int)) ∧ w = w' := by
  obtain ⟨p1, hp1⟩ : ∃ y, x / 2 &&& 6148914691236517205 = y := ⟨_, rfl⟩
  obtain ⟨p2, hp2⟩ : ∃ y, x &&& 6148914691236517205 = y := ⟨_, rfl⟩
  obtain ⟨a, ha⟩ : ∃ y, p1 + p2 = y := ⟨_, rfl⟩
  obtain ⟨q1, hq1⟩ : ∃ y, a / 4 &&& 3689348814741910323 = y := ⟨_, rfl⟩
  obtain ⟨q2, hq2⟩ : ∃ y, a &&& 3689348814741910323 = y := ⟨_, rfl⟩
  obtain ⟨b, hb⟩ : ∃ y, q1 + q2 = y := ⟨_, rfl⟩
  obtain ⟨r1, hr1⟩ : ∃ y, b / 16 + b = y := ⟨_, rfl⟩
  obtain ⟨c, hc⟩ : ∃ y, r1 &&& 1085102592571150095 = y := ⟨_, rfl⟩
  obtain ⟨d, hd⟩ : ∃ y, c + c / 256 = y := ⟨_, rfl⟩
  obtain ⟨e, he⟩ : ∃ y, d + d / 65536 = y := ⟨_, rfl⟩
  obtain ⟨f, hf⟩ : ∃ y, e + e / 4294967296 = y := ⟨_, rfl⟩
  obtain ⟨g, la, lb, lr, lc, ld, le, lf⟩ := ones_law (x := x) (a := a) (b := b) (c := c) (by rw [hp1, hp2]; exact ha) (by rw [hq1, hq2]; exact hb) (by rw [hr1]; exact hc) hd he hf
  rw [hr1] at lr
  have HG := Lib.hid g
  have k1 : bits .and .u64 ((x : Int) / 2) 6148914691236517205 = (p1 : Int) := and_nat (x / 2) 6148914691236517205 (by omega) (by omega) p1 hp1
  have k2 : bits .and .u64 (x : Int) 6148914691236517205 = (p2 : Int) := and_nat x 6148914691236517205 (by omega) (by omega) p2 hp2
  have k3 : IntKind.u64.wrap ((p1 : Int) + (p2 : Int)) = (a : Int) := by rw [IntKind.wrap_u64]; omega
  have k4 : bits .and .u64 ((a : Int) / 4) 3689348814741910323 = (q1 : Int) := and_nat (a / 4) 3689348814741910323 (by omega) (by omega) q1 hq1
  have k5 : bits .and .u64 (a : Int) 3689348814741910323 = (q2 : Int) := and_nat a 3689348814741910323 (by omega) (by omega) q2 hq2
  have k6 : IntKind.u64.wrap ((q1 : Int) + (q2 : Int)) = (b : Int) := by rw [IntKind.wrap_u64]; omega
  have k7 : IntKind.u64.wrap ((b : Int) / 16 + (b : Int)) = (r1 : Int) := by rw [IntKind.wrap_u64]; omega
  have k8 : bits .and .u64 (r1 : Int) 1085102592571150095 = (c : Int) := and_nat r1 1085102592571150095 (by omega) (by omega) c hc
  have k9 : IntKind.u64.wrap ((c : Int) + (c : Int) / 256) = (d : Int) := by rw [IntKind.wrap_u64]; omega
  have k10 : IntKind.u64.wrap ((d : Int) + (d : Int) / 65536) = (e : Int) := by rw [IntKind.wrap_u64]; omega
  have k11 : IntKind.u64.wrap ((e : Int) + (e : Int) / 4294967296) = (f : Int) := by rw [IntKind.wrap_u64]; omega
  have k12 : bits .and .i64 (f : Int) 127 = (pop64 x : Int) := by
    rw [and_127 f, g]
  have k13 : wrap64 (f : Int) = (f : Int) := by unfold wrap64; omega
  clear hp1 hp2 ha hq1 hq2 hb hr1 hc hd he hf g la lb lr lc ld le
  go_enter Tryd.func124, Tryd.ntmps124
  go_wp2_with fail
  go_ret
  exact ⟨rfl, rfl⟩

/-- All bits set in words. -/
def popS : List Nat → Nat
  | [] => 0
  | x :: xs => pop64 x + popS xs
theorem popS_app : ∀ xs ys : List Nat, popS (xs ++ ys) = popS xs + popS ys
  | [], ys => by simp [popS]
  | x :: xs, ys => by
    show pop64 x + popS (xs ++ ys) = pop64 x + popS xs + popS ys
    rw [popS_app xs ys]
    omega
theorem dsum1_le : ∀ n x, dsum 1 n x ≤ n
  | 0, _ => Nat.le_refl _
  | n + 1, x => by
    rw [dsum_succ]
    have := dsum1_le n (x / 2 ^ 1)
    omega
theorem popS_le : ∀ xs : List Nat, popS xs ≤ 64 * xs.length
  | [] => by simp [popS]
  | x :: xs => by
    have := popS_le xs
    have h := dsum1_le 64 x
    show pop64 x + popS xs ≤ 64 * (xs.length + 1)
    unfold pop64
    omega
theorem popS_snoc (xs : List Nat) (k : Nat) (hk : k < xs.length) : popS (xs.take (k + 1)) = popS (xs.take k) + pop64 (xs[k]?.getD 0) := by
  rw [List.take_succ_eq_append_getElem hk, popS_app, List.getElem?_eq_getElem hk]
  simp [popS]
set_option maxHeartbeats 1600000 in
set_option maxRecDepth 100000 in
theorem count_any (A : Option Addr) (c : Nat) (xs : List Nat) (w : World) (hA : Hid (LRead w A xs)) (hx : Hid (∀ x ∈ xs, x < 2 ^ 64)) (hl : (xs.length : Int) ≤ 1000) :
    Calls Tryd.prog 93 #[.slice A xs.length c] w fun e w' => e = .returned (.int .i64 (popS xs : Int)) ∧ w = w' := by
  go_enter Tryd.func93, Tryd.ntmps93
  go_wp2_with fail
  go_loopw [3, 8] (fun n i wr => ∃ k : Nat, k ≤ xs.length ∧ i = .int .i64 (k : Int) ∧ n = .int .i64 (popS (xs.take k) : Int) ∧ wr = w) (fun _ i _ => xs.length - (intOf i).toNat)
  case atStart => exact ⟨0, Nat.zero_le _, rfl, rfl, rfl⟩
  case round =>
    obtain ⟨k, hk, rfl, rfl, rfl⟩ := hrel
    by_cases hlt : k < xs.length
    · obtain ⟨b, o, rfl, hc⟩ := hA.out k hlt
      have hlt' : (k : Int) < (xs.length : Int) := by omega
      have HX : Hid (xs[k]?.getD 0 < 2 ^ 64) := by
        refine hx.out _ ?_
        rw [List.getElem?_eq_getElem hlt]
        exact List.getElem_mem hlt
      have HS := Lib.hid (popS_snoc xs k hlt)
      generalize xs[k]?.getD 0 = x at hc HX HS
      have hle := popS_le (xs.take (k + 1))
      have hlen : (xs.take (k + 1)).length ≤ 1000 := Nat.le_trans (List.length_take_le _ _) (by omega)
      rw [HS.out] at hle
      generalize hP : popS (xs.take k) = P at HS hle ⊢
      have hsum : IntKind.i64.wrap ((P : Int) + (pop64 x : Int)) = ((P + pop64 x : Nat) : Int) := by rw [wrap_i64 (by omega)]; omega
      have hk1 : IntKind.i64.wrap ((k : Int) + 1) = (k : Int) + 1 := wrap_i64 (by omega)
      clear hle hlen hP
      go_wp2_with fail
      refine (ones_any x HX.out wr).mono ?_
      rintro e w2 ⟨rfl, rfl⟩
      go_wp2_with fail
      go_roundw
      case rel => exact ⟨k + 1, by omega, by go_num, by rw [HS.out, Int.natCast_add], by first | rfl | trivial⟩
      case measure => simp [intOf] <;> omega
    · have hnl : ¬ (k : Int) < (xs.length : Int) := by omega
      obtain rfl : k = xs.length := by omega
      rw [List.take_length]
      go_wp2_with fail
      go_ret
      exact ⟨rfl, rfl⟩
end Go.Proofs.YtigpnopeacicpaaDoor

/-
  bound's sets: with and join.
-/
namespace Go.Proofs.YtigpnopeacicpaaDoor
set_option linter.unusedSimpArgs false
open Go.RowKit

set_option maxRecDepth 100000 in
/-- make(set, n). -/
theorem make_set (w : World) (n : Nat) (z : Int) (hz : (n : Int) = z) (hn : (n : Int) ≤ 16000000) : ∃ w', (Instr.makeSlice 143 (.int .i64 z) (.int .i64 z)).run Tryd.prog w = .ok (.slice (some ⟨w.heap.size, 0, none⟩) n n) w' ∧
    Blk w' w.heap.size 90 (limbV (List.replicate n 0)) ∧ Only [] w w' ∧ w.heap.size < w'.heap.size := by
  subst hz
  obtain ⟨i0, hi, hz0, hz1, hz2⟩ := u64_parts
  obtain ⟨w', hr, ho, hg⟩ := run_make_full (P := Tryd.prog) w 0 143 90 i0 _ 1 Tryd.underlying143 hi hz0 hz1 .i64 .i64 n (by rw [hz2]; omega) (by simp only [maxLen]; omega) (Nat.zero_le _)
  refine ⟨w', hr, ?_, Only.of_grown hg (by simp), (World.ownsRow.lt ho _ rfl).2⟩
  rcases ho.2 with ⟨h0, _⟩ | ⟨g, cap, cur, e, _, hb, _, _, hs, ht⟩
  · cases h0
  · injection e with e1 e2 e3
    injection e1 with e1
    injection e1 with e1 _ _
    subst e1 e3
    unfold Blk
    rw [hb, limbV_zeros]
    congr 2
    apply Array.ext'
    rw [← List.take_of_length_le (l := cur.toList) (i := n * 1) (by simp [hs]), ht]
    have e : (Value.int IntKind.u64 0).cells = #[.int .u64 0] := rfl
    simp only [madeCells, e]
    simp [Nat.mod_one]
    apply List.ext_getElem <;> simp
set_option maxRecDepth 100000 in
theorem copy_set (w : World) (g : Nat) (zs : List Nat) (A : Option Addr) (xs : List Nat) (c d : Nat) (ty : TypeId) (hb : Blk w g 90 (limbV zs)) (hr : LRead w A xs) (hl : xs.length ≤ zs.length) :
    ∃ w', (Builtin.copy_ #[143, 143] ty #[.slice (some ⟨g, 0, none⟩) zs.length d, .slice A xs.length c]).run Tryd.prog w = .ok (goInt xs.length) w' ∧ Blk w' g 90 (limbV (xs ++ zs.drop xs.length)) ∧ Only [g] w w' ∧ w'.heap.size = w.heap.size := by
  have hsz : (Tryd.prog.info? 90).map (·.size) = some 1 := by kernel_rfl
  cases xs with
  | nil =>
    refine ⟨w, ?_, by simpa using hb, Only.refl _ _, rfl⟩
    exact run_copy_none (P := Tryd.prog) w 143 143 ty 90 (some ⟨g, 0, none⟩) A zs.length d 0 c Tryd.underlying143 hsz (by simp)
  | cons x xs =>
    obtain ⟨b, o, rfl, _⟩ := hr 0 (by simp)
    have hrun := run_copy_row (P := Tryd.prog) w 143 143 ty 90 g 0 zs.length d ⟨b, o, none⟩ (x :: xs).length c (limbV zs).toArray 90 (limbV (x :: xs)) Tryd.underlying143 hsz hb (by rw [limbV_len]; exact (Nat.min_eq_left hl).symm)
      (fun j v hj => by
        have hjl : j < (x :: xs).length := by
          have := (List.getElem?_eq_some_iff.1 hj).1
          rwa [limbV_len] at this
        rw [limbV_get _ _ hjl] at hj
        obtain ⟨b', o', e, hc⟩ := hr j hjl
        injection e with e
        injection e with e1 e2 _
        subst e1 e2
        rw [addr_plus, hc, hj]) (by simp [limbV] at hl ⊢; omega) (by simp [limbV, Value.oneCell'])
    rw [limbV_len] at hrun
    have e1 : ((limbV zs).toArray.toList.take 0 ++ (limbV (x :: xs) ++ (limbV zs).toArray.toList.drop (0 + (x :: xs).length))) = limbV ((x :: xs) ++ zs.drop (x :: xs).length) := by simp [limbV]
    have hh := setRow_heap w g _ ((limbV zs).toArray.toList.take 0 ++ (limbV (x :: xs) ++ (limbV zs).toArray.toList.drop (0 + (x :: xs).length))).toArray 90 _ hb
    refine ⟨_, hrun, ?_, ⟨rfl, rfl, rfl, by simp [World.setRow], fun k _ hn => setRow_other w g k _ (by simpa using hn)⟩, by simp [World.setRow]⟩
    unfold Blk
    rw [← e1]
    exact hh

/-- A set of small numbers: bit j of the words tells whether j is in it. -/
def bitOf (xs : List Nat) (j : Nat) : Bool := (xs[j / 64]?.getD 0).testBit (j % 64)
/-- A set's value. -/
structure SetV (w : World) (v : Value) (P : Nat → Bool) : Prop where
  ex : ∃ A c xs, v = .slice A (List.length xs) c ∧ LRead w A xs ∧ (∀ x ∈ xs, x < 2 ^ 64) ∧ List.length xs ≤ 2 ∧ ∀ j, bitOf xs j = P j
theorem SetV.only {w w' : World} {v : Value} {P : Nat → Bool} (h : SetV w v P) (ho : Only [] w w') : SetV w' v P := by
  obtain ⟨A, c, xs, h1, h2, h3⟩ := h.ex
  exact ⟨A, c, xs, h1, h2.only ho, h3⟩
theorem SetV.nil (w : World) : SetV w (.slice none 0 0) (fun _ => false) := ⟨none, 0, [], rfl, LRead.nil, by simp, by simp, fun j => by simp [bitOf]⟩
/-- With one more. -/
def withL (xs : List Nat) (v : Nat) : List Nat := (xs ++ (List.replicate (max xs.length (v / 64 + 1)) 0).drop xs.length).set (v / 64) ((xs[v / 64]?.getD 0) ||| 2 ^ (v % 64))
theorem withL_len (xs : List Nat) (v : Nat) : (withL xs v).length = max xs.length (v / 64 + 1) := by
  simp [withL]
  omega
theorem pad_get (xs : List Nat) (m i : Nat) : (xs ++ (List.replicate m 0).drop xs.length)[i]?.getD 0 = xs[i]?.getD 0 := by
  by_cases h : i < xs.length
  · rw [List.getElem?_append_left h]
  · rw [List.getElem?_append_right (by omega), List.getElem?_drop, List.getElem?_replicate, List.getElem?_eq_none (by omega : xs.length ≤ i)]
    split <;> rfl
theorem withL_get (xs : List Nat) (v i : Nat) : (withL xs v)[i]?.getD 0 = if i = v / 64 then (xs[v / 64]?.getD 0) ||| 2 ^ (v % 64) else xs[i]?.getD 0 := by
  unfold withL
  by_cases e : i = v / 64
  · subst e
    rw [if_pos rfl, List.getElem?_set_self (by simp; omega)]
    rfl
  · rw [if_neg e, List.getElem?_set_ne (fun h => e h.symm), pad_get]
theorem withL_bit (xs : List Nat) (v j : Nat) : bitOf (withL xs v) j = (bitOf xs j || decide (j = v)) := by
  unfold bitOf
  rw [withL_get]
  by_cases e : j / 64 = v / 64
  · rw [if_pos e, Nat.testBit_or, Nat.testBit_two_pow, e]
    congr 1
    by_cases e2 : j = v
    · subst e2; simp
    · rw [decide_eq_false e2, decide_eq_false (by omega)]
  · rw [if_neg e, decide_eq_false (fun h => e (by rw [h])), Bool.or_false]
theorem withL_lt {xs : List Nat} (h : ∀ x ∈ xs, x < 2 ^ 64) (v : Nat) : ∀ x ∈ withL xs v, x < 2 ^ 64 := by
  intro x hx
  obtain ⟨i, hi, rfl⟩ := List.getElem_of_mem hx
  have e : (withL xs v)[i] = (withL xs v)[i]?.getD 0 := by rw [List.getElem?_eq_getElem hi]; rfl
  have hg : ∀ k, xs[k]?.getD 0 < 2 ^ 64 := fun k => by
    by_cases hk : k < xs.length
    · rw [List.getElem?_eq_getElem hk]
      exact h _ (List.getElem_mem hk)
    · rw [List.getElem?_eq_none (by omega)]
      decide
  rw [e, withL_get]
  split
  · exact Nat.or_lt_two_pow (hg _) (Nat.pow_lt_pow_right (by omega) (Nat.mod_lt _ (by omega)))
  · exact hg _
/-- What is in one of two sets; the first has as many words at least. -/
def joinL (xs ys : List Nat) : List Nat := (List.range xs.length).map fun i => (xs[i]?.getD 0) ||| (ys[i]?.getD 0)
theorem joinL_get (xs ys : List Nat) (hl : ys.length ≤ xs.length) (i : Nat) : (joinL xs ys)[i]?.getD 0 = (xs[i]?.getD 0) ||| (ys[i]?.getD 0) := by
  unfold joinL
  by_cases h : i < xs.length
  · simp [h]
  · have h1 : xs[i]? = none := List.getElem?_eq_none (by omega)
    have h2 : ys[i]? = none := List.getElem?_eq_none (by omega)
    have h3 : ((List.range xs.length).map fun i => (xs[i]?.getD 0) ||| (ys[i]?.getD 0))[i]? = none := List.getElem?_eq_none (by simp; omega)
    rw [h1, h2, h3]
    rfl
theorem joinL_bit (xs ys : List Nat) (hl : ys.length ≤ xs.length) (j : Nat) : bitOf (joinL xs ys) j = (bitOf xs j || bitOf ys j) := by
  unfold bitOf
  rw [joinL_get _ _ hl, Nat.testBit_or]
theorem joinL_lt {xs ys : List Nat} (hl : ys.length ≤ xs.length) (h1 : ∀ x ∈ xs, x < 2 ^ 64) (h2 : ∀ x ∈ ys, x < 2 ^ 64) : ∀ x ∈ joinL xs ys, x < 2 ^ 64 := by
  intro x hx
  obtain ⟨i, hi, rfl⟩ := List.getElem_of_mem hx
  have e : (joinL xs ys)[i] = (joinL xs ys)[i]?.getD 0 := by rw [List.getElem?_eq_getElem hi]; rfl
  have hg : ∀ zs : List Nat, (∀ x ∈ zs, x < 2 ^ 64) → ∀ k, zs[k]?.getD 0 < 2 ^ 64 := fun zs h k => by
    by_cases hk : k < zs.length
    · rw [List.getElem?_eq_getElem hk]
      exact h _ (List.getElem_mem hk)
    · rw [List.getElem?_eq_none (by omega)]
      decide
  rw [e, joinL_get _ _ hl]
  exact Nat.or_lt_two_pow (hg xs h1 i) (hg ys h2 i)
/-- How many there are: those of the first n numbers, where no other is in it. -/
theorem popS_count (xs : List Nat) (P : Nat → Bool) (hP : ∀ j, bitOf xs j = P j) : popS xs = (List.range (64 * xs.length)).countP P := by
  induction xs generalizing P with
  | nil => simp [popS]
  | cons x xs ih =>
    have h0 : pop64 x = (List.range 64).countP P := by
      unfold pop64
      refine dsum_bits P 64 x fun i hi => ?_
      have h := hP i
      unfold bitOf at h
      rw [Nat.div_eq_of_lt hi, Nat.mod_eq_of_lt hi] at h
      exact h
    have h1 := ih (fun j => P (64 + j)) (fun j => by
      have h := hP (64 + j)
      unfold bitOf at h ⊢
      rw [show (64 + j) / 64 = j / 64 + 1 by omega, show (64 + j) % 64 = j % 64 by omega] at h
      exact h)
    show pop64 x + popS xs = _
    rw [h0, h1, show 64 * (x :: xs).length = 64 + 64 * xs.length by simp; omega, List.range_add, List.countP_append, List.countP_map]
    rfl
end Go.Proofs.YtigpnopeacicpaaDoor
