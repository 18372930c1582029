/-
  Joined texts.
-/
import Derived.Test.YtigpnopeacicpaaDoorTbJ10
import Derived.Test.YtigpnopeacicpaaDoorTbJ8
/-
  walk.Roots: how many roots.
-/
namespace Go.Proofs.YtigpnopeacicpaaDoor
open Go.RowKit
attribute [local go_sem] run_store_float

/-- How many roots are among the nodes of a list. -/
def rootsL (ns : List Nd) (L : List Int) : Nat := (L.filter fun x => (nodeAt ns x).k == 5).length
theorem rootsL_snoc (ns : List Nd) (L : List Int) (k : Nat) (hk : k < L.length) : rootsL ns (L.take (k + 1)) = rootsL ns (L.take k) + if (nodeAt ns (L[k]?.getD 0)).k = 5 then 1 else 0 := by
  unfold rootsL
  rw [List.take_succ_eq_append_getElem hk, List.filter_append, List.length_append, List.getElem?_eq_getElem hk]
  by_cases h : (nodeAt ns L[k]).k = 5 <;> simp [h]
theorem rootsL_le (ns : List Nd) (L : List Int) : rootsL ns L ≤ L.length := List.length_filter_le _ _

/-- What is known of a list that Below tells. -/
structure Ids (ns : List Nd) (L : List Int) : Prop where
  mem : ∀ k, k < L.length → ∃ a : Nat, L[k]?.getD 0 = (a : Int) ∧ a < ns.length
  len : L.length ≤ ns.length
theorem belowL_ids {ns : List Nd} (ok : OkDag ns) (R : Int → Prop) : Ids ns (belowL ns R) := by
  constructor
  · intro k hk
    have hm : (belowL ns R)[k] ∈ belowL ns R := List.getElem_mem hk
    have hr := ((mem_belowL ok).1 hm).range ok
    refine ⟨((belowL ns R)[k]).toNat, ?_, by omega⟩
    rw [List.getElem?_eq_getElem hk]
    simp only [Option.getD_some]
    omega
  · unfold belowL
    rw [List.length_map]
    exact Nat.le_trans (List.length_filter_le _ _) (by simp)

/-- All that one is made of. -/
noncomputable def belowOf (ns : List Nd) (root : Int) : List Int := belowL ns (· ∈ [root])

set_option maxHeartbeats 1600000 in
theorem roots_any (d : Nat) (v : Value) (r : Option Nat) (ns : List Nd) (root : Int) (w : World) (hd : DagIs w d v r ns) (ok : OkDag ns) (hns : ns.length ≤ 20000) :
    Calls Tryd.prog 44 #[.pointer (some ⟨d, 0, none⟩), .int .i64 root] w fun e w' => e = .returned (.int .i64 (rootsL ns (belowOf ns root) : Int)) ∧ Only [] w w' := by
  have HD := Lib.hid hd
  have HNs := Lib.hid hns
  have HOk := Lib.hid ok
  clear hd hns ok
  go_enter Tryd.func44, Tryd.ntmps44
  go_wp2_with fail
  have HA : Hid (IRead (w.alloc (.cells #[.int .i64 root] 3)) (some ⟨w.heap.size, 0, none⟩) [root]) := fun k hk => ⟨w.heap.size, 0, rfl, by
    have e : k = 0 := by simpa using hk
    subst e
    exact (Blk.new w 3 [.int .i64 root]).cell 0⟩
  refine (below_any d v r ns [root] (some ⟨w.heap.size, 0, none⟩) 1 _ (HD.out.only ((Only.refl [] w).alloc _) (by simp)) HOk.out HNs.out HA (by simp)).mono ?_
  rintro e w1 ⟨u, rfl, hL, -, ho1⟩
  obtain ⟨L, hLe⟩ : ∃ L, L = belowOf ns root := ⟨_, rfl⟩
  have HLe := Lib.hid hLe
  have HIds : Hid (Ids ns L) := hLe ▸ belowL_ids HOk.out (· ∈ [root])
  replace hL : IntsAt w1 u L := hLe ▸ hL
  clear hLe
  obtain ⟨Au, cu, rfl, hread⟩ := hL.shape
  have HO1 : Hid (Only [] w w1) := ((Only.refl [] w).alloc _).nil_trans ho1
  have HR := Lib.hid hread
  have hlen : (L.length : Int) ≤ 20000 := by have := HIds.out.len; have := HNs.out; omega
  clear hL ho1 hread HA
  go_wp2_with fail
  go_loopw [5, 15] (fun c i wr => ∃ k : Nat, k ≤ L.length ∧ i = .int .i64 k ∧ c = .int .i64 (rootsL ns (L.take k) : Int) ∧ Only [] w1 wr) (fun _ i _ => L.length - (intOf i).toNat)
  case atStart => exact ⟨0, Nat.zero_le _, rfl, rfl, Only.refl _ _⟩
  case round =>
    obtain ⟨k, hk, rfl, rfl, ho⟩ := hrel
    have HO := Lib.hid ho
    clear ho
    by_cases hlt : k < L.length
    · obtain ⟨a, ha, han⟩ := HIds.out.mem k hlt
      obtain ⟨b, o, rfl, hcell⟩ := HR.out.only HO.out k hlt
      rw [ha] at hcell
      have HS := Lib.hid (rootsL_snoc ns L k hlt)
      have HHa := Lib.hid ha
      have hle : (rootsL ns (L.take k) : Int) ≤ 20000 := by have := rootsL_le ns (L.take k); have : (L.take k).length ≤ k := List.length_take_le _ _; omega
      have hlt' : (k : Int) < (L.length : Int) := by omega
      clear ha
      go_wp2_with fail
      refine (dnode_in d v r ns a wr (HD.out.only (HO1.out.nil_trans HO.out) (by simp)) han).mono ?_
      rintro e w2 ⟨rfl, ho2⟩
      have HO2 : Hid (Only [] w1 w2) := HO.out.nil_trans ho2
      have HN : Hid (nodeAt ns (a : Int) = ns[a]?.getD nd0) := rfl
      clear ho2
      generalize ns[a]?.getD nd0 = n at HN ⊢
      obtain ⟨nk, nf, na, nb⟩ := n
      simp only [Nd.val]
      by_cases h5 : nk = 5
      · have HE : Hid (rootsL ns (L.take (k + 1)) = rootsL ns (L.take k) + 1) := by
          show _ = _
          rw [HS.out, HHa.out, HN.out, if_pos h5]
        subst h5
        go_wp2_with fail
        go_roundw
        case rel => exact ⟨k + 1, by omega, by go_num, by rw [HE.out]; go_num, HO2.out.alloc _⟩
        case measure => simp [intOf]; omega
      · have HE : Hid (rootsL ns (L.take (k + 1)) = rootsL ns (L.take k)) := by
          show _ = _
          rw [HS.out, HHa.out, HN.out, if_neg h5]
          rfl
        have g5 : (nk == 5) = false := by simpa using h5
        clear h5
        go_wp2_with fail
        go_roundw
        case rel => exact ⟨k + 1, by omega, by go_num, by rw [HE.out], HO2.out.alloc _⟩
        case measure => simp [intOf]; omega
    · have hnl : ¬ (k : Int) < (L.length : Int) := by omega
      have e : k = L.length := by omega
      have HE : Hid (L.take k = L) := by
        show _ = _
        rw [e, List.take_length]
      clear e
      go_wp2_with fail
      go_returns
      exact ⟨by rw [← HLe.out, HE.out]; try rfl, HO1.out.nil_trans HO.out⟩
end Go.Proofs.YtigpnopeacicpaaDoor

/-
  Package bound, plain: what is known of each number (entries), its growth, the bits that tell a number from 0.
-/
namespace Go.Proofs.YtigpnopeacicpaaDoor

/-- What is known of a number. -/
structure En where
  u : Int
  l : Int
  ok : Bool
/-- The greatest U, L and Sep. -/
def topB : Int := 1099511627776
def clipE (e : En) : En := ⟨min e.u topB, min e.l topB, e.ok && (decide (e.u ≤ topB) && decide (e.l ≤ topB))⟩
def en0 : En := ⟨0, 0, false⟩
def combE (lf : Nat → En) (n : Nd) (a b : En) : En :=
  if n.k = 0 then lf n.f
  else if n.k = 1 ∨ n.k = 2 then ⟨1 + max (a.u + b.l) (a.l + b.u), a.l + b.l, a.ok && b.ok⟩
  else if n.k = 3 then ⟨a.u + b.u, a.l + b.l, a.ok && b.ok⟩
  else if n.k = 4 then ⟨a.u + b.l, a.l + b.u, a.ok && b.ok⟩
  else if a.l ≤ a.u then ⟨(a.u + a.l + 1) / 2, a.l, a.ok⟩
  else ⟨a.u, (a.u + a.l + 1) / 2, a.ok⟩
def entL (lf : Nat → En) (ns : List Nd) : Nat → List En
  | 0 => []
  | k + 1 => entL lf ns k ++ [clipE (combE lf (nodeAt ns (k : Int)) ((entL lf ns k)[(nodeAt ns (k : Int)).a.toNat]?.getD en0) ((entL lf ns k)[(nodeAt ns (k : Int)).b.toNat]?.getD en0))]
theorem entL_len (lf : Nat → En) (ns : List Nd) (k : Nat) : (entL lf ns k).length = k := by
  induction k with
  | zero => rfl
  | succ k ih => simp [entL, ih]
/-- What is known of a number of the dag. -/
def ent (lf : Nat → En) (ns : List Nd) (x : Int) : En := (entL lf ns (x.toNat + 1))[x.toNat]?.getD en0
theorem entL_get (lf : Nat → En) (ns : List Nd) : ∀ (k i : Nat), i < k → (entL lf ns k)[i]?.getD en0 = ent lf ns (i : Int)
  | 0, i, h => by omega
  | k + 1, i, h => by
    by_cases e : i = k
    · subst e
      unfold ent
      rw [Int.toNat_natCast]
    · rw [← entL_get lf ns k i (by omega)]
      show (entL lf ns k ++ _)[i]?.getD en0 = _
      rw [List.getElem?_append_left (by rw [entL_len]; omega)]
theorem combE_congr (lf : Nat → En) (n : Nd) {a b a' b' : En} (ha : n.k ≠ 0 → a = a') (hb : n.k ≠ 0 → n.k ≠ 5 → b = b') (_ : n.k = 0 ∨ n.k = 1 ∨ n.k = 2 ∨ n.k = 3 ∨ n.k = 4 ∨ n.k = 5) : combE lf n a b = combE lf n a' b' := by
  unfold combE
  by_cases h0 : n.k = 0
  · rw [if_pos h0, if_pos h0]
  · obtain rfl := ha h0
    by_cases h : n.k = 5
    · simp [h]
    · obtain rfl := hb h0 h
      rfl
/-- Kinds that there are. -/
def KindOk (ns : List Nd) : Prop := ∀ x : Nat, x < ns.length → (nodeAt ns (x : Int)).k = 0 ∨ (nodeAt ns (x : Int)).k = 1 ∨ (nodeAt ns (x : Int)).k = 2 ∨ (nodeAt ns (x : Int)).k = 3 ∨ (nodeAt ns (x : Int)).k = 4 ∨ (nodeAt ns (x : Int)).k = 5
theorem ent_eq (lf : Nat → En) {ns : List Nd} (ok : OkDag ns) (hk : KindOk ns) {x : Nat} (hx : x < ns.length) :
    ent lf ns (x : Int) = clipE (combE lf (nodeAt ns (x : Int)) (ent lf ns (nodeAt ns (x : Int)).a) (ent lf ns (nodeAt ns (x : Int)).b)) := by
  have e : ent lf ns (x : Int) = clipE (combE lf (nodeAt ns (x : Int)) ((entL lf ns x)[(nodeAt ns (x : Int)).a.toNat]?.getD en0) ((entL lf ns x)[(nodeAt ns (x : Int)).b.toNat]?.getD en0)) := by
    show (entL lf ns ((x : Int).toNat + 1))[(x : Int).toNat]?.getD en0 = _
    rw [Int.toNat_natCast]
    show (entL lf ns x ++ [_])[x]?.getD en0 = _
    rw [List.getElem?_append_right (by rw [entL_len]; omega), entL_len, Nat.sub_self]
    rfl
  rw [e]
  have hkid := ok (x : Int) (by omega) (by omega)
  have hget : ∀ c ∈ kids (nodeAt ns (x : Int)), (entL lf ns x)[c.toNat]?.getD en0 = ent lf ns c := fun c hc => by
    have := hkid c hc
    rw [entL_get lf ns x c.toNat (by omega), show ((c.toNat : Nat) : Int) = c by omega]
  rw [combE_congr lf (nodeAt ns (x : Int)) (fun h0 => hget _ (by unfold kids; rw [if_neg h0]; split <;> simp)) (fun h0 h5 => hget _ (by unfold kids; rw [if_neg h0, if_neg h5]; simp)) (hk x hx)]
/-- Not below 0, not too great. -/
def EnOk (e : En) : Prop := 0 ≤ e.u ∧ e.u ≤ topB ∧ 0 ≤ e.l ∧ e.l ≤ topB
def LfOk (lf : Nat → En) : Prop := ∀ f, 0 ≤ (lf f).u ∧ (lf f).u ≤ 1000000 ∧ 0 ≤ (lf f).l ∧ (lf f).l ≤ 1000000
theorem topB_val : topB = 1099511627776 := rfl
theorem clip_ok {e : En} (h : 0 ≤ e.u ∧ 0 ≤ e.l) : EnOk (clipE e) := by
  unfold EnOk clipE
  simp only [topB_val]
  omega
theorem comb_pos {lf : Nat → En} (hl : LfOk lf) (n : Nd) {a b : En} (ha : EnOk a) (hb : EnOk b) : 0 ≤ (combE lf n a b).u ∧ 0 ≤ (combE lf n a b).l := by
  unfold EnOk at ha hb
  have := hl n.f
  unfold combE
  repeat' split
  all_goals (try dsimp only) <;> omega
theorem en0_ok : EnOk en0 := by unfold EnOk en0; simp only [topB_val]; omega
theorem entL_ok {lf : Nat → En} (hl : LfOk lf) (ns : List Nd) : ∀ (k i : Nat), EnOk ((entL lf ns k)[i]?.getD en0)
  | 0, i => by simpa [entL] using en0_ok
  | k + 1, i => by
    by_cases h1 : i < k
    · rw [entL_get lf ns _ _ (by omega), ← entL_get lf ns k i h1]
      exact entL_ok hl ns k i
    · by_cases h2 : i = k
      · subst h2
        show EnOk ((entL lf ns i ++ [_])[i]?.getD en0)
        rw [List.getElem?_append_right (by rw [entL_len]; omega), entL_len, Nat.sub_self]
        exact clip_ok (comb_pos hl _ (entL_ok hl ns i _) (entL_ok hl ns i _))
      · rw [List.getElem?_eq_none (by rw [entL_len]; omega)]
        exact en0_ok
theorem ent_ok {lf : Nat → En} (hl : LfOk lf) (ns : List Nd) (x : Int) : EnOk (ent lf ns x) := entL_ok hl ns _ _

/-- Reached from one: itself, or what is reached from an operand. -/
theorem reach_kid {ns : List Nd} {R : Int → Prop} {x y : Int} (hx : Reach ns R x) (hy : Reach ns (· ∈ [x]) y) : Reach ns R y := by
  induction hy with
  | root y h _ _ => have e : y = x := by simpa using h
                    exact e ▸ hx
  | kid y c _ hc ih => exact .kid y c ih hc
theorem reach_step {ns : List Nd} (ok : OkDag ns) {x y : Int} (hy : Reach ns (· ∈ [x]) y) : y = x ∨ ∃ c ∈ kids (nodeAt ns x), Reach ns (· ∈ [c]) y := by
  induction hy with
  | root y h _ _ => exact .inl (by simpa using h)
  | kid y c hy hc ih =>
    right
    rcases ih with rfl | ⟨d, hd, h⟩
    · have hr := hy.range ok
      have := ok y hr.1 hr.2 c hc
      exact ⟨c, hc, .root c (by simp) (by omega) (by omega)⟩
    · exact ⟨d, hd, .kid y c h hc⟩
theorem reach_up {ns : List Nd} {x c y : Int} (h0 : 0 ≤ x) (h1 : x < ns.length) (hc : c ∈ kids (nodeAt ns x)) (hy : Reach ns (· ∈ [c]) y) : Reach ns (· ∈ [x]) y := reach_kid (.kid x c (.root x (by simp) h0 h1) hc) hy
open Classical in
theorem rootsL_below (ns : List Nd) (x : Int) : rootsL ns (belowOf ns x) = (List.range ns.length).countP fun (i : Nat) => decide (Reach ns (· ∈ [x]) (i : Int) ∧ (nodeAt ns (i : Int)).k = 5) := by
  unfold rootsL belowOf belowL
  rw [← List.countP_eq_length_filter, List.countP_map, List.countP_filter]
  apply List.countP_congr
  intro i _
  simp [and_comm]
theorem countP_one (p q : Nat → Bool) (x : Nat) : ∀ n, (∀ i, i < n → p i = (q i || decide (i = x))) → (x < n → q x = false) → (List.range n).countP p = (List.range n).countP q + if x < n then 1 else 0
  | 0, _, _ => by simp
  | n + 1, h, hq => by
    rw [List.range_succ, List.countP_append, List.countP_append, countP_one p q x n (fun i hi => h i (by omega)) (fun hx => hq (by omega))]
    have e := h n (by omega)
    by_cases hx : n = x
    · subst hx
      have := hq (by omega)
      simp [e, this]
    · have e2 : p n = q n := by rw [e]; simp [hx]
      simp only [List.countP_singleton, e2]
      by_cases h3 : x < n
      · rw [if_pos h3, if_pos (show x < n + 1 by omega)]; omega
      · rw [if_neg h3, if_neg (show ¬ x < n + 1 by omega)]; omega
open Classical in
theorem roots_root {ns : List Nd} (ok : OkDag ns) {x : Nat} (h1 : x < ns.length) (hk : (nodeAt ns (x : Int)).k = 5) : rootsL ns (belowOf ns (x : Int)) = rootsL ns (belowOf ns (nodeAt ns (x : Int)).a) + 1 := by
  have hkid : kids (nodeAt ns (x : Int)) = [(nodeAt ns (x : Int)).a] := by unfold kids; rw [if_neg (by omega), if_pos hk]
  have hlt := ok (x : Int) (by omega) (by omega) (nodeAt ns (x : Int)).a (by rw [hkid]; simp)
  rw [rootsL_below, rootsL_below, countP_one _ (fun (i : Nat) => decide (Reach ns (· ∈ [(nodeAt ns (x : Int)).a]) (i : Int) ∧ (nodeAt ns (i : Int)).k = 5)) x ns.length, if_pos h1]
  · intro i hi
    rw [Bool.eq_iff_iff]
    simp only [Bool.or_eq_true, decide_eq_true_eq]
    constructor
    · rintro ⟨h, h5⟩
      rcases reach_step ok h with e | ⟨c, hc, h2⟩
      · exact .inr (by omega)
      · rw [hkid] at hc
        have e : c = (nodeAt ns (x : Int)).a := by simpa using hc
        exact .inl ⟨e ▸ h2, h5⟩
    · rintro (⟨h, h5⟩ | rfl)
      · exact ⟨reach_up (by omega) (by omega) (by rw [hkid]; simp) h, h5⟩
      · exact ⟨.root _ (by simp) (by omega) (by omega), hk⟩
  · intro _
    rw [decide_eq_false_iff_not]
    rintro ⟨h, _⟩
    have : ∀ y, Reach ns (· ∈ [(nodeAt ns (x : Int)).a]) y → y ≤ (nodeAt ns (x : Int)).a := by
      intro y hy
      induction hy with
      | root y h _ _ => have e : y = (nodeAt ns (x : Int)).a := by simpa using h
                        omega
      | kid y c hy hc ih =>
        have hr := hy.range ok
        have := ok y hr.1 hr.2 c hc
        omega
    have := this _ h
    omega

/-- Is a Sep told? -/
noncomputable def sepB (lf : Nat → En) (ns : List Nd) (x : Int) : Bool := (ent lf ns x).ok && (decide ((rootsL ns (belowOf ns x) : Int) ≤ 20) && decide (max (ent lf ns x).u (ent lf ns x).l * 2 ^ rootsL ns (belowOf ns x) + 1 ≤ topB))
noncomputable def sepV (lf : Nat → En) (ns : List Nd) (x : Int) : Int := max (ent lf ns x).u (ent lf ns x).l * 2 ^ rootsL ns (belowOf ns x) + 1
theorem comb_whole {lf : Nat → En} (n : Nd) (a b : En) (h : (combE lf n a b).ok = true) : (n.k ≠ 0 → a.ok = true) ∧ (n.k ≠ 0 → n.k ≠ 5 → (n.k = 1 ∨ n.k = 2 ∨ n.k = 3 ∨ n.k = 4) → b.ok = true) := by
  revert h
  unfold combE
  split
  · intro _; exact ⟨fun h => absurd ‹_› h, fun h => absurd ‹_› h⟩
  split
  · intro h; simp at h; exact ⟨fun _ => h.1, fun _ _ _ => h.2⟩
  split
  · intro h; simp at h; exact ⟨fun _ => h.1, fun _ _ _ => h.2⟩
  split
  · intro h; simp at h; exact ⟨fun _ => h.1, fun _ _ _ => h.2⟩
  split
  · intro h; exact ⟨fun _ => h, fun _ _ h2 => by omega⟩
  · intro h; exact ⟨fun _ => h, fun _ _ h2 => by omega⟩
theorem clip_whole {e : En} (h : (clipE e).ok = true) : e.ok = true ∧ clipE e = e := by
  unfold clipE at h ⊢
  simp at h
  obtain ⟨h1, h2, h3⟩ := h
  refine ⟨h1, ?_⟩
  cases e
  simp only [En.mk.injEq]
  simp at h1 h2 h3 ⊢
  exact ⟨by omega, by omega, by simp [h1, h2, h3]⟩
end Go.Proofs.YtigpnopeacicpaaDoor

/-
  Package bound: leaf and combine, as values.
-/
namespace Go.Proofs.YtigpnopeacicpaaDoor
set_option linter.unusedSimpArgs false
open Go.RowKit

/-- An entry's value. -/
abbrev entV (e : En) : Value := .agg #[.int .i64 e.u, .int .i64 e.l, .bool e.ok]
/-- What is known of a dyad. -/
def leafE (x : Dy) : En := if x.z = 0 then ⟨0, 0, true⟩ else ⟨(bitsN x.z.natAbs : Int) + max x.e 0, max (-x.e) 0, true⟩
theorem leafE_ok {x : Dy} {N : Nat} (h : Bnd N x) : 0 ≤ (leafE x).u ∧ (leafE x).u ≤ 2 * N ∧ 0 ≤ (leafE x).l ∧ (leafE x).l ≤ N := by
  have h1 := bitsN_le h.z
  have h2 := h.lo
  have h3 := h.hi
  unfold leafE
  split
  · dsimp only; omega
  · dsimp only; omega
theorem bits_nb {w : World} {s : Bool} {A : Option Addr} {k c nb : Nat} {z : Int} (h : Hid (IV w (.agg #[.bool s, .slice A k c]) z)) (hn : Hid (bitsN z.natAbs = nb)) : Calls Tryd.prog 48 #[.slice A k c] w fun e w' => e = .returned (.int .i64 (nb : Int)) ∧ w = w' := by
  rw [← hn.out]
  exact bits_v (Lib.hid h.out.mag)
set_option maxHeartbeats 1600000 in
set_option maxRecDepth 100000 in
theorem bo_leaf (v : Nat) (x : Dy) (hd : Hid (∀ W, Hid (Tab6 W) → Calls Tryd.prog 128 #[.float .f64 v] W (QDPost x true W))) (hb : Hid (Bnd 3000 x)) (w : World) (hT : Hid (Tab6 w)) :
    Calls Tryd.prog 104 #[.float .f64 v] w fun e w' => e = .returned (entV (leafE x)) ∧ Only [] w w' := by
  have HB0 := Lib.hid (Blk.new w 83 [.int .i64 0, .int .i64 0, .bool false])
  have HO0 : Hid (Only [] w (w.alloc (.cells #[.int .i64 0, .int .i64 0, .bool false] 83))) := (Only.refl _ _).alloc _
  go_enter Tryd.func104, Tryd.ntmps104
  go_wp2_with fail
  generalize w.alloc (.cells #[.int .i64 0, .int .i64 0, .bool false] 83) = w1 at *
  generalize hg : w.heap.size = g at HB0 ⊢
  replace hg := Lib.hid hg
  (with_reducible refine (hd.out w1 (Lib.hid (hT.out.keep HO0.out))).mono ?_)
  rintro e w2 ⟨s3, A3, k3, c3, rfl, -, -, hv, ho⟩
  have HG3 : Hid (g ≠ w2.heap.size) := by have := (HB0.out.only ho (by simp)).lt; show g ≠ _; omega
  have HB1 := Lib.hid ((HB0.out.only ho (by simp)).alloc (.cells #[.bool s3, .slice A3 k3 c3, .int .i64 x.e] 181))
  have HO1 : Hid (Only [] w (w2.alloc (.cells #[.bool s3, .slice A3 k3 c3, .int .i64 x.e] 181))) := (HO0.out.nil_trans ho).alloc _
  have HD1 := Lib.hid (Blk.new w2 181 [.bool s3, .slice A3 k3 c3, .int .i64 x.e])
  have HV1 : Hid (IV (w2.alloc (.cells #[.bool s3, .slice A3 k3 c3, .int .i64 x.e] 181)) (.agg #[.bool s3, .slice A3 k3 c3]) x.z) := hv.only ((Only.refl _ _).alloc _)
  clear ho hv HB0 HO0 hd
  obtain ⟨xe, hxe⟩ : ∃ xe, x.e = xe := ⟨_, rfl⟩
  have hlo := hb.out.lo
  have hhi := hb.out.hi
  have hbl := bitsN_le hb.out.z
  have HXE := Lib.hid hxe
  rw [hxe] at hlo hhi HB1 HO1 HD1 HV1 ⊢
  go_upto_region 2 with fail
  generalize w2.alloc (.cells #[.bool s3, .slice A3 k3 c3, .int .i64 xe] 181) = w3 at *
  generalize w2.heap.size = g3 at *
  have HV := DV.of (x := ⟨x.z, xe⟩) HV1
  have q0 := HD1.out.cell 0
  have q1 := HD1.out.cell 1
  have q2 := HD1.out.cell 2
  simp only [List.getElem?_cons_zero, List.getElem?_cons_succ] at q0 q1 q2
  obtain ⟨p, hp⟩ : ∃ p, x.z.sign = p := ⟨_, rfl⟩
  go_wp2_with fail
  (with_reducible refine (sign_d HV).mono ?_)
  rintro e w4 ⟨rfl, ho⟩
  simp only [hp]
  replace HV1 := Lib.hid (HV1.out.only ho)
  replace HB1 := Lib.hid (HB1.out.only ho (by simp))
  replace HD1 := Lib.hid (HD1.out.only ho (by simp))
  replace HO1 := Lib.hid (HO1.out.nil_trans ho)
  clear ho HV q0 q1 q2
  have c0 := HB1.out.cell 0
  have c1 := HB1.out.cell 1
  have c2 := HB1.out.cell 2
  have f0 := HB1.out.frozen 0
  have f1 := HB1.out.frozen 1
  have f2 := HB1.out.frozen 2
  simp only [List.getElem?_cons_zero, List.getElem?_cons_succ] at c0 c1 c2
  by_cases hz : x.z = 0
  · have HL : Hid (leafE x = ⟨0, 0, true⟩) := by show leafE x = _; unfold leafE; rw [if_pos hz]
    have hp0 : p = 0 := by rw [← hp, hz]; rfl
    subst hp0
    clear hz hp
    go_wp2_with fail
    refine bodyPost_ret (v := .agg #[.int .i64 0, .int .i64 0, .bool true]) (by simp [results, Tryd.results104, go_sem, c0, c1, c2]) rfl ⟨by rw [HL.out], ?_⟩
    have h3 := hg.out
    exact ((HO1.out.setCell (.inr (by show w.heap.size ≤ g; omega)) _).setCell (.inr (by show w.heap.size ≤ g; omega)) _).setCell (.inr (by show w.heap.size ≤ g; omega)) _
  · have HL : Hid (leafE x = ⟨(bitsN x.z.natAbs : Int) + max xe 0, max (-xe) 0, true⟩) := by show leafE x = _; unfold leafE; rw [if_neg hz, HXE.out]
    have hp0 : (p == 0) = false := by rw [beq_eq_false_iff_ne, ← hp]; exact fun h => hz (by rwa [Int.sign_eq_zero_iff_zero] at h)
    clear hz hp
    obtain ⟨nb, hnb⟩ : ∃ nb : Nat, bitsN x.z.natAbs = nb := ⟨_, rfl⟩
    have HNB := Lib.hid hnb
    rw [hnb] at hbl HL
    clear hnb
    have hsum : IntKind.i64.wrap ((nb : Int) + max xe 0) = (nb : Int) + max xe 0 := wrap_i64 (by omega)
    have hneg : IntKind.i64.wrap (-xe) = -xe := wrap_i64 (by omega)
    go_upto_region 4 with fail
    apply wp_region_typed_tail2 13 (by kernel_rfl) [isV _, isV _, isV _, isV _, isV _, isV _, isV _, isV _, isV _, isV _, isV _, isV _, isV _] [[], [0], [1], [2], [], [4], [5], [3, 6], [], [8], [9], [10], [7, 11]] (by kernel_rfl) (by kernel_rfl) (by kernel_rfl)
    case ho =>
      simp only [List.take_succ_cons, List.take_zero]
      refine owes2_cons (fun wx hox => ?_) ?_
      · skip
        skip
        refine withs_plain rfl ?_
        simp only [withs, List.getElem?_cons_zero, List.getElem?_cons_succ, Option.bind, Option.getD]
        repeat (with_reducible refine all_isV ?_)
        go_simp
        exact ⟨Only.refl _ _, isV.self _ _⟩
      refine owes2_cons (fun wx hox => ?_) ?_
      · skip
        skip
        refine withs_plain rfl ?_
        simp only [withs, List.getElem?_cons_zero, List.getElem?_cons_succ, Option.bind, Option.getD]
        repeat (with_reducible refine all_isV ?_)
        go_simp
        exact ⟨Only.refl _ _, isV.self _ _⟩
      refine owes2_cons (fun wx hox => ?_) ?_
      · skip
        have hvx := Lib.hid (HV1.out.only hox)
        have hdx := HD1.out.only hox (by simp)
        have q0 := hdx.cell 0
        have q1 := hdx.cell 1
        have q2 := hdx.cell 2
        simp only [List.getElem?_cons_zero, List.getElem?_cons_succ] at q0 q1 q2
        clear hdx
        refine withs_plain rfl ?_
        simp only [withs, List.getElem?_cons_zero, List.getElem?_cons_succ, Option.bind, Option.getD]
        repeat (with_reducible refine all_isV ?_)
        go_simp
        exact ⟨Only.refl _ _, isV.self _ _⟩
      refine owes2_cons (fun wx hox => ?_) ?_
      · skip
        have hvx := Lib.hid (HV1.out.only hox)
        have hdx := HD1.out.only hox (by simp)
        have q0 := hdx.cell 0
        have q1 := hdx.cell 1
        have q2 := hdx.cell 2
        simp only [List.getElem?_cons_zero, List.getElem?_cons_succ] at q0 q1 q2
        clear hdx
        refine withs_plain rfl ?_
        simp only [withs, List.getElem?_cons_zero, List.getElem?_cons_succ, Option.bind, Option.getD]
        repeat (with_reducible refine all_isV ?_)
        go_simp
        ((with_reducible exact grow_same (bits_nb hvx HNB)))
      refine owes2_cons (fun wx hox => ?_) ?_
      · skip
        skip
        refine withs_plain rfl ?_
        simp only [withs, List.getElem?_cons_zero, List.getElem?_cons_succ, Option.bind, Option.getD]
        repeat (with_reducible refine all_isV ?_)
        go_simp
        exact ⟨Only.refl _ _, isV.self _ _⟩
      refine owes2_cons (fun wx hox => ?_) ?_
      · skip
        have hvx := Lib.hid (HV1.out.only hox)
        have hdx := HD1.out.only hox (by simp)
        have q0 := hdx.cell 0
        have q1 := hdx.cell 1
        have q2 := hdx.cell 2
        simp only [List.getElem?_cons_zero, List.getElem?_cons_succ] at q0 q1 q2
        clear hdx
        refine withs_plain rfl ?_
        simp only [withs, List.getElem?_cons_zero, List.getElem?_cons_succ, Option.bind, Option.getD]
        repeat (with_reducible refine all_isV ?_)
        go_simp
        exact ⟨Only.refl _ _, isV.self _ _⟩
      refine owes2_cons (fun wx hox => ?_) ?_
      · skip
        skip
        refine withs_plain rfl ?_
        simp only [withs, List.getElem?_cons_zero, List.getElem?_cons_succ, Option.bind, Option.getD]
        repeat (with_reducible refine all_isV ?_)
        go_simp
        exact ⟨Only.refl _ _, isV.self _ _⟩
      refine owes2_cons (fun wx hox => ?_) ?_
      · skip
        skip
        refine withs_plain rfl ?_
        simp only [withs, List.getElem?_cons_zero, List.getElem?_cons_succ, Option.bind, Option.getD]
        repeat (with_reducible refine all_isV ?_)
        go_simp
        exact ⟨Only.refl _ _, isV.self _ _⟩
      refine owes2_cons (fun wx hox => ?_) ?_
      · skip
        skip
        refine withs_plain rfl ?_
        simp only [withs, List.getElem?_cons_zero, List.getElem?_cons_succ, Option.bind, Option.getD]
        repeat (with_reducible refine all_isV ?_)
        go_simp
        exact ⟨Only.refl _ _, isV.self _ _⟩
      refine owes2_cons (fun wx hox => ?_) ?_
      · skip
        have hvx := Lib.hid (HV1.out.only hox)
        have hdx := HD1.out.only hox (by simp)
        have q0 := hdx.cell 0
        have q1 := hdx.cell 1
        have q2 := hdx.cell 2
        simp only [List.getElem?_cons_zero, List.getElem?_cons_succ] at q0 q1 q2
        clear hdx
        refine withs_plain rfl ?_
        simp only [withs, List.getElem?_cons_zero, List.getElem?_cons_succ, Option.bind, Option.getD]
        repeat (with_reducible refine all_isV ?_)
        go_simp
        exact ⟨Only.refl _ _, isV.self _ _⟩
      refine owes2_cons (fun wx hox => ?_) ?_
      · skip
        skip
        refine withs_plain rfl ?_
        simp only [withs, List.getElem?_cons_zero, List.getElem?_cons_succ, Option.bind, Option.getD]
        repeat (with_reducible refine all_isV ?_)
        go_simp
        exact ⟨Only.refl _ _, isV.self _ _⟩
      refine owes2_cons (fun wx hox => ?_) ?_
      · skip
        skip
        refine withs_plain rfl ?_
        simp only [withs, List.getElem?_cons_zero, List.getElem?_cons_succ, Option.bind, Option.getD]
        repeat (with_reducible refine all_isV ?_)
        go_simp
        exact ⟨Only.refl _ _, isV.self _ _⟩
      refine owes2_cons (fun wx hox => ?_) ?_
      · skip
        skip
        refine withs_plain rfl ?_
        simp only [withs, List.getElem?_cons_zero, List.getElem?_cons_succ, Option.bind, Option.getD]
        repeat (with_reducible refine all_isV ?_)
        go_simp
        exact ⟨Only.refl _ _, isV.self _ _⟩
      exact owes2_nil
    case he =>
      simp only [List.drop_succ_cons, List.drop_zero]
      intro wx hox
      refine withs_of (by simp only [List.length, List.range, List.range.loop]; exact rfl) ?_
      simp only [withs, List.getElem?_cons_zero, List.getElem?_cons_succ, Option.bind, Option.getD]
      repeat (with_reducible refine all_isV ?_)
      go_simp
      replace HB1 := Lib.hid (HB1.out.only hox (by simp))
      replace HO1 := Lib.hid (HO1.out.nil_trans hox)
      clear hox c0 c1 c2 f0 f1 f2
      have c0 := HB1.out.cell 0
      have c1 := HB1.out.cell 1
      have c2 := HB1.out.cell 2
      have f0 := HB1.out.frozen 0
      have f1 := HB1.out.frozen 1
      have f2 := HB1.out.frozen 2
      simp only [List.getElem?_cons_zero, List.getElem?_cons_succ] at c0 c1 c2
      go_wp2_with fail
      refine bodyPost_ret (v := .agg #[.int .i64 ((nb : Int) + max xe 0), .int .i64 (max (-xe) 0), .bool true]) (by simp [results, Tryd.results104, go_sem, c0, c1, c2]) rfl ⟨by rw [HL.out], ?_⟩
      have h3 := hg.out
      exact ((HO1.out.setCell (.inr (by show w.heap.size ≤ g; omega)) _).setCell (.inr (by show w.heap.size ≤ g; omega)) _).setCell (.inr (by show w.heap.size ≤ g; omega)) _
    case hl =>
      repeat (refine List.forall_mem_cons.2 ⟨?_, ?_⟩; exact isV.lasts _)
      exact fun _ h => (by cases h)
end Go.Proofs.YtigpnopeacicpaaDoor
