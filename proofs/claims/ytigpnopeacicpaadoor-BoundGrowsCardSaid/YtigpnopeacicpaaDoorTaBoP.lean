/-
  Package bound, plain: what is known of each number (entries), its growth, the bits that tell a number from 0.
-/
import Derived.Test.YtigpnopeacicpaaDoorTaRoots
namespace Go.Proofs.YtigpnopeacicpaaDoor

/-- What is known of a number. -/
structure En where
  u : Int
  l : Int
  ok : Bool
/-- The greatest U, L and Sep. -/
def topB : Int := 1099511627776
def clipE (e : En) : En := ⟨min e.u topB, min e.l topB, e.ok && (decide (e.u ≤ topB) && decide (e.l ≤ topB))⟩
def en0 : En := ⟨0, 0, false⟩
def combE (lf : Nat → En) (n : Nd) (a b : En) : En :=
  if n.k = 0 then lf n.f
  else if n.k = 1 ∨ n.k = 2 then ⟨1 + max (a.u + b.l) (a.l + b.u), a.l + b.l, a.ok && b.ok⟩
  else if n.k = 3 then ⟨a.u + b.u, a.l + b.l, a.ok && b.ok⟩
  else if n.k = 4 then ⟨a.u + b.l, a.l + b.u, a.ok && b.ok⟩
  else if a.l ≤ a.u then ⟨(a.u + a.l + 1) / 2, a.l, a.ok⟩
  else ⟨a.u, (a.u + a.l + 1) / 2, a.ok⟩
def entL (lf : Nat → En) (ns : List Nd) : Nat → List En
  | 0 => []
  | k + 1 => entL lf ns k ++ [clipE (combE lf (nodeAt ns (k : Int)) ((entL lf ns k)[(nodeAt ns (k : Int)).a.toNat]?.getD en0) ((entL lf ns k)[(nodeAt ns (k : Int)).b.toNat]?.getD en0))]
theorem entL_len (lf : Nat → En) (ns : List Nd) (k : Nat) : (entL lf ns k).length = k := by
  induction k with
  | zero => rfl
  | succ k ih => simp [entL, ih]
/-- What is known of a number of the dag. -/
def ent (lf : Nat → En) (ns : List Nd) (x : Int) : En := (entL lf ns (x.toNat + 1))[x.toNat]?.getD en0
theorem entL_get (lf : Nat → En) (ns : List Nd) : ∀ (k i : Nat), i < k → (entL lf ns k)[i]?.getD en0 = ent lf ns (i : Int)
  | 0, i, h => by omega
  | k + 1, i, h => by
    by_cases e : i = k
    · subst e
      unfold ent
      rw [Int.toNat_natCast]
    · rw [← entL_get lf ns k i (by omega)]
      show (entL lf ns k ++ _)[i]?.getD en0 = _
      rw [List.getElem?_append_left (by rw [entL_len]; omega)]
theorem combE_congr (lf : Nat → En) (n : Nd) {a b a' b' : En} (ha : n.k ≠ 0 → a = a') (hb : n.k ≠ 0 → n.k ≠ 5 → b = b') (_ : n.k = 0 ∨ n.k = 1 ∨ n.k = 2 ∨ n.k = 3 ∨ n.k = 4 ∨ n.k = 5) : combE lf n a b = combE lf n a' b' := by
  unfold combE
  by_cases h0 : n.k = 0
  · rw [if_pos h0, if_pos h0]
  · obtain rfl := ha h0
    by_cases h : n.k = 5
    · simp [h]
    · obtain rfl := hb h0 h
      rfl
/-- Kinds that there are. -/
def KindOk (ns : List Nd) : Prop := ∀ x : Nat, x < ns.length → (nodeAt ns (x : Int)).k = 0 ∨ (nodeAt ns (x : Int)).k = 1 ∨ (nodeAt ns (x : Int)).k = 2 ∨ (nodeAt ns (x : Int)).k = 3 ∨ (nodeAt ns (x : Int)).k = 4 ∨ (nodeAt ns (x : Int)).k = 5
theorem ent_eq (lf : Nat → En) {ns : List Nd} (ok : OkDag ns) (hk : KindOk ns) {x : Nat} (hx : x < ns.length) :
    ent lf ns (x : Int) = clipE (combE lf (nodeAt ns (x : Int)) (ent lf ns (nodeAt ns (x : Int)).a) (ent lf ns (nodeAt ns (x : Int)).b)) := by
  have e : ent lf ns (x : Int) = clipE (combE lf (nodeAt ns (x : Int)) ((entL lf ns x)[(nodeAt ns (x : Int)).a.toNat]?.getD en0) ((entL lf ns x)[(nodeAt ns (x : Int)).b.toNat]?.getD en0)) := by
    show (entL lf ns ((x : Int).toNat + 1))[(x : Int).toNat]?.getD en0 = _
    rw [Int.toNat_natCast]
    show (entL lf ns x ++ [_])[x]?.getD en0 = _
    rw [List.getElem?_append_right (by rw [entL_len]; omega), entL_len, Nat.sub_self]
    rfl
  rw [e]
  have hkid := ok (x : Int) (by omega) (by omega)
  have hget : ∀ c ∈ kids (nodeAt ns (x : Int)), (entL lf ns x)[c.toNat]?.getD en0 = ent lf ns c := fun c hc => by
    have := hkid c hc
    rw [entL_get lf ns x c.toNat (by omega), show ((c.toNat : Nat) : Int) = c by omega]
  rw [combE_congr lf (nodeAt ns (x : Int)) (fun h0 => hget _ (by unfold kids; rw [if_neg h0]; split <;> simp)) (fun h0 h5 => hget _ (by unfold kids; rw [if_neg h0, if_neg h5]; simp)) (hk x hx)]
/-- Not below 0, not too great. -/
def EnOk (e : En) : Prop := 0 ≤ e.u ∧ e.u ≤ topB ∧ 0 ≤ e.l ∧ e.l ≤ topB
def LfOk (lf : Nat → En) : Prop := ∀ f, 0 ≤ (lf f).u ∧ (lf f).u ≤ 1000000 ∧ 0 ≤ (lf f).l ∧ (lf f).l ≤ 1000000
theorem topB_val : topB = 1099511627776 := rfl
theorem clip_ok {e : En} (h : 0 ≤ e.u ∧ 0 ≤ e.l) : EnOk (clipE e) := by
  unfold EnOk clipE
  simp only [topB_val]
  omega
theorem comb_pos {lf : Nat → En} (hl : LfOk lf) (n : Nd) {a b : En} (ha : EnOk a) (hb : EnOk b) : 0 ≤ (combE lf n a b).u ∧ 0 ≤ (combE lf n a b).l := by
  unfold EnOk at ha hb
  have := hl n.f
  unfold combE
  repeat' split
  all_goals (try dsimp only) <;> omega
theorem en0_ok : EnOk en0 := by unfold EnOk en0; simp only [topB_val]; omega
theorem entL_ok {lf : Nat → En} (hl : LfOk lf) (ns : List Nd) : ∀ (k i : Nat), EnOk ((entL lf ns k)[i]?.getD en0)
  | 0, i => by simpa [entL] using en0_ok
  | k + 1, i => by
    by_cases h1 : i < k
    · rw [entL_get lf ns _ _ (by omega), ← entL_get lf ns k i h1]
      exact entL_ok hl ns k i
    · by_cases h2 : i = k
      · subst h2
        show EnOk ((entL lf ns i ++ [_])[i]?.getD en0)
        rw [List.getElem?_append_right (by rw [entL_len]; omega), entL_len, Nat.sub_self]
        exact clip_ok (comb_pos hl _ (entL_ok hl ns i _) (entL_ok hl ns i _))
      · rw [List.getElem?_eq_none (by rw [entL_len]; omega)]
        exact en0_ok
theorem ent_ok {lf : Nat → En} (hl : LfOk lf) (ns : List Nd) (x : Int) : EnOk (ent lf ns x) := entL_ok hl ns _ _

/-- Reached from one: itself, or what is reached from an operand. -/
theorem reach_kid {ns : List Nd} {R : Int → Prop} {x y : Int} (hx : Reach ns R x) (hy : Reach ns (· ∈ [x]) y) : Reach ns R y := by
  induction hy with
  | root y h _ _ => have e : y = x := by simpa using h
                    exact e ▸ hx
  | kid y c _ hc ih => exact .kid y c ih hc
theorem reach_step {ns : List Nd} (ok : OkDag ns) {x y : Int} (hy : Reach ns (· ∈ [x]) y) : y = x ∨ ∃ c ∈ kids (nodeAt ns x), Reach ns (· ∈ [c]) y := by
  induction hy with
  | root y h _ _ => exact .inl (by simpa using h)
  | kid y c hy hc ih =>
    right
    rcases ih with rfl | ⟨d, hd, h⟩
    · have hr := hy.range ok
      have := ok y hr.1 hr.2 c hc
      exact ⟨c, hc, .root c (by simp) (by omega) (by omega)⟩
    · exact ⟨d, hd, .kid y c h hc⟩
theorem reach_up {ns : List Nd} {x c y : Int} (h0 : 0 ≤ x) (h1 : x < ns.length) (hc : c ∈ kids (nodeAt ns x)) (hy : Reach ns (· ∈ [c]) y) : Reach ns (· ∈ [x]) y := reach_kid (.kid x c (.root x (by simp) h0 h1) hc) hy
open Classical in
theorem rootsL_below (ns : List Nd) (x : Int) : rootsL ns (belowOf ns x) = (List.range ns.length).countP fun (i : Nat) => decide (Reach ns (· ∈ [x]) (i : Int) ∧ (nodeAt ns (i : Int)).k = 5) := by
  unfold rootsL belowOf belowL
  rw [← List.countP_eq_length_filter, List.countP_map, List.countP_filter]
  apply List.countP_congr
  intro i _
  simp [and_comm]
open Classical in
theorem roots_kid {ns : List Nd} {x c : Int} (h0 : 0 ≤ x) (h1 : x < ns.length) (hc : c ∈ kids (nodeAt ns x)) : rootsL ns (belowOf ns c) ≤ rootsL ns (belowOf ns x) := by
  rw [rootsL_below, rootsL_below]
  apply List.countP_mono_left
  intro i _ h
  simp only [decide_eq_true_eq] at h ⊢
  exact ⟨reach_up h0 h1 hc h.1, h.2⟩
theorem countP_one (p q : Nat → Bool) (x : Nat) : ∀ n, (∀ i, i < n → p i = (q i || decide (i = x))) → (x < n → q x = false) → (List.range n).countP p = (List.range n).countP q + if x < n then 1 else 0
  | 0, _, _ => by simp
  | n + 1, h, hq => by
    rw [List.range_succ, List.countP_append, List.countP_append, countP_one p q x n (fun i hi => h i (by omega)) (fun hx => hq (by omega))]
    have e := h n (by omega)
    by_cases hx : n = x
    · subst hx
      have := hq (by omega)
      simp [e, this]
    · have e2 : p n = q n := by rw [e]; simp [hx]
      simp only [List.countP_singleton, e2]
      by_cases h3 : x < n
      · rw [if_pos h3, if_pos (show x < n + 1 by omega)]; omega
      · rw [if_neg h3, if_neg (show ¬ x < n + 1 by omega)]; omega
open Classical in
theorem roots_root {ns : List Nd} (ok : OkDag ns) {x : Nat} (h1 : x < ns.length) (hk : (nodeAt ns (x : Int)).k = 5) : rootsL ns (belowOf ns (x : Int)) = rootsL ns (belowOf ns (nodeAt ns (x : Int)).a) + 1 := by
  have hkid : kids (nodeAt ns (x : Int)) = [(nodeAt ns (x : Int)).a] := by unfold kids; rw [if_neg (by omega), if_pos hk]
  have hlt := ok (x : Int) (by omega) (by omega) (nodeAt ns (x : Int)).a (by rw [hkid]; simp)
  rw [rootsL_below, rootsL_below, countP_one _ (fun (i : Nat) => decide (Reach ns (· ∈ [(nodeAt ns (x : Int)).a]) (i : Int) ∧ (nodeAt ns (i : Int)).k = 5)) x ns.length, if_pos h1]
  · intro i hi
    rw [Bool.eq_iff_iff]
    simp only [Bool.or_eq_true, decide_eq_true_eq]
    constructor
    · rintro ⟨h, h5⟩
      rcases reach_step ok h with e | ⟨c, hc, h2⟩
      · exact .inr (by omega)
      · rw [hkid] at hc
        have e : c = (nodeAt ns (x : Int)).a := by simpa using hc
        exact .inl ⟨e ▸ h2, h5⟩
    · rintro (⟨h, h5⟩ | rfl)
      · exact ⟨reach_up (by omega) (by omega) (by rw [hkid]; simp) h, h5⟩
      · exact ⟨.root _ (by simp) (by omega) (by omega), hk⟩
  · intro _
    rw [decide_eq_false_iff_not]
    rintro ⟨h, _⟩
    have : ∀ y, Reach ns (· ∈ [(nodeAt ns (x : Int)).a]) y → y ≤ (nodeAt ns (x : Int)).a := by
      intro y hy
      induction hy with
      | root y h _ _ => have e : y = (nodeAt ns (x : Int)).a := by simpa using h
                        omega
      | kid y c hy hc ih =>
        have hr := hy.range ok
        have := ok y hr.1 hr.2 c hc
        omega
    have := this _ h
    omega

/-- Is a Sep told? -/
noncomputable def sepB (lf : Nat → En) (ns : List Nd) (x : Int) : Bool := (ent lf ns x).ok && (decide ((rootsL ns (belowOf ns x) : Int) ≤ 20) && decide (max (ent lf ns x).u (ent lf ns x).l * 2 ^ rootsL ns (belowOf ns x) + 1 ≤ topB))
noncomputable def sepV (lf : Nat → En) (ns : List Nd) (x : Int) : Int := max (ent lf ns x).u (ent lf ns x).l * 2 ^ rootsL ns (belowOf ns x) + 1
theorem sep_ge {lf : Nat → En} (hl : LfOk lf) (ns : List Nd) (x : Int) : 1 ≤ sepV lf ns x ∧ (ent lf ns x).u ≤ sepV lf ns x ∧ (ent lf ns x).l ≤ sepV lf ns x := by
  have h := ent_ok hl ns x
  unfold sepV
  unfold EnOk at h
  have hm : max (ent lf ns x).u (ent lf ns x).l ≤ max (ent lf ns x).u (ent lf ns x).l * 2 ^ rootsL ns (belowOf ns x) := by
    have h1 : (1 : Int) ≤ 2 ^ rootsL ns (belowOf ns x) := by exact_mod_cast Nat.one_le_two_pow
    have := Int.mul_le_mul_of_nonneg_left h1 (show 0 ≤ max (ent lf ns x).u (ent lf ns x).l by omega)
    omega
  omega
theorem comb_whole {lf : Nat → En} (n : Nd) (a b : En) (h : (combE lf n a b).ok = true) : (n.k ≠ 0 → a.ok = true) ∧ (n.k ≠ 0 → n.k ≠ 5 → (n.k = 1 ∨ n.k = 2 ∨ n.k = 3 ∨ n.k = 4) → b.ok = true) := by
  revert h
  unfold combE
  split
  · intro _; exact ⟨fun h => absurd ‹_› h, fun h => absurd ‹_› h⟩
  split
  · intro h; simp at h; exact ⟨fun _ => h.1, fun _ _ _ => h.2⟩
  split
  · intro h; simp at h; exact ⟨fun _ => h.1, fun _ _ _ => h.2⟩
  split
  · intro h; simp at h; exact ⟨fun _ => h.1, fun _ _ _ => h.2⟩
  split
  · intro h; exact ⟨fun _ => h, fun _ _ h2 => by omega⟩
  · intro h; exact ⟨fun _ => h, fun _ _ h2 => by omega⟩
theorem clip_whole {e : En} (h : (clipE e).ok = true) : e.ok = true ∧ clipE e = e := by
  unfold clipE at h ⊢
  simp at h
  obtain ⟨h1, h2, h3⟩ := h
  refine ⟨h1, ?_⟩
  cases e
  simp only [En.mk.injEq]
  simp at h1 h2 h3 ⊢
  exact ⟨by omega, by omega, by simp [h1, h2, h3]⟩
/-- What an operand's bounds are to those of what is made of it. -/
theorem ent_grow {lf : Nat → En} (hl : LfOk lf) {ns : List Nd} (ok : OkDag ns) (hk : KindOk ns) {x : Nat} (hx : x < ns.length) (h0 : (nodeAt ns (x : Int)).k ≠ 0) (hw : (ent lf ns (x : Int)).ok = true) :
    (ent lf ns (nodeAt ns (x : Int)).a).ok = true ∧
    ((nodeAt ns (x : Int)).k = 5 → max (ent lf ns (nodeAt ns (x : Int)).a).u (ent lf ns (nodeAt ns (x : Int)).a).l ≤ 2 * max (ent lf ns (x : Int)).u (ent lf ns (x : Int)).l ∧ (ent lf ns (x : Int)).u ≤ (ent lf ns (nodeAt ns (x : Int)).a).u + (ent lf ns (nodeAt ns (x : Int)).a).l) ∧
    ((nodeAt ns (x : Int)).k ≠ 5 → max (ent lf ns (nodeAt ns (x : Int)).a).u (ent lf ns (nodeAt ns (x : Int)).a).l ≤ max (ent lf ns (x : Int)).u (ent lf ns (x : Int)).l) := by
  have he := ent_eq lf ok hk hx
  rw [he] at hw
  obtain ⟨h1, h2⟩ := clip_whole hw
  rw [h2] at he
  have ha := ent_ok hl ns (nodeAt ns (x : Int)).a
  have hb := ent_ok hl ns (nodeAt ns (x : Int)).b
  have hwa := (comb_whole _ _ _ h1).1 h0
  generalize ent lf ns (nodeAt ns (x : Int)).a = a at *
  generalize ent lf ns (nodeAt ns (x : Int)).b = b at *
  refine ⟨hwa, ?_⟩
  rw [he]
  have hkk := hk x hx
  generalize nodeAt ns (x : Int) = n at *
  unfold EnOk at ha hb
  unfold combE
  rw [if_neg h0]
  split
  · exact ⟨fun _ => by omega, fun _ => by dsimp only; omega⟩
  split
  · exact ⟨fun _ => by omega, fun _ => by dsimp only; omega⟩
  split
  · exact ⟨fun _ => by omega, fun _ => by dsimp only; omega⟩
  split
  · exact ⟨fun _ => by dsimp only; omega, fun _ => by omega⟩
  · exact ⟨fun _ => by dsimp only; omega, fun _ => by omega⟩
theorem sep_grow {lf : Nat → En} (hl : LfOk lf) {ns : List Nd} (ok : OkDag ns) (hk : KindOk ns) {x : Nat} (hx : x < ns.length) (h0 : (nodeAt ns (x : Int)).k ≠ 0) (hs : sepB lf ns (x : Int) = true) :
    sepB lf ns (nodeAt ns (x : Int)).a = true ∧ ((nodeAt ns (x : Int)).k = 5 → sepV lf ns (nodeAt ns (x : Int)).a ≤ sepV lf ns (x : Int) ∧ (ent lf ns (x : Int)).u ≤ (ent lf ns (nodeAt ns (x : Int)).a).u + (ent lf ns (nodeAt ns (x : Int)).a).l ∧ rootsL ns (belowOf ns (x : Int)) = rootsL ns (belowOf ns (nodeAt ns (x : Int)).a) + 1) := by
  unfold sepB at hs
  simp only [Bool.and_eq_true, decide_eq_true_eq] at hs
  obtain ⟨hw, hr, ht⟩ := hs
  obtain ⟨g1, g2, g3⟩ := ent_grow hl ok hk hx h0 hw
  have hka : (nodeAt ns (x : Int)).a ∈ kids (nodeAt ns (x : Int)) := by unfold kids; rw [if_neg h0]; split <;> simp
  have hr2 := roots_kid (by omega) (by omega) hka
  have ha := ent_ok hl ns (nodeAt ns (x : Int)).a
  have hxx := ent_ok hl ns (x : Int)
  unfold EnOk at ha hxx
  have key : sepV lf ns (nodeAt ns (x : Int)).a ≤ sepV lf ns (x : Int) := by
    unfold sepV
    by_cases h5 : (nodeAt ns (x : Int)).k = 5
    · rw [roots_root ok hx h5, Int.pow_succ]
      have h := Int.mul_le_mul_of_nonneg_right (g2 h5).1 (show (0 : Int) ≤ 2 ^ rootsL ns (belowOf ns (nodeAt ns (x : Int)).a) from Int.pow_nonneg (by omega))
      rw [Int.mul_comm 2 (max _ _), Int.mul_assoc, Int.mul_comm 2] at h
      omega
    · have h := Int.mul_le_mul (g3 h5) (show (2 : Int) ^ rootsL ns (belowOf ns (nodeAt ns (x : Int)).a) ≤ 2 ^ rootsL ns (belowOf ns (x : Int)) by exact_mod_cast Nat.pow_le_pow_right (by omega) hr2) (Int.pow_nonneg (by omega)) (by omega)
      omega
  have e1 : sepV lf ns (x : Int) ≤ topB := ht
  refine ⟨?_, fun h5 => ⟨key, (g2 h5).2, roots_root ok hx h5⟩⟩
  unfold sepB
  simp only [Bool.and_eq_true, decide_eq_true_eq]
  exact ⟨g1, by omega, by have : sepV lf ns (nodeAt ns (x : Int)).a ≤ topB := by omega
                          exact this⟩
end Go.Proofs.YtigpnopeacicpaaDoor
