/-
  Typed regions whose slots may be read ahead of an assignment in the same region.
-/
import Derived.Test.YtkibkmdgibemkaaDoorTbGTyp
namespace Go.Proofs.YtkibkmdgibemkaaDoor
open Go.RowKit

section
variable {P : Program}
/-- As typB, but a slot may be read that a later operation assigns, if that one waits for the reader. -/
def typU (l : List Oper) (n : Nat) : Bool :=
  Region.noSelect l.toArray && (List.range l.length).all fun k => match l[k]? with
    | none => false
    | some o => (match o.dst with | none => true | some d => decide (d < n) && (List.range k).all fun i => dstOf l i != some d) &&
      (waits o).all (fun i => decide (i < k))
theorem typU_spec {l : List Oper} {n : Nat} (h : typU l n = true) : Region.noSelect l.toArray = true ∧ ∀ k o, l[k]? = some o →
    (∀ d, o.dst = some d → d < n ∧ ∀ i, i < k → dstOf l i ≠ some d) ∧ (∀ i ∈ waits o, i < k) ∧ True := by
  unfold typU at h
  rw [Bool.and_eq_true] at h
  refine ⟨h.1, fun k o hk => ?_⟩
  have hlt := (List.getElem?_eq_some_iff.1 hk).1
  have h2 := List.all_eq_true.1 h.2 k (List.mem_range.2 hlt)
  simp only [hk, Bool.and_eq_true] at h2
  obtain ⟨h3, h4⟩ := h2
  refine ⟨fun d hd => ?_, fun i hi => ?_, trivial⟩
  · rw [hd] at h3
    simp only [Bool.and_eq_true, decide_eq_true_eq, List.all_eq_true, List.mem_range, bne_iff_ne, ne_eq] at h3
    exact h3
  · simpa using List.all_eq_true.1 h4 i hi
def needU (l : List Oper) : Nat → List Oper → List (List Nat) → Bool
  | _, [], _ => true
  | _, _ :: _, [] => false
  | k, o :: os, js :: jss => js.all (fun i => (waits o).contains i) && (List.range l.length).all (fun i => match dstOf l i with | none => true | some d => js.contains i || !(o.looksAt l.toArray).contains d || (match l[i]? with | none => false | some x => (waits x).contains k)) && needU l (k + 1) os jss
theorem owesU_get {l : List Oper} {Ps : List VP} {a0 : Act} {w0 : World} : ∀ {os : List Oper} {jss : List (List Nat)} {ps : List VP} (b k : Nat) {o : Oper}, owes2 P l Ps a0 w0 os jss ps → needU l b os jss = true → os[k]? = some o →
    ∃ p js, ps[k]? = some p ∧ (∀ i ∈ js, i ∈ waits o) ∧ (∀ i d, dstOf l i = some d → i ∈ js ∨ d ∉ o.looksAt l.toArray ∨ ∃ x, l[i]? = some x ∧ b + k ∈ waits x) ∧ ∀ w, Only [] w0 w → withs l Ps w (fun a => growIf P l o a w p) js a0
  | [], _, _, _, _, _, _, _, h => by simp at h
  | _ :: _, [], _, _, _, _, h, _, _ => h.elim
  | _ :: _, _ :: _, [], _, _, _, h, _, _ => h.elim
  | o' :: os, js :: jss, p :: ps, b, 0, o, h, hn, he => by
    simp only [List.getElem?_cons_zero, Option.some.injEq] at he
    subst he
    simp only [needU, Bool.and_eq_true] at hn
    obtain ⟨⟨h1, h2⟩, _⟩ := hn
    refine ⟨p, js, rfl, fun i hi => by simpa using List.all_eq_true.1 h1 i hi, fun i d hi => ?_, h.1⟩
    have hil : i < l.length := by
      unfold dstOf at hi
      cases hx : l[i]? with
      | none => rw [hx] at hi; cases hi
      | some x => exact (List.getElem?_eq_some_iff.1 hx).1
    have h6 := List.all_eq_true.1 h2 i (List.mem_range.2 hil)
    simp only [hi, Bool.or_eq_true, Bool.not_eq_true', List.contains_iff_mem] at h6
    rcases h6 with (h6 | h6) | h6
    · exact .inl h6
    · exact .inr (.inl (by simpa using h6))
    · right; right
      cases hx : l[i]? with
      | none => rw [hx] at h6; simp at h6
      | some x => rw [hx] at h6; exact ⟨x, rfl, by simpa using h6⟩
  | _ :: os, _ :: jss, _ :: ps, b, k + 1, o, h, hn, he => by
    simp only [needU, Bool.and_eq_true] at hn
    have := owesU_get (b + 1) k h.2 hn.2 (by simpa using he)
    rw [show b + (k + 1) = b + 1 + k by omega]
    simpa using this
section
variable {l : List Oper} {Ps : List VP} {jss : List (List Nat)} {a0 a : Act} {w0 w : World} {listed : Array Bool} {Q : Exit → Act → World → Prop}
theorem Way.stepU (h : Way l Ps a0 w0 listed a w) (hB : typU l a0.tmps.size = true) (hm : ∀ p ∈ Ps, Lasts p) {k : Nat} {o : Oper} (hk : l[k]? = some o) (_ : listed.getD k true = false) {u : Value} {w' : World} (hw : Only [] w w') (hu : (Ps[k]?.getD fun _ _ => True) u w') :
    Way l Ps a0 w0 (listed.setIfInBounds k true) (a.put o.dst u) w' := by
  obtain ⟨hns, hsp⟩ := typU_spec hB
  have hlt : k < l.length := (List.getElem?_eq_some_iff.1 hk).1
  have hll : k < listed.size := by rw [h.lsize]; exact hlt
  have hdk : dstOf l k = o.dst := by unfold dstOf; rw [hk]; rfl
  have hmono : ∀ (i : Nat) (v : Value) (w w' : World), (Ps[i]?.getD fun _ _ => True) v w → Only [] w w' → (Ps[i]?.getD fun _ _ => True) v w' := fun i v w w' h1 h2 => by
    cases hp : Ps[i]? with
    | none => trivial
    | some p =>
      rw [hp] at h1
      exact hm p (List.mem_of_getElem? hp) v w w' h1 h2
  have hdiff : ∀ i d, i ≠ k → dstOf l i = some d → o.dst ≠ some d := fun i d hne hi hc => by
    unfold dstOf at hi
    cases hx : l[i]? with
    | none => rw [hx] at hi; cases hi
    | some x =>
      rw [hx] at hi
      rcases Nat.lt_or_gt_of_ne hne with h1 | h1
      · exact ((hsp k o hk).1 d hc).2 i h1 (by unfold dstOf; rw [hx]; exact hi)
      · exact ((hsp i x hx).1 d hi).2 k h1 (by rw [hdk]; exact hc)
  refine ⟨h.only.nil_trans hw, ?_, ?_, by simp [h.lsize], ?_, ?_⟩
  · rw [← h.defers]; cases o.dst <;> rfl
  · rw [← h.size]; cases o.dst <;> simp [Act.put]
  · intro t ht
    have h1 := h.off t fun i hi => ht i (by rw [getD_set _ _ _ hll, hi, Bool.or_true])
    have h2 := ht k (by rw [getD_set _ _ _ hll]; simp)
    rw [hdk] at h2
    cases hd : o.dst with
    | none => exact h1
    | some d =>
      rw [getD_put, if_neg (fun hc => h2 (by rw [hd, hc.1]))]
      exact h1
  · intro i hi d hd
    rw [getD_set _ _ _ hll] at hi
    by_cases hik : k = i
    · subst hik
      rw [hdk] at hd
      rw [hd, getD_put, if_pos ⟨rfl, by rw [h.size]; exact ((hsp k o hk).1 d hd).1⟩]
      exact hu
    · have hi' : listed.getD i false = true := by simpa [hik] using hi
      have h3 := h.typed i hi' d hd
      have h4 : (a.put o.dst u).tmps.getD d undef = a.tmps.getD d undef := by
        cases hdo : o.dst with
        | none => rfl
        | some d' =>
          rw [getD_put, if_neg]
          intro hc
          exact hdiff i d (Ne.symm hik) hd (by rw [hdo, hc.1])
      rw [h4]
      exact hmono i _ _ _ h3 hw
/-- All have come up. -/
theorem Way.doneU (h : Way l Ps a0 w0 listed a w) (hB : typU l a0.tmps.size = true) (hall : ∀ i, i < l.length → listed.getD i false = true) (he : ∀ w, Only [] w0 w → withs l Ps w (fun a => Q .normal a w) (List.range l.length) a0) : Q .normal a w := by
  obtain ⟨hns, hsp⟩ := typU_spec hB
  have h1 := withs_lays a (List.range l.length) a0 (he w h.only) (fun i hi d hd => h.typed i (hall i (List.mem_range.1 hi)) d hd)
  have e : lays l a (List.range l.length) a0 = a := by
    have hs : (lays l a (List.range l.length) a0).tmps.size = a.tmps.size := by rw [lays_size, h.size]
    have hd : (lays l a (List.range l.length) a0).defers = a.defers := by rw [lays_defers, h.defers]
    have ht : (lays l a (List.range l.length) a0).tmps = a.tmps := by
      apply Array.ext_getElem?
      intro t
      apply get_of_getD hs
      apply lays_get
      by_cases hex : ∃ i, dstOf l i = some t
      · obtain ⟨i, hi⟩ := hex
        right
        cases hx : l[i]? with
        | none => unfold dstOf at hi; rw [hx] at hi; cases hi
        | some x =>
          have hi2 := hi
          unfold dstOf at hi2
          rw [hx] at hi2
          exact ⟨((hsp i x hx).1 t hi2).1, i, List.mem_range.2 (List.getElem?_eq_some_iff.1 hx).1, hi⟩
      · left
        exact (h.off t fun i _ hc => hex ⟨i, hc⟩).symm
    generalize lays l a (List.range l.length) a0 = b at hs hd ht
    cases a; cases b
    simp only at hd ht
    rw [hd, ht]
  rwa [e] at h1
/-- An operation that may come up, at the act at hand. -/
theorem Way.growU (h : Way l Ps a0 w0 listed a w) (hB : typU l a0.tmps.size = true) {k : Nat} {o : Oper} (ho : ∃ p js, Ps[k]? = some p ∧ (∀ i ∈ js, i ∈ waits o) ∧ (∀ i d, dstOf l i = some d → i ∈ js ∨ d ∉ o.looksAt l.toArray ∨ listed.getD i false = false) ∧ ∀ w, Only [] w0 w → withs l Ps w (fun a => growIf P l o a w p) js a0) (hk : l[k]? = some o) (hw : ∀ i ∈ waits o, listed.getD i false = true) :
    growIf P l o a w (Ps[k]?.getD fun _ _ => True) := by
  obtain ⟨hns, hsp⟩ := typU_spec hB
  obtain ⟨p, js, hp, hjw, h3, hob⟩ := ho
  rw [hp]
  have hg := withs_lays a js a0 (hob w h.only) (fun i hi d hd => h.typed i (hw i (hjw i hi)) d hd)
  -- the two acts look alike to o
  have key : ∀ t, t ∈ o.looksAt l.toArray → (lays l a js a0).tmps.getD t undef = a.tmps.getD t undef := fun t ht => by
    apply lays_get
    by_cases hex : ∃ i, dstOf l i = some t
    · obtain ⟨i, hi⟩ := hex
      rcases h3 i t hi with h4 | h4 | h4
      · right
        refine ⟨?_, i, h4, hi⟩
        unfold dstOf at hi
        cases hx : l[i]? with
        | none => rw [hx] at hi; cases hi
        | some x => rw [hx] at hi; exact ((hsp i x hx).1 t hi).1
      · exact absurd ht h4
      · left
        refine (h.off t fun j hj hc => ?_).symm
        have hij : j = i := by
          have hi' := hi
          have hc' := hc
          unfold dstOf at hi' hc'
          cases hx : l[i]? with
          | none => rw [hx] at hi'; cases hi'
          | some x =>
            cases hy : l[j]? with
            | none => rw [hy] at hc'; cases hc'
            | some y =>
              rw [hx] at hi'
              rw [hy] at hc'
              rcases Nat.lt_trichotomy j i with h1 | h1 | h1
              · exact absurd hc (((hsp i x hx).1 t hi').2 j h1)
              · exact h1
              · exact absurd hi (((hsp j y hy).1 t hc').2 i h1)
        subst hij
        rw [h4] at hj
        cases hj
    · left
      exact (h.off t fun i _ hc => hex ⟨i, hc⟩).symm
  have e1 : execOp (lays l a js a0).eval o = execOp a.eval o := execOp_congr o (fun cs b => Region.noSelect_spec hns k o cs b (by simpa using hk)) fun x hx => eval_of_get x fun t ht => key t (by
    subst ht
    exact List.mem_append_left _ (List.mem_filterMap.2 ⟨.tmp t, by simpa using hx, rfl⟩))
  have e2 : Region.wanted o (yielded l.toArray (lays l a js a0).tmps) = Region.wanted o (yielded l.toArray a.tmps) := by
    unfold Region.wanted
    cases hgd : o.guard with
    | none => rfl
    | some gw =>
      obtain ⟨g, want⟩ := gw
      have hy : yielded l.toArray (lays l a js a0).tmps g = yielded l.toArray a.tmps g := by
        unfold yielded
        cases ht : (l.toArray[g]?).bind (·.dst) with
        | none => rfl
        | some t =>
          have hk2 := key t (by unfold Oper.looksAt; rw [hgd]; simp only [ht]; simp)
          have := get_of_getD (by rw [lays_size, h.size]) hk2
          simp only [Option.bind_some, this]
      simp only [hy]
  unfold growIf growAt at hg ⊢
  rw [e1, e2] at hg
  exact hg
theorem way_anyU (hB : typU l a0.tmps.size = true) (hm : ∀ p ∈ Ps, Lasts p) (ho : owes2 P l Ps a0 w0 l jss Ps) (hnd : needU l 0 l jss = true) (he : ∀ w, Only [] w0 w → withs l Ps w (fun a => Q .normal a w) (List.range l.length) a0) :
    ∀ (fuel : Nat) (listed : Array Bool) (a : Act) (w : World), Way l Ps a0 w0 listed a w → (∀ i o, listed.getD i false = true → l[i]? = some o → ∀ j ∈ waits o, listed.getD j false = true) → ((List.range l.length).filter fun i => !listed.getD i false).length ≤ fuel → wpAny P .any l.toArray Q fuel listed a w := by
  obtain ⟨hns, hsp⟩ := typU_spec hB
  -- where none is ready, all have come up
  have hall : ∀ (listed : Array Bool), listed.size = l.length → Region.ready .any l.toArray listed = [] → ∀ i, i < l.length → listed.getD i false = true := fun listed hs hr i => by
    induction i using Nat.strongRecOn with
    | ind i ih =>
      intro hi
      apply Decidable.byContradiction
      intro hc
      have hmem : i ∈ Region.ready .any l.toArray listed := by
        refine mem_ready.2 ⟨?_, l[i], by simp [hi], fun e hem hb => ?_⟩
        · have hl : i < listed.size := by omega
          rw [Array.getD_eq_getD_getElem?, Array.getElem?_eq_getElem hl] at hc ⊢
          simpa using hc
        · have hwt : e.on ∈ waits l[i] := List.mem_map.2 ⟨e, List.mem_filter.2 ⟨by simpa using hem, hb⟩, rfl⟩
          have hlt := (hsp i l[i] (by simp [hi])).2.1 e.on hwt
          exact ih e.on hlt (by omega)
      rw [hr] at hmem
      cases hmem
  intro fuel
  induction fuel with
  | zero =>
    intro listed a w h hcl hf
    have hcov : ∀ i, i < l.length → listed.getD i false = true := fun i hi => by
      apply Decidable.byContradiction
      intro hc
      have : i ∈ (List.range l.length).filter fun i => !listed.getD i false := List.mem_filter.2 ⟨List.mem_range.2 hi, by simpa using hc⟩
      have := List.length_pos_of_mem this
      omega
    refine ⟨?_, h.doneU hB hcov he⟩
    cases hr : Region.ready .any l.toArray listed with
    | nil => rfl
    | cons i is =>
      have hi : i ∈ Region.ready .any l.toArray listed := by rw [hr]; simp
      obtain ⟨h1, o, h2, _⟩ := mem_ready.1 hi
      have hlt : i < l.length := by
        have := (Array.getElem?_eq_some_iff.1 h2).1
        simpa using this
      have h3 := hcov i hlt
      have hl : i < listed.size := by rw [h.lsize]; exact hlt
      rw [Array.getD_eq_getD_getElem?, Array.getElem?_eq_getElem hl] at h1 h3
      simp at h1 h3
      rw [h1] at h3
      cases h3
  | succ fuel ih =>
    intro listed a w h hcl hf
    refine ⟨fun hr => h.doneU hB (hall listed h.lsize hr) he, fun i hi => ?_⟩
    obtain ⟨hun, o, hoi, hwt⟩ := mem_ready.1 hi
    have hoi' : l[i]? = some o := by simpa using hoi
    have hlt : i < l.length := (List.getElem?_eq_some_iff.1 hoi').1
    have hl : i < listed.size := by rw [h.lsize]; exact hlt
    have hunf : listed.getD i false = false := by
      rw [Array.getD_eq_getD_getElem?, Array.getElem?_eq_getElem hl] at hun ⊢
      exact hun
    have hws : ∀ j ∈ waits o, listed.getD j false = true := fun j hj => by
      obtain ⟨e, hem, rfl⟩ := List.mem_map.1 hj
      rw [List.mem_filter] at hem
      exact hwt e (by simpa using hem.1) hem.2
    have hog : ∃ p js, Ps[i]? = some p ∧ (∀ i ∈ js, i ∈ waits o) ∧ (∀ i d, dstOf l i = some d → i ∈ js ∨ d ∉ o.looksAt l.toArray ∨ listed.getD i false = false) ∧ ∀ w, Only [] w0 w → withs l Ps w (fun a => growIf P l o a w p) js a0 := by
      obtain ⟨p, js, q1, q2, q3, q4⟩ := owesU_get 0 i ho hnd hoi'
      refine ⟨p, js, q1, q2, fun j d hj => ?_, q4⟩
      rcases q3 j d hj with h1 | h1 | ⟨x, h1, h2⟩
      · exact .inl h1
      · exact .inr (.inl h1)
      · right; right
        rw [Nat.zero_add] at h2
        cases hc : listed.getD j false with
        | false => rfl
        | true =>
          have := hcl j x hc h1 i h2
          rw [hunf] at this
          cases this
    have hg := h.growU hB hog hoi' hws
    have next : ∀ u w', Only [] w w' → (Ps[i]?.getD fun _ _ => True) u w' → wpAny P .any l.toArray Q fuel (listed.setIfInBounds i true) (a.put o.dst u) w' := fun u w' h1 h2 =>
      ih _ _ _ (h.stepU hB hm hoi' hun h1 h2) (fun m x hm' hx j hj => by
        rw [getD_set _ _ _ hl] at hm' ⊢
        by_cases him : i = m
        · subst him
          rw [hoi'] at hx
          obtain rfl := Option.some.inj hx
          rw [hws j hj, Bool.or_true]
        · have h3 : listed.getD m false = true := by simpa [him] using hm'
          rw [hcl m x h3 hx j hj, Bool.or_true]) (by have := range_filter_set listed hlt h.lsize hunf; omega)
    unfold wpOp
    simp only [hoi]
    unfold growIf at hg
    by_cases hw : Region.wanted o (yielded l.toArray a.tmps) = true
    · rw [if_pos hw] at hg ⊢
      left
      unfold growAt at hg
      unfold Oper.wp
      generalize (execOp a.eval o).run P w = r at hg ⊢
      cases r with
      | ok n w' =>
        cases n <;> simp only [growUpon] at hg <;> simp only [Oper.upon]
        case value u => exact next u w' hg.1 hg.2
        case skip => exact next undef w' hg.1 hg.2
        case enter f args => exact hg.mono fun e w'' ⟨v, hev, h1, h2⟩ => by subst hev; exact next v w'' h1 h2
      | halt x w' => simp only [growUpon] at hg
    · rw [if_neg hw] at hg ⊢
      exact next undef w (Only.refl _ _) hg
theorem wp_region_typedU {id : Nat} (hm : P.follows .mixedOrders = true) (Ps : List VP) (jss : List (List Nat)) (hnd : needU l 0 l jss = true) (hB : typU l a.tmps.size = true) (hl : ∀ p ∈ Ps, Lasts p) (ho : owes2 P l Ps a w l jss Ps) (he : ∀ w', Only [] w w' → withs l Ps w' (fun a => Q .normal a w') (List.range l.length) a) :
    (Code.region id l.toArray true).wp P Q a w := by
  refine wp_region_any hm (way_anyU hB hl ho hnd he _ _ _ _ ⟨(Only.refl [] w).drew, rfl, rfl, by simp, fun t _ => rfl, fun i hi => ?_⟩ (fun i o hi => ?_) ?_)
  · rw [Array.getD_eq_getD_getElem?, Array.getElem?_replicate] at hi
    split at hi <;> simp at hi
  · rw [Array.getD_eq_getD_getElem?, Array.getElem?_replicate] at hi
    split at hi <;> simp at hi
  · refine Nat.le_trans (List.length_filter_le _ _) ?_
    simp
end
end
end Go.Proofs.YtkibkmdgibemkaaDoor
