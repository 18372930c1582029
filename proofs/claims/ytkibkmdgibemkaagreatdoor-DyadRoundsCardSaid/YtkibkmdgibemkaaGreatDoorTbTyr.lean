/-
  Typed regions: new variables made in one region lie apart from each other.
-/
import Derived.Test.YtkibkmdgibemkaaGreatDoorTbGTyp
namespace Go.Proofs.YtkibkmdgibemkaaGreatDoor
open Go.RowKit
section
variable {P : Program}
section
variable {l : List Oper} {Ps : List VP} {a0 a : Act} {w0 w : World} {listed : Array Bool} {Q : Exit → Act → World → Prop} {jss : List (List Nat)}
/-- These operations make variables of the type T. -/
def allocB (l : List Oper) (al : List Nat) (T : TypeId) : Bool := al.all fun k => match l[k]? with
  | none => false
  | some o => o.guard.isNone && (match o.op with | .alloc t => t == T | _ => false) && (match o.dst with | some _ => true | none => false)
theorem allocB_spec {al : List Nat} {T : TypeId} (h : allocB l al T = true) (k : Nat) (hk : k ∈ al) : ∃ o, l[k]? = some o ∧ o.guard = none ∧ o.op = .alloc T := by
  unfold allocB at h
  have h1 := List.all_eq_true.1 h k hk
  cases ho : l[k]? with
  | none => rw [ho] at h1; cases h1
  | some o =>
    rw [ho] at h1
    simp only [Bool.and_eq_true] at h1
    obtain ⟨⟨h2, h3⟩, _⟩ := h1
    refine ⟨o, rfl, by simpa using h2, ?_⟩
    split at h3
    · rename_i t he
      rw [he]
      congr 1
      simpa using h3
    · cases h3
/-- The new variables lie apart. -/
def Apart (l : List Oper) (al : List Nat) (a : Act) : Prop := ∀ i ∈ al, ∀ j ∈ al, i ≠ j → ∀ d d', dstOf l i = some d → dstOf l j = some d' → a.tmps.getD d undef ≠ a.tmps.getD d' undef
def Fresh (l : List Oper) (al : List Nat) (listed : Array Bool) (a : Act) (w : World) : Prop := ∃ f : Nat → Nat, (∀ i ∈ al, listed.getD i false = true → f i < w.heap.size ∧ ∀ d, dstOf l i = some d → a.tmps.getD d undef = .pointer (some ⟨f i, 0, none⟩)) ∧ (∀ i ∈ al, ∀ j ∈ al, listed.getD i false = true → listed.getD j false = true → i ≠ j → f i ≠ f j)
theorem Fresh.apart {al : List Nat} {T : TypeId} (h : Fresh l al listed a w) (_ : allocB l al T = true) (hall : ∀ i ∈ al, listed.getD i false = true) : Apart l al a := by
  obtain ⟨f, h1, h2⟩ := h
  intro i hi j hj hij d d' hd hd' hc
  rw [(h1 i hi (hall i hi)).2 d hd, (h1 j hj (hall j hj)).2 d' hd'] at hc
  simp only [Value.pointer.injEq, Option.some.injEq, Addr.mk.injEq, and_true] at hc
  exact h2 i hi j hj (hall i hi) (hall j hj) hij hc
theorem Fresh.step {al : List Nat} {T : TypeId} {k : Nat} {o : Oper} {u : Value} {w' : World} (h : Fresh l al listed a w) (_ : allocB l al T = true) (hsp : ∀ k o, l[k]? = some o → (∀ d, o.dst = some d → d < a0.tmps.size ∧ ∀ i, i < k → dstOf l i ≠ some d) ∧ (∀ i ∈ waits o, i < k) ∧ (∀ i d, dstOf l i = some d → i ∈ waits o ∨ d ∉ o.looksAt l.toArray))
    (hw : Way l Ps a0 w0 listed a w) (hk : l[k]? = some o) (hu : listed.getD k false = false) (ho : Only [] w w') (hn : k ∈ al → u = .pointer (some ⟨w.heap.size, 0, none⟩) ∧ w.heap.size < w'.heap.size) : Fresh l al (listed.setIfInBounds k true) (a.put o.dst u) w' := by
  obtain ⟨f, h1, h2⟩ := h
  have hlt : k < l.length := (List.getElem?_eq_some_iff.1 hk).1
  have hll : k < listed.size := by rw [hw.lsize]; exact hlt
  have hdk : dstOf l k = o.dst := by unfold dstOf; rw [hk]; rfl
  have hdiff : ∀ i d, i ≠ k → dstOf l i = some d → o.dst ≠ some d := fun i d hne hi hc => by
    unfold dstOf at hi
    cases hx : l[i]? with
    | none => rw [hx] at hi; cases hi
    | some x =>
      rw [hx] at hi
      rcases Nat.lt_or_gt_of_ne hne with h1 | h1
      · exact ((hsp k o hk).1 d hc).2 i h1 (by unfold dstOf; rw [hx]; exact hi)
      · exact ((hsp i x hx).1 d hi).2 k h1 (by rw [hdk]; exact hc)
  have old : ∀ i, i ≠ k → (listed.setIfInBounds k true).getD i false = true → listed.getD i false = true := fun i hik hi => by
    rw [getD_set _ _ _ hll] at hi
    have : k ≠ i := fun hc => hik hc.symm
    simpa [this] using hi
  have keep : ∀ i d, i ≠ k → dstOf l i = some d → (a.put o.dst u).tmps.getD d undef = a.tmps.getD d undef := fun i d hik hd => by
    cases hdo : o.dst with
    | none => rfl
    | some d' =>
      rw [getD_put, if_neg]
      intro hc
      exact hdiff i d hik hd (by rw [hdo, hc.1])
  refine ⟨fun i => if i = k then w.heap.size else f i, fun i hi hli => ?_, fun i hi j hj hli hlj hij => ?_⟩
  · dsimp only
    by_cases hik : i = k
    · subst hik
      rw [if_pos rfl]
      obtain ⟨e1, e2⟩ := hn hi
      refine ⟨e2, fun d hd => ?_⟩
      rw [hdk] at hd
      rw [hd, getD_put, if_pos ⟨rfl, by rw [hw.size]; exact ((hsp i o hk).1 d hd).1⟩]
      exact e1
    · rw [if_neg hik]
      obtain ⟨e1, e2⟩ := h1 i hi (old i hik hli)
      exact ⟨Nat.lt_of_lt_of_le e1 ho.size, fun d hd => by rw [keep i d hik hd]; exact e2 d hd⟩
  · dsimp only
    by_cases hik : i = k
    · have hjk : j ≠ k := fun hc => hij (hik.trans hc.symm)
      rw [if_pos hik, if_neg hjk]
      have := (h1 j hj (old j hjk hlj)).1
      omega
    · by_cases hjk : j = k
      · rw [if_neg hik, if_pos hjk]
        have := (h1 i hi (old i hik hli)).1
        omega
      · rw [if_neg hik, if_neg hjk]
        exact h2 i hi j hj (old i hik hli) (old j hjk hlj) hij
theorem way_tail3 {n : Nat} {al : List Nat} {T : TypeId} {cs : Array Value} (hA : allocB l al T = true) (hrun : ∀ w : World, (Instr.alloc T true (.tuple #[])).run P w = .ok (.pointer (some ⟨w.heap.size, 0, none⟩)) (w.alloc (.cells cs T))) (hB : typB l a0.tmps.size = true) (hT : tailB l n = true) (hm : ∀ p ∈ Ps, Lasts p) (ho : owes2 P l Ps a0 w0 (l.take n) jss Ps) (hnd : needB l (l.take n) jss = true) (hal : ∀ i ∈ al, i < n) (he : ∀ w, Only [] w0 w → withs l Ps w (fun a => Apart l al a → wpList P l.toArray Q (l.drop n) a w) (List.range n) a0) :
    ∀ (f : Nat) (listed : Array Bool) (a : Act) (w : World), Way l Ps a0 w0 listed a w → Fresh l al listed a w → (∀ i o, listed.getD i false = true → l[i]? = some o → ∀ j ∈ waits o, listed.getD j false = true) → (∀ i, n ≤ i → listed.getD i false = false) → ((List.range n).filter fun i => !listed.getD i false).length = f → wpAny P .any l.toArray Q (f + (l.length - n)) listed a w := by
  obtain ⟨hns, hsp⟩ := typB_spec hB
  unfold tailB at hT
  simp only [Bool.and_eq_true, decide_eq_true_eq] at hT
  obtain ⟨⟨hn, ht1⟩, ht2⟩ := hT
  intro f
  induction f with
  | zero =>
    intro listed a w h hfr _ hrest hf
    have hcov : ∀ i, i < n → listed.getD i false = true := fun i hi => by
      apply Decidable.byContradiction
      intro hc
      have : i ∈ (List.range n).filter fun i => !listed.getD i false := List.mem_filter.2 ⟨List.mem_range.2 hi, by simpa using hc⟩
      have := List.length_pos_of_mem this
      omega
    have hw := h.done_n (K := fun a w => Apart l al a → wpList P l.toArray Q (l.drop n) a w) hB hcov hrest he (hfr.apart hA (fun i hi => hcov i (hal i hi)))
    have e : listed = ((List.range l.length).map fun i => decide (i < n)).toArray := by
      apply Array.ext
      · simp [h.lsize]
      · intro i h1 h2
        have hil : i < l.length := by rw [← h.lsize]; exact h1
        simp only [List.getElem_toArray, List.getElem_map, List.getElem_range]
        by_cases hin : i < n
        · have := hcov i hin
          rw [Array.getD_eq_getD_getElem?, Array.getElem?_eq_getElem h1] at this
          simpa [hin] using this
        · have := hrest i (by omega)
          rw [Array.getD_eq_getD_getElem?, Array.getElem?_eq_getElem h1] at this
          simpa [hin] using this
    have := wpAny_of_seq (P := P) (Q' := Q) (md := .any) (ops := l.toArray) (l.drop n) n listed a w (fun j => by simp) (by rw [e]; exact ht2) hw
    rw [Nat.zero_add]
    rwa [List.length_drop] at this
  | succ f ih =>
    intro listed a w h hfr hdown hrest hf
    have hlow : ∃ k, k < n ∧ listed.getD k false = false := by
      have : 0 < ((List.range n).filter fun i => !listed.getD i false).length := by omega
      obtain ⟨k, hk⟩ := List.exists_mem_of_length_pos this
      rw [List.mem_filter, List.mem_range] at hk
      exact ⟨k, hk.1, by simpa using hk.2⟩
    rw [show f + 1 + (l.length - n) = (f + (l.length - n)) + 1 by omega]
    refine ⟨fun hr => ?_, fun i hi => ?_⟩
    · exfalso
      obtain ⟨k, hk, hu⟩ := hlow
      induction k using Nat.strongRecOn with
      | ind k ihk =>
        have hkl : k < l.length := by omega
        by_cases hall : ∀ e ∈ (l[k]).after, Region.binds .any e = true → listed.getD e.on false = true
        · have hmem : k ∈ Region.ready .any l.toArray listed := by
            refine mem_ready.2 ⟨?_, l[k], by simp [hkl], fun e hem hb => hall e (by simpa using hem) hb⟩
            have hl : k < listed.size := by rw [h.lsize]; exact hkl
            rw [Array.getD_eq_getD_getElem?, Array.getElem?_eq_getElem hl] at hu ⊢
            exact hu
          rw [hr] at hmem
          cases hmem
        · obtain ⟨e, h1⟩ := Classical.not_forall.1 hall
          obtain ⟨hem, h2⟩ := Classical.not_forall.1 h1
          obtain ⟨hb, hne⟩ := Classical.not_forall.1 h2
          have hlt := (hsp k l[k] (by simp [hkl])).2.1 e.on (List.mem_map.2 ⟨e, List.mem_filter.2 ⟨by simpa using hem, hb⟩, rfl⟩)
          exact ihk e.on hlt (by omega) (by simpa using hne)
    · obtain ⟨hun, o, hoi, hwt⟩ := mem_ready.1 hi
      have hoi' : l[i]? = some o := by simpa using hoi
      have hlt : i < l.length := (List.getElem?_eq_some_iff.1 hoi').1
      have hl : i < listed.size := by rw [h.lsize]; exact hlt
      have hunf : listed.getD i false = false := by
        rw [Array.getD_eq_getD_getElem?, Array.getElem?_eq_getElem hl] at hun ⊢
        exact hun
      have hin : i < n := by
        apply Decidable.byContradiction
        intro hc
        obtain ⟨k, hk, hu⟩ := hlow
        have hmem : o ∈ l.drop n := List.mem_iff_getElem?.2 ⟨i - n, by rw [List.getElem?_drop, show n + (i - n) = i by omega]; exact hoi'⟩
        have h1 := List.all_eq_true.1 (List.all_eq_true.1 ht1 o hmem) k (List.mem_range.2 hk)
        have h2 : k ∈ back l l.length (waits o) := by simpa using h1
        have hw : ∀ j ∈ waits o, listed.getD j false = true := fun j hj => by
          obtain ⟨e, he1, rfl⟩ := List.mem_map.1 hj
          rw [List.mem_filter] at he1
          exact hwt e (by simpa using he1.1) he1.2
        have := back_all hdown l.length (waits o) hw k h2
        rw [hu] at this
        cases this
      have hoit : (l.take n)[i]? = some o := by rw [List.getElem?_take_of_lt hin]; exact hoi'
      have hg := h.grow2 hB (owes2_get i ho hnd hoit) hoi' (fun j hj => by
        obtain ⟨e, hem, rfl⟩ := List.mem_map.1 hj
        rw [List.mem_filter] at hem
        exact hwt e (by simpa using hem.1) hem.2)
      have next : ∀ u w', Only [] w w' → (i ∈ al → u = .pointer (some ⟨w.heap.size, 0, none⟩) ∧ w.heap.size < w'.heap.size) → (Ps[i]?.getD fun _ _ => True) u w' → wpAny P .any l.toArray Q (f + (l.length - n)) (listed.setIfInBounds i true) (a.put o.dst u) w' := fun u w' h1 h3 h2 =>
        ih _ _ _ (h.step hB hm hoi' hun h1 h2) (hfr.step hA hsp h hoi' hunf h1 h3) (fun j x hj hx t ht => by
          rw [getD_set _ _ _ hl] at hj ⊢
          by_cases hij : i = j
          · subst hij
            rw [hoi'] at hx
            injection hx with hx
            subst hx
            obtain ⟨e, he1, rfl⟩ := List.mem_map.1 ht
            rw [List.mem_filter] at he1
            rw [hwt e (by simpa using he1.1) he1.2, Bool.or_true]
          · have hj' : listed.getD j false = true := by simpa [hij] using hj
            rw [hdown j x hj' hx t ht, Bool.or_true]) (fun j hj => by rw [getD_set _ _ _ hl, hrest j hj]; simp; omega) (by
          have e : ((List.range n).filter fun i_1 => !(listed.setIfInBounds i true).getD i_1 false).length + 1 = ((List.range n).filter fun i => !listed.getD i false).length := by
            have hmem : i ∈ (List.range n).filter fun i => !listed.getD i false := by rw [List.mem_filter]; exact ⟨List.mem_range.2 hin, by rw [hunf]; rfl⟩
            have hnd : ((List.range n).filter fun i => !listed.getD i false).Nodup := List.nodup_range.filter _
            have e : ((List.range n).filter fun j => !(listed.setIfInBounds i true).getD j false) = ((List.range n).filter fun i => !listed.getD i false).erase i := by
              rw [hnd.erase_eq_filter, List.filter_filter]
              apply List.filter_congr
              intro j _
              rw [getD_set _ _ _ hl]
              by_cases h : i = j
              · subst h; simp
              · have h' : j ≠ i := fun hc => h hc.symm
                simp [h, h']
            rw [e, List.length_erase_of_mem hmem]
            have := List.length_pos_of_mem hmem
            omega
          omega)
      unfold wpOp
      simp only [hoi]
      unfold growIf at hg
      by_cases hmem : i ∈ al
      · obtain ⟨o', h1, h2, h3⟩ := allocB_spec hA i hmem
        rw [hoi'] at h1
        injection h1 with h1
        subst h1
        have hw : Region.wanted o (yielded l.toArray a.tmps) = true := by unfold Region.wanted; rw [h2]
        rw [if_pos hw] at hg ⊢
        left
        unfold growAt at hg
        unfold Oper.wp
        have hr : (execOp a.eval o).run P w = .ok (.value (.pointer (some ⟨w.heap.size, 0, none⟩))) (w.alloc (.cells cs T)) := by
          unfold execOp
          rw [h3]
          simp only [Sem.run_bind, Sem.run_pure, hrun, Result.andThen_ok]
        rw [hr] at hg ⊢
        simp only [growUpon] at hg
        simp only [Oper.upon]
        exact next _ _ hg.1 (fun _ => ⟨rfl, by simp⟩) hg.2
      · by_cases hw : Region.wanted o (yielded l.toArray a.tmps) = true
        · rw [if_pos hw] at hg ⊢
          left
          unfold growAt at hg
          unfold Oper.wp
          generalize (execOp a.eval o).run P w = r at hg ⊢
          cases r with
          | ok n w' =>
            cases n <;> simp only [growUpon] at hg <;> simp only [Oper.upon]
            case value u => exact next u w' hg.1 (fun hc => absurd hc hmem) hg.2
            case skip => exact next undef w' hg.1 (fun hc => absurd hc hmem) hg.2
            case enter f args => exact hg.mono fun e w'' ⟨v, hev, h1, h2⟩ => by subst hev; exact next v w'' h1 (fun hc => absurd hc hmem) h2
          | halt x w' => simp only [growUpon] at hg
        · rw [if_neg hw] at hg ⊢
          exact next undef w (Only.refl _ _) (fun hc => absurd hc hmem) hg
theorem wp_region_typed_tail3 {id : Nat} (n : Nat) (al : List Nat) (T : TypeId) (cs : Array Value) (hA : allocB l al T = true) (hal : al.all (fun i => decide (i < n)) = true) (hrun : ∀ w : World, (Instr.alloc T true (.tuple #[])).run P w = .ok (.pointer (some ⟨w.heap.size, 0, none⟩)) (w.alloc (.cells cs T))) (hm : P.follows .mixedOrders = true) (Ps : List VP) (jss : List (List Nat)) (hnd : needB l (l.take n) jss = true) (hB : typB l a.tmps.size = true) (hT : tailB l n = true) (hl : ∀ p ∈ Ps, Lasts p) (ho : owes2 P l Ps a w (l.take n) jss Ps) (he : ∀ w', Only [] w w' → withs l Ps w' (fun a => Apart l al a → wpList P l.toArray Q (l.drop n) a w') (List.range n) a) :
    (Code.region id l.toArray true).wp P Q a w := by
  have hn : n ≤ l.length := by
    unfold tailB at hT
    simp only [Bool.and_eq_true, decide_eq_true_eq] at hT
    exact hT.1.1
  have hrep : ∀ i, (Array.replicate l.toArray.size false).getD i false = false := fun i => by
    rw [Array.getD_eq_getD_getElem?, Array.getElem?_replicate]
    split <;> rfl
  have hway : Way l Ps a w (Array.replicate l.toArray.size false) a { w with drawn := w.drawn + 1 } := ⟨(Only.refl [] w).drew, rfl, rfl, by simp, fun t _ => rfl, fun i hi => by rw [hrep] at hi; cases hi⟩
  have hfr : Fresh l al (Array.replicate l.toArray.size false) a { w with drawn := w.drawn + 1 } := ⟨fun _ => 0, ⟨fun i _ hi => absurd hi (by rw [hrep]; decide), fun i _ j _ hi => absurd hi (by rw [hrep]; decide)⟩⟩
  have h := way_tail3 hA hrun hB hT hl ho hnd (fun i hi => by simpa using List.all_eq_true.1 hal i hi) he _ _ _ _ hway hfr (fun i _ hi => by rw [hrep] at hi; cases hi) (fun i _ => hrep i) rfl
  have e : ((List.range n).filter fun i => !(Array.replicate l.toArray.size false).getD i false).length = n := by
    rw [List.filter_eq_self.2 (fun i _ => by rw [hrep]; rfl), List.length_range]
  rw [e, show n + (l.length - n) = l.toArray.size by simp; omega] at h
  exact wp_region_any hm h
end
end
end Go.Proofs.YtkibkmdgibemkaaGreatDoor
