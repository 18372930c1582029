/-
  Joined texts.
-/
import Derived.Test.YtigpnopeacicpaaDoorTwGTyp
import Derived.Test.YtigpnopeacicpaaDoorTwJ22
import Derived.Test.YtigpnopeacicpaaDoorTwGRd
import Derived.Test.YtigpnopeacicpaaDoorTwGRefS
/-
  Typed regions: new variables made in one region lie apart from each other.
-/
namespace Go.Proofs.YtigpnopeacicpaaDoor
open Go.RowKit
section
variable {P : Program}
section
variable {l : List Oper} {Ps : List VP} {a0 a : Act} {w0 w : World} {listed : Array Bool} {Q : Exit → Act → World → Prop} {jss : List (List Nat)}
def allocB (l : List Oper) (al : List Nat) (T : TypeId) : Bool := al.all fun k => match l[k]? with
  | none => false
  | some o => o.guard.isNone && (match o.op with | .alloc t => t == T | _ => false) && (match o.dst with | some _ => true | none => false)
theorem allocB_spec {al : List Nat} {T : TypeId} (h : allocB l al T = true) (k : Nat) (hk : k ∈ al) : ∃ o, l[k]? = some o ∧ o.guard = none ∧ o.op = .alloc T := by
  unfold allocB at h
  have h1 := List.all_eq_true.1 h k hk
  cases ho : l[k]? with
  | none => rw [ho] at h1; cases h1
  | some o =>
    rw [ho] at h1
    simp only [Bool.and_eq_true] at h1
    obtain ⟨⟨h2, h3⟩, _⟩ := h1
    refine ⟨o, rfl, by simpa using h2, ?_⟩
    split at h3
    · rename_i t he
      rw [he]
      congr 1
      simpa using h3
    · cases h3
def Apart (l : List Oper) (al : List Nat) (a : Act) : Prop := ∀ i ∈ al, ∀ j ∈ al, i ≠ j → ∀ d d', dstOf l i = some d → dstOf l j = some d' → a.tmps.getD d undef ≠ a.tmps.getD d' undef
def Fresh (l : List Oper) (al : List Nat) (listed : Array Bool) (a : Act) (w : World) : Prop := ∃ f : Nat → Nat, (∀ i ∈ al, listed.getD i false = true → f i < w.heap.size ∧ ∀ d, dstOf l i = some d → a.tmps.getD d undef = .pointer (some ⟨f i, 0, none⟩)) ∧ (∀ i ∈ al, ∀ j ∈ al, listed.getD i false = true → listed.getD j false = true → i ≠ j → f i ≠ f j)
theorem Fresh.apart {al : List Nat} {T : TypeId} (h : Fresh l al listed a w) (_ : allocB l al T = true) (hall : ∀ i ∈ al, listed.getD i false = true) : Apart l al a := by
  obtain ⟨f, h1, h2⟩ := h
  intro i hi j hj hij d d' hd hd' hc
  rw [(h1 i hi (hall i hi)).2 d hd, (h1 j hj (hall j hj)).2 d' hd'] at hc
  simp only [Value.pointer.injEq, Option.some.injEq, Addr.mk.injEq, and_true] at hc
  exact h2 i hi j hj (hall i hi) (hall j hj) hij hc
theorem Fresh.step {al : List Nat} {T : TypeId} {k : Nat} {o : Oper} {u : Value} {w' : World} (h : Fresh l al listed a w) (_ : allocB l al T = true) (hsp : ∀ k o, l[k]? = some o → (∀ d, o.dst = some d → d < a0.tmps.size ∧ ∀ i, i < k → dstOf l i ≠ some d) ∧ (∀ i ∈ waits o, i < k) ∧ (∀ i d, dstOf l i = some d → i ∈ waits o ∨ d ∉ o.looksAt l.toArray))
    (hw : Way l Ps a0 w0 listed a w) (hk : l[k]? = some o) (hu : listed.getD k false = false) (ho : Only [] w w') (hn : k ∈ al → u = .pointer (some ⟨w.heap.size, 0, none⟩) ∧ w.heap.size < w'.heap.size) : Fresh l al (listed.setIfInBounds k true) (a.put o.dst u) w' := by
  obtain ⟨f, h1, h2⟩ := h
  have hlt : k < l.length := (List.getElem?_eq_some_iff.1 hk).1
  have hll : k < listed.size := by rw [hw.lsize]; exact hlt
  have hdk : dstOf l k = o.dst := by unfold dstOf; rw [hk]; rfl
  have hdiff : ∀ i d, i ≠ k → dstOf l i = some d → o.dst ≠ some d := fun i d hne hi hc => by
    unfold dstOf at hi
    cases hx : l[i]? with
    | none => rw [hx] at hi; cases hi
    | some x =>
      rw [hx] at hi
      rcases Nat.lt_or_gt_of_ne hne with h1 | h1
      · exact ((hsp k o hk).1 d hc).2 i h1 (by unfold dstOf; rw [hx]; exact hi)
      · exact ((hsp i x hx).1 d hi).2 k h1 (by rw [hdk]; exact hc)
  have old : ∀ i, i ≠ k → (listed.setIfInBounds k true).getD i false = true → listed.getD i false = true := fun i hik hi => by
    rw [getD_set _ _ _ hll] at hi
    have : k ≠ i := fun hc => hik hc.symm
    simpa [this] using hi
  have keep : ∀ i d, i ≠ k → dstOf l i = some d → (a.put o.dst u).tmps.getD d undef = a.tmps.getD d undef := fun i d hik hd => by
    cases hdo : o.dst with
    | none => rfl
    | some d' =>
      rw [getD_put, if_neg]
      intro hc
      exact hdiff i d hik hd (by rw [hdo, hc.1])
  refine ⟨fun i => if i = k then w.heap.size else f i, fun i hi hli => ?_, fun i hi j hj hli hlj hij => ?_⟩
  · dsimp only
    by_cases hik : i = k
    · subst hik
      rw [if_pos rfl]
      obtain ⟨e1, e2⟩ := hn hi
      refine ⟨e2, fun d hd => ?_⟩
      rw [hdk] at hd
      rw [hd, getD_put, if_pos ⟨rfl, by rw [hw.size]; exact ((hsp i o hk).1 d hd).1⟩]
      exact e1
    · rw [if_neg hik]
      obtain ⟨e1, e2⟩ := h1 i hi (old i hik hli)
      exact ⟨Nat.lt_of_lt_of_le e1 ho.size, fun d hd => by rw [keep i d hik hd]; exact e2 d hd⟩
  · dsimp only
    by_cases hik : i = k
    · have hjk : j ≠ k := fun hc => hij (hik.trans hc.symm)
      rw [if_pos hik, if_neg hjk]
      have := (h1 j hj (old j hjk hlj)).1
      omega
    · by_cases hjk : j = k
      · rw [if_neg hik, if_pos hjk]
        have := (h1 i hi (old i hik hli)).1
        omega
      · rw [if_neg hik, if_neg hjk]
        exact h2 i hi j hj (old i hik hli) (old j hjk hlj) hij
theorem way_tail3 {n : Nat} {al : List Nat} {T : TypeId} {cs : Array Value} (hA : allocB l al T = true) (hrun : ∀ w : World, (Instr.alloc T true (.tuple #[])).run P w = .ok (.pointer (some ⟨w.heap.size, 0, none⟩)) (w.alloc (.cells cs T))) (hB : typB l a0.tmps.size = true) (hT : tailB l n = true) (hm : ∀ p ∈ Ps, Lasts p) (ho : owes2 P l Ps a0 w0 (l.take n) jss Ps) (hnd : needB l (l.take n) jss = true) (hal : ∀ i ∈ al, i < n) (he : ∀ w, Only [] w0 w → withs l Ps w (fun a => Apart l al a → wpList P l.toArray Q (l.drop n) a w) (List.range n) a0) :
    ∀ (f : Nat) (listed : Array Bool) (a : Act) (w : World), Way l Ps a0 w0 listed a w → Fresh l al listed a w → (∀ i o, listed.getD i false = true → l[i]? = some o → ∀ j ∈ waits o, listed.getD j false = true) → (∀ i, n ≤ i → listed.getD i false = false) → ((List.range n).filter fun i => !listed.getD i false).length = f → wpAny P .any l.toArray Q (f + (l.length - n)) listed a w := by
  obtain ⟨hns, hsp⟩ := typB_spec hB
  unfold tailB at hT
  simp only [Bool.and_eq_true, decide_eq_true_eq] at hT
  obtain ⟨⟨hn, ht1⟩, ht2⟩ := hT
  intro f
  induction f with
  | zero =>
    intro listed a w h hfr _ hrest hf
    have hcov : ∀ i, i < n → listed.getD i false = true := fun i hi => by
      apply Decidable.byContradiction
      intro hc
      have : i ∈ (List.range n).filter fun i => !listed.getD i false := List.mem_filter.2 ⟨List.mem_range.2 hi, by simpa using hc⟩
      have := List.length_pos_of_mem this
      omega
    have hw := h.done_n (K := fun a w => Apart l al a → wpList P l.toArray Q (l.drop n) a w) hB hcov hrest he (hfr.apart hA (fun i hi => hcov i (hal i hi)))
    have e : listed = ((List.range l.length).map fun i => decide (i < n)).toArray := by
      apply Array.ext
      · simp [h.lsize]
      · intro i h1 h2
        have hil : i < l.length := by rw [← h.lsize]; exact h1
        simp only [List.getElem_toArray, List.getElem_map, List.getElem_range]
        by_cases hin : i < n
        · have := hcov i hin
          rw [Array.getD_eq_getD_getElem?, Array.getElem?_eq_getElem h1] at this
          simpa [hin] using this
        · have := hrest i (by omega)
          rw [Array.getD_eq_getD_getElem?, Array.getElem?_eq_getElem h1] at this
          simpa [hin] using this
    have := wpAny_of_seq (P := P) (Q' := Q) (md := .any) (ops := l.toArray) (l.drop n) n listed a w (fun j => by simp) (by rw [e]; exact ht2) hw
    rw [Nat.zero_add]
    rwa [List.length_drop] at this
  | succ f ih =>
    intro listed a w h hfr hdown hrest hf
    have hlow : ∃ k, k < n ∧ listed.getD k false = false := by
      have : 0 < ((List.range n).filter fun i => !listed.getD i false).length := by omega
      obtain ⟨k, hk⟩ := List.exists_mem_of_length_pos this
      rw [List.mem_filter, List.mem_range] at hk
      exact ⟨k, hk.1, by simpa using hk.2⟩
    rw [show f + 1 + (l.length - n) = (f + (l.length - n)) + 1 by omega]
    refine ⟨fun hr => ?_, fun i hi => ?_⟩
    · exfalso
      obtain ⟨k, hk, hu⟩ := hlow
      induction k using Nat.strongRecOn with
      | ind k ihk =>
        have hkl : k < l.length := by omega
        by_cases hall : ∀ e ∈ (l[k]).after, Region.binds .any e = true → listed.getD e.on false = true
        · have hmem : k ∈ Region.ready .any l.toArray listed := by
            refine mem_ready.2 ⟨?_, l[k], by simp [hkl], fun e hem hb => hall e (by simpa using hem) hb⟩
            have hl : k < listed.size := by rw [h.lsize]; exact hkl
            rw [Array.getD_eq_getD_getElem?, Array.getElem?_eq_getElem hl] at hu ⊢
            exact hu
          rw [hr] at hmem
          cases hmem
        · obtain ⟨e, h1⟩ := Classical.not_forall.1 hall
          obtain ⟨hem, h2⟩ := Classical.not_forall.1 h1
          obtain ⟨hb, hne⟩ := Classical.not_forall.1 h2
          have hlt := (hsp k l[k] (by simp [hkl])).2.1 e.on (List.mem_map.2 ⟨e, List.mem_filter.2 ⟨by simpa using hem, hb⟩, rfl⟩)
          exact ihk e.on hlt (by omega) (by simpa using hne)
    · obtain ⟨hun, o, hoi, hwt⟩ := mem_ready.1 hi
      have hoi' : l[i]? = some o := by simpa using hoi
      have hlt : i < l.length := (List.getElem?_eq_some_iff.1 hoi').1
      have hl : i < listed.size := by rw [h.lsize]; exact hlt
      have hunf : listed.getD i false = false := by
        rw [Array.getD_eq_getD_getElem?, Array.getElem?_eq_getElem hl] at hun ⊢
        exact hun
      have hin : i < n := by
        apply Decidable.byContradiction
        intro hc
        obtain ⟨k, hk, hu⟩ := hlow
        have hmem : o ∈ l.drop n := List.mem_iff_getElem?.2 ⟨i - n, by rw [List.getElem?_drop, show n + (i - n) = i by omega]; exact hoi'⟩
        have h1 := List.all_eq_true.1 (List.all_eq_true.1 ht1 o hmem) k (List.mem_range.2 hk)
        have h2 : k ∈ back l l.length (waits o) := by simpa using h1
        have hw : ∀ j ∈ waits o, listed.getD j false = true := fun j hj => by
          obtain ⟨e, he1, rfl⟩ := List.mem_map.1 hj
          rw [List.mem_filter] at he1
          exact hwt e (by simpa using he1.1) he1.2
        have := back_all hdown l.length (waits o) hw k h2
        rw [hu] at this
        cases this
      have hoit : (l.take n)[i]? = some o := by rw [List.getElem?_take_of_lt hin]; exact hoi'
      have hg := h.grow2 hB (owes2_get i ho hnd hoit) hoi' (fun j hj => by
        obtain ⟨e, hem, rfl⟩ := List.mem_map.1 hj
        rw [List.mem_filter] at hem
        exact hwt e (by simpa using hem.1) hem.2)
      have next : ∀ u w', Only [] w w' → (i ∈ al → u = .pointer (some ⟨w.heap.size, 0, none⟩) ∧ w.heap.size < w'.heap.size) → (Ps[i]?.getD fun _ _ => True) u w' → wpAny P .any l.toArray Q (f + (l.length - n)) (listed.setIfInBounds i true) (a.put o.dst u) w' := fun u w' h1 h3 h2 =>
        ih _ _ _ (h.step hB hm hoi' hun h1 h2) (hfr.step hA hsp h hoi' hunf h1 h3) (fun j x hj hx t ht => by
          rw [getD_set _ _ _ hl] at hj ⊢
          by_cases hij : i = j
          · subst hij
            rw [hoi'] at hx
            injection hx with hx
            subst hx
            obtain ⟨e, he1, rfl⟩ := List.mem_map.1 ht
            rw [List.mem_filter] at he1
            rw [hwt e (by simpa using he1.1) he1.2, Bool.or_true]
          · have hj' : listed.getD j false = true := by simpa [hij] using hj
            rw [hdown j x hj' hx t ht, Bool.or_true]) (fun j hj => by rw [getD_set _ _ _ hl, hrest j hj]; simp; omega) (by
          have e : ((List.range n).filter fun i_1 => !(listed.setIfInBounds i true).getD i_1 false).length + 1 = ((List.range n).filter fun i => !listed.getD i false).length := by
            have hmem : i ∈ (List.range n).filter fun i => !listed.getD i false := by rw [List.mem_filter]; exact ⟨List.mem_range.2 hin, by rw [hunf]; rfl⟩
            have hnd : ((List.range n).filter fun i => !listed.getD i false).Nodup := List.nodup_range.filter _
            have e : ((List.range n).filter fun j => !(listed.setIfInBounds i true).getD j false) = ((List.range n).filter fun i => !listed.getD i false).erase i := by
              rw [hnd.erase_eq_filter, List.filter_filter]
              apply List.filter_congr
              intro j _
              rw [getD_set _ _ _ hl]
              by_cases h : i = j
              · subst h; simp
              · have h' : j ≠ i := fun hc => h hc.symm
                simp [h, h']
            rw [e, List.length_erase_of_mem hmem]
            have := List.length_pos_of_mem hmem
            omega
          omega)
      unfold wpOp
      simp only [hoi]
      unfold growIf at hg
      by_cases hmem : i ∈ al
      · obtain ⟨o', h1, h2, h3⟩ := allocB_spec hA i hmem
        rw [hoi'] at h1
        injection h1 with h1
        subst h1
        have hw : Region.wanted o (yielded l.toArray a.tmps) = true := by unfold Region.wanted; rw [h2]
        rw [if_pos hw] at hg ⊢
        left
        unfold growAt at hg
        unfold Oper.wp
        have hr : (execOp a.eval o).run P w = .ok (.value (.pointer (some ⟨w.heap.size, 0, none⟩))) (w.alloc (.cells cs T)) := by
          unfold execOp
          rw [h3]
          simp only [Sem.run_bind, Sem.run_pure, hrun, Result.andThen_ok]
        rw [hr] at hg ⊢
        simp only [growUpon] at hg
        simp only [Oper.upon]
        exact next _ _ hg.1 (fun _ => ⟨rfl, by simp⟩) hg.2
      · by_cases hw : Region.wanted o (yielded l.toArray a.tmps) = true
        · rw [if_pos hw] at hg ⊢
          left
          unfold growAt at hg
          unfold Oper.wp
          generalize (execOp a.eval o).run P w = r at hg ⊢
          cases r with
          | ok n w' =>
            cases n <;> simp only [growUpon] at hg <;> simp only [Oper.upon]
            case value u => exact next u w' hg.1 (fun hc => absurd hc hmem) hg.2
            case skip => exact next undef w' hg.1 (fun hc => absurd hc hmem) hg.2
            case enter f args => exact hg.mono fun e w'' ⟨v, hev, h1, h2⟩ => by subst hev; exact next v w'' h1 (fun hc => absurd hc hmem) h2
          | halt x w' => simp only [growUpon] at hg
        · rw [if_neg hw] at hg ⊢
          exact next undef w (Only.refl _ _) (fun hc => absurd hc hmem) hg
theorem wp_region_typed_tail3 {id : Nat} (n : Nat) (al : List Nat) (T : TypeId) (cs : Array Value) (hA : allocB l al T = true) (hal : al.all (fun i => decide (i < n)) = true) (hrun : ∀ w : World, (Instr.alloc T true (.tuple #[])).run P w = .ok (.pointer (some ⟨w.heap.size, 0, none⟩)) (w.alloc (.cells cs T))) (hm : P.follows .mixedOrders = true) (Ps : List VP) (jss : List (List Nat)) (hnd : needB l (l.take n) jss = true) (hB : typB l a.tmps.size = true) (hT : tailB l n = true) (hl : ∀ p ∈ Ps, Lasts p) (ho : owes2 P l Ps a w (l.take n) jss Ps) (he : ∀ w', Only [] w w' → withs l Ps w' (fun a => Apart l al a → wpList P l.toArray Q (l.drop n) a w') (List.range n) a) :
    (Code.region id l.toArray true).wp P Q a w := by
  have hn : n ≤ l.length := by
    unfold tailB at hT
    simp only [Bool.and_eq_true, decide_eq_true_eq] at hT
    exact hT.1.1
  have hrep : ∀ i, (Array.replicate l.toArray.size false).getD i false = false := fun i => by
    rw [Array.getD_eq_getD_getElem?, Array.getElem?_replicate]
    split <;> rfl
  have hway : Way l Ps a w (Array.replicate l.toArray.size false) a { w with drawn := w.drawn + 1 } := ⟨(Only.refl [] w).drew, rfl, rfl, by simp, fun t _ => rfl, fun i hi => by rw [hrep] at hi; cases hi⟩
  have hfr : Fresh l al (Array.replicate l.toArray.size false) a { w with drawn := w.drawn + 1 } := ⟨fun _ => 0, ⟨fun i _ hi => absurd hi (by rw [hrep]; decide), fun i _ j _ hi => absurd hi (by rw [hrep]; decide)⟩⟩
  have h := way_tail3 hA hrun hB hT hl ho hnd (fun i hi => by simpa using List.all_eq_true.1 hal i hi) he _ _ _ _ hway hfr (fun i _ hi => by rw [hrep] at hi; cases hi) (fun i _ => hrep i) rfl
  have e : ((List.range n).filter fun i => !(Array.replicate l.toArray.size false).getD i false).length = n := by
    rw [List.filter_eq_self.2 (fun i _ => by rw [hrep]; rfl), List.length_range]
  rw [e, show n + (l.length - n) = l.toArray.size by simp; omega] at h
  exact wp_region_any hm h
end
end
end Go.Proofs.YtigpnopeacicpaaDoor

/-
  Dyads: roots, rounding, whatever comes in.
-/
namespace Go.Proofs.YtigpnopeacicpaaDoor
set_option linter.unusedSimpArgs false
open Go.RowKit

theorem bnd_zero (N : Nat) : Bnd N ⟨0, 0⟩ := ⟨Nat.pow_pos (by decide), by show -(N : Int) ≤ 0; omega, by show (0 : Int) ≤ N; omega⟩

end Go.Proofs.YtigpnopeacicpaaDoor

/-
  Boxes of any shape at hand, each in a block of its own: made, taken in, written; whole numbers at hand beside them.
-/
namespace Go.Proofs.YtigpnopeacicpaaDoor
set_option linter.unusedSimpArgs false
open Go.RowKit

structure GB (w0 w : World) (L : List EB) : Prop where
  only : Only [] w0 w
  all : ∀ (i : Nat) (x : EB), L[i]? = some x → Blk w x.g x.t x.cs ∧ NoLimb x.cs
  base : ∀ (i : Nat) (x : EB), L[i]? = some x → w0.heap.size ≤ x.g
  ne : ∀ (i j : Nat) (x y : EB), i ≠ j → L[i]? = some x → L[j]? = some y → x.g ≠ y.g
theorem GB.start (w : World) : GB w w [] := ⟨Only.refl _ _, fun i x h => by simp at h, fun i x h => by simp at h, fun i j x y _ h => by simp at h⟩
theorem GB.step {w0 w w' : World} {L : List EB} (h : GB w0 w L) (ho : Only [] w w') : GB w0 w' L := ⟨h.only.nil_trans ho, fun i x hx => ⟨(h.all i x hx).1.only ho (by simp), (h.all i x hx).2⟩, h.base, h.ne⟩
theorem GB.lt {w0 w : World} {L : List EB} (h : GB w0 w L) (i : Nat) (y : EB) (hy : L[i]? = some y) : y.g < w.heap.size := (h.all i y hy).1.lt
theorem GB.take {w0 w w' : World} {L : List EB} (h : GB w0 w L) {g : Nat} {t : TypeId} {cs : List Value} (ho : Only [g] w w') (hb : Blk w' g t cs) (hn : NoLimb cs) (hg : w0.heap.size ≤ g) (hne : ∀ (i : Nat) (y : EB), L[i]? = some y → y.g ≠ g) : GB w0 w' (⟨g, t, cs⟩ :: L) := by
  refine ⟨h.only.trans ho (fun k hk => .inr (by simp at hk; omega)), fun i y hy => ?_, fun i y hy => ?_, fun i j y z hij hy hz => ?_⟩
  · rcases i with _ | i
    · obtain rfl := (Option.some.inj hy).symm
      exact ⟨hb, hn⟩
    · obtain ⟨h1, h2⟩ := h.all i y hy
      exact ⟨h1.only ho (by simp; exact hne i y hy), h2⟩
  · rcases i with _ | i
    · obtain rfl := (Option.some.inj hy).symm
      exact hg
    · exact h.base i y hy
  · rcases i with _ | i
    · rcases j with _ | j
      · omega
      · obtain rfl := (Option.some.inj hy).symm
        exact fun hc => hne j z hz hc.symm
    · rcases j with _ | j
      · obtain rfl := (Option.some.inj hz).symm
        exact hne i y hy
      · exact h.ne i j y z (by omega) hy hz
theorem GB.new {w0 w : World} {L : List EB} (h : GB w0 w L) (t : TypeId) (cs : List Value) (hn : NoLimb cs) : GB w0 (w.alloc (.cells cs.toArray t)) (⟨w.heap.size, t, cs⟩ :: L) :=
  h.take ((Only.refl _ w).alloc _) (Blk.new w t cs) hn h.only.size (fun i y hy => by have := h.lt i y hy; omega)
theorem GB.blk {w0 w : World} {L : List EB} (h : Hid (GB w0 w L)) (i : Nat) {g : Nat} {t : TypeId} {cs : List Value} (hi : L[i]? = some ⟨g, t, cs⟩) : Blk w g t cs := (h.out.all i _ hi).1
theorem GB.c3 {w0 w : World} {L : List EB} (h : Hid (GB w0 w L)) (i : Nat) {g : Nat} {t : TypeId} {a b c : Value} (hi : L[i]? = some ⟨g, t, [a, b, c]⟩) :
    w.cell? ⟨g, 0, none⟩ = some a ∧ w.cell? ⟨g, 1, none⟩ = some b ∧ w.cell? ⟨g, 2, none⟩ = some c :=
  have hb := GB.blk h i hi
  ⟨hb.cell 0, hb.cell 1, hb.cell 2⟩
theorem GB.f3 {w0 w : World} {L : List EB} (h : Hid (GB w0 w L)) (i : Nat) {g : Nat} {t : TypeId} {cs : List Value} (hi : L[i]? = some ⟨g, t, cs⟩) :
    w.frozen? ⟨g, 0, none⟩ = false ∧ w.frozen? ⟨g, 1, none⟩ = false ∧ w.frozen? ⟨g, 2, none⟩ = false :=
  have hb := GB.blk h i hi
  ⟨hb.frozen 0, hb.frozen 1, hb.frozen 2⟩
theorem GB.c6 {w0 w : World} {L : List EB} (h : Hid (GB w0 w L)) (i : Nat) {g : Nat} {t : TypeId} {a b c d e f : Value} (hi : L[i]? = some ⟨g, t, [a, b, c, d, e, f]⟩) :
    w.cell? ⟨g, 0, none⟩ = some a ∧ w.cell? ⟨g, 1, none⟩ = some b ∧ w.cell? ⟨g, 2, none⟩ = some c ∧ w.cell? ⟨g, 3, none⟩ = some d ∧ w.cell? ⟨g, 4, none⟩ = some e ∧ w.cell? ⟨g, 5, none⟩ = some f :=
  have hb := GB.blk h i hi
  ⟨hb.cell 0, hb.cell 1, hb.cell 2, hb.cell 3, hb.cell 4, hb.cell 5⟩
theorem GB.f6 {w0 w : World} {L : List EB} (h : Hid (GB w0 w L)) (i : Nat) {g : Nat} {t : TypeId} {cs : List Value} (hi : L[i]? = some ⟨g, t, cs⟩) :
    w.frozen? ⟨g, 0, none⟩ = false ∧ w.frozen? ⟨g, 1, none⟩ = false ∧ w.frozen? ⟨g, 2, none⟩ = false ∧ w.frozen? ⟨g, 3, none⟩ = false ∧ w.frozen? ⟨g, 4, none⟩ = false ∧ w.frozen? ⟨g, 5, none⟩ = false :=
  have hb := GB.blk h i hi
  ⟨hb.frozen 0, hb.frozen 1, hb.frozen 2, hb.frozen 3, hb.frozen 4, hb.frozen 5⟩
theorem Blk.to3 {w : World} {g : Nat} {t : TypeId} {a b c u v x : Value} (h : Blk w g t [a, b, c]) : Blk (((w.setCell ⟨g, 0, none⟩ u).setCell ⟨g, 1, none⟩ v).setCell ⟨g, 2, none⟩ x) g t [u, v, x] := ((h.set_ 0 u).set_ 1 v).set_ 2 x
theorem GB.adopt3 {w0 w : World} {L : List EB} (h : GB w0 w L) {g : Nat} {t : TypeId} {a b c u v x : Value} (hb : Blk w g t [a, b, c]) (hn : NoLimb [u, v, x]) (hg : w0.heap.size ≤ g) (hne : ∀ (i : Nat) (y : EB), L[i]? = some y → y.g ≠ g) :
    GB w0 (((w.setCell ⟨g, 0, none⟩ u).setCell ⟨g, 1, none⟩ v).setCell ⟨g, 2, none⟩ x) (⟨g, t, [u, v, x]⟩ :: L) := h.take (only_set3 _ _ _ _ _) hb.to3 hn hg hne
theorem GB.apart {w0 w1 : World} {L : List EB} (h : GB w0 w1 L) {g : Nat} (hg : w1.heap.size ≤ g) : ∀ (i : Nat) (y : EB), L[i]? = some y → y.g ≠ g := fun i y hy => by have := h.lt i y hy; omega
theorem GB.apart1 {L : List EB} {b : EB} {g : Nat} (h : ∀ (i : Nat) (y : EB), L[i]? = some y → y.g ≠ g) (hb : b.g ≠ g) : ∀ (i : Nat) (y : EB), (b :: L)[i]? = some y → y.g ≠ g := fun i y hy => by
  rcases i with _ | i
  · obtain rfl := (Option.some.inj hy).symm; exact hb
  · exact h i y hy
theorem Blk.farX {w w' : World} {g g' : Nat} {t : TypeId} {cs : List Value} (h : Blk w g t cs) (ho : Only [g'] w w') (hne : g ≠ g') : Blk w' g t cs := h.only ho (by simp; exact hne)
structure WX where
  s : Bool
  a : Option Addr
  k : Nat
  c : Nat
  z : Int
def WL (w : World) (L : List WX) : Prop := ∀ (i : Nat) (y : WX), L[i]? = some y → IV w (.agg #[.bool y.s, .slice y.a y.k y.c]) y.z
theorem WL.nil (w : World) : WL w [] := fun i y h => by simp at h
theorem WL.cons {w : World} {L : List WX} (h : WL w L) {s : Bool} {A : Option Addr} {k c : Nat} {z : Int} (hv : Hid (IV w (.agg #[.bool s, .slice A k c]) z)) : WL w (⟨s, A, k, c, z⟩ :: L) := fun i y hy => by
  rcases i with _ | i
  · obtain rfl := (Option.some.inj hy).symm; exact hv.out
  · exact h i y hy
theorem WL.step {w w' : World} {L : List WX} (h : WL w L) (ho : Only [] w w') : WL w' L := fun i y hy => (h i y hy).only ho
theorem WL.far {w w' : World} {L : List WX} (h : WL w L) {g : Nat} {t : TypeId} {cs : List Value} (ho : Only [g] w w') (hb : Blk w g t cs) (hn : NoLimb cs) : WL w' L := fun i z hz =>
  (h i z hz).farS ho (fun g' hg' => by rw [List.mem_singleton] at hg'; subst hg'; exact (h i z hz).far_blk hb hn)
theorem WL.at {w : World} {L : List WX} (h : Hid (WL w L)) (i : Nat) {s : Bool} {A : Option Addr} {k c : Nat} {z : Int} (hi : L[i]? = some ⟨s, A, k, c, z⟩) : Hid (IV w (.agg #[.bool s, .slice A k c]) z) := h.out i _ hi
theorem WL.dv {w : World} {L : List WX} (h : Hid (WL w L)) (i : Nat) {s : Bool} {A : Option Addr} {k c : Nat} {x : Dy} (hi : L[i]? = some ⟨s, A, k, c, x.z⟩) : Hid (DV w (.agg #[.bool s, .slice A k c, .int .i64 x.e]) x) := DV.of (WL.at h i hi)
end Go.Proofs.YtigpnopeacicpaaDoor

/-
  The reference's dyads at hand, as a list; boxes of two cells.
-/
namespace Go.Proofs.YtigpnopeacicpaaDoor
set_option linter.unusedSimpArgs false
open Go.RowKit
structure RX where
  s : Bool
  a : Option Addr
  k : Nat
  c : Nat
  x : Dy
def RL (w : World) (L : List RX) : Prop := ∀ (i : Nat) (y : RX), L[i]? = some y → Cr y.s y.k y.x.z ∧ RV w (.slice y.a y.k y.c) y.x.z.natAbs
theorem RL.nil (w : World) : RL w [] := fun i y h => by simp at h
theorem RL.cons {w : World} {L : List RX} (h : RL w L) {s : Bool} {A : Option Addr} {k c : Nat} {x : Dy} (hv : Hid (RV w (.slice A k c) x.z.natAbs)) (hc : Hid (Cr s k x.z)) : RL w (⟨s, A, k, c, x⟩ :: L) := fun i y hy => by
  rcases i with _ | i
  · obtain rfl := (Option.some.inj hy).symm; exact ⟨hc.out, hv.out⟩
  · exact h i y hy
theorem RL.step {w w' : World} {L : List RX} (h : RL w L) (ho : Only [] w w') : RL w' L := fun i y hy => ⟨(h i y hy).1, (h i y hy).2.only ho⟩
theorem RL.far {w w' : World} {L : List RX} (h : RL w L) {g : Nat} {t : TypeId} {cs : List Value} (ho : Only [g] w w') (hb : Blk w g t cs) (hn : NoLimb cs) : RL w' L := fun i y hy =>
  ⟨(h i y hy).1, (h i y hy).2.farS ho (fun g' hg' => by rw [List.mem_singleton] at hg'; subst hg'; exact (h i y hy).2.far_blk hb hn)⟩
theorem RL.rd {w : World} {L : List RX} (h : Hid (RL w L)) (i : Nat) {s : Bool} {A : Option Addr} {k c : Nat} {x : Dy} (hi : L[i]? = some ⟨s, A, k, c, x⟩) : Hid (RD w (.agg #[.bool s, .slice A k c, .int .i64 x.e]) x) :=
  ⟨s, A, k, c, rfl, (h.out i _ hi).1, (h.out i _ hi).2⟩
theorem GB.c2 {w0 w : World} {L : List EB} (h : Hid (GB w0 w L)) (i : Nat) {g : Nat} {t : TypeId} {a b : Value} (hi : L[i]? = some ⟨g, t, [a, b]⟩) :
    w.cell? ⟨g, 0, none⟩ = some a ∧ w.cell? ⟨g, 1, none⟩ = some b :=
  have hb := GB.blk h i hi
  ⟨hb.cell 0, hb.cell 1⟩
theorem wpList_store {P : Program} {w w' : World} {ops : Array Oper} {rest : List Oper} {o : Oper} {a : Act} {Q : Exit → Act → World → Prop} (T : TypeId) (d e : Operand) (hgd : o.guard = none) (hdst : o.dst = none) (ho : o.op = .store T d e) {u v : Value} (hp : a.eval d = u) (hv : a.eval e = v) (hst : (Instr.storeAt T u v).run P w = .ok () w') (h : wpList P ops Q rest a w') : wpList P ops Q (o :: rest) a w := by
  refine wpList_plain hgd fun K hK => ?_
  unfold Oper.wp execOp
  simp only [ho, hp, hv, Sem.run_bind, hst, Result.andThen_ok, Sem.run_pure, Oper.upon_skip, hdst]
  exact hK _ _ h
theorem store_rd {w : World} {g : Nat} {x0 x1 x2 : Value} (hb : Blk w g 47 [x0, x1, x2]) (s : Bool) (A : Option Addr) (k c : Nat) (e : Int) : (Instr.storeAt 47 (.pointer (some ⟨g, 0, none⟩)) (.agg #[.bool s, .slice A k c, .int .i64 e])).run Tryd.prog w = .ok () (((w.setCell ⟨g, 0, none⟩ (.bool s)).setCell ⟨g, 1, none⟩ (.slice A k c)).setCell ⟨g, 2, none⟩ (.int .i64 e)) := by
  have c0 := hb.cell 0
  have c1 := hb.cell 1
  have c2 := hb.cell 2
  have f0 := hb.frozen 0
  have f1 := hb.frozen 1
  have f2 := hb.frozen 2
  simp only [List.getElem?_cons_zero, List.getElem?_cons_succ] at c0 c1 c2
  clear hb
  go_simp
end Go.Proofs.YtigpnopeacicpaaDoor

/-
  Loads of boxes in a region in order, each by its own law.
-/
namespace Go.Proofs.YtigpnopeacicpaaDoor
set_option linter.unusedSimpArgs false
open Go.RowKit
theorem wpList_load {P : Program} {w : World} {ops : Array Oper} {rest : List Oper} {o : Oper} {ts : Array Value} {ds : List Deferred} {Q : Exit → Act → World → Prop} (T : TypeId) (e : Operand) (d : Tmp) (hgd : o.guard = none) (hdst : o.dst = some d) (ho : o.op = .load T e) {u v : Value} (hp : (⟨ts, ds⟩ : Act).eval e = u) (hl : (Instr.loadAt T u).run P w = .ok v w) (h : wpList P ops Q rest ⟨ts.setIfInBounds d v, ds⟩ w) : wpList P ops Q (o :: rest) ⟨ts, ds⟩ w := by
  refine wpList_plain hgd fun K hK => ?_
  unfold Oper.wp execOp
  simp only [ho, hp, Sem.run_bind, hl, Result.andThen_ok, Sem.run_pure, Oper.upon_value, hdst]
  exact hK _ _ h
theorem load_rd {w : World} {g : Nat} {s : Bool} {A : Option Addr} {k c : Nat} {e : Int} (c0 : w.cell? ⟨g, 0, none⟩ = some (.bool s)) (c1 : w.cell? ⟨g, 1, none⟩ = some (.slice A k c)) (c2 : w.cell? ⟨g, 2, none⟩ = some (.int .i64 e)) : (Instr.loadAt 47 (.pointer (some ⟨g, 0, none⟩))).run Tryd.prog w = .ok (.agg #[.bool s, .slice A k c, .int .i64 e]) w := by
  go_simp
end Go.Proofs.YtigpnopeacicpaaDoor

/-
  Behind a typed region of which only the last operation's value is looked at.
-/
namespace Go.Proofs.YtigpnopeacicpaaDoor
open Go.RowKit

theorem put_size (a : Act) (d : Option Nat) (v : Value) : (a.put d v).tmps.size = a.tmps.size := by
  cases d <;> simp [Act.put]
theorem put_defers (a : Act) (d : Option Nat) (v : Value) : (a.put d v).defers = a.defers := by
  cases d <;> simp [Act.put]
theorem withs_app {l : List Oper} {Ps : List VP} {w : World} {K : Act → Prop} {js : List Nat} : ∀ {is : List Nat} {a : Act}, withs l Ps w (fun a' => withs l Ps w K js a') is a → withs l Ps w K (is ++ js) a
  | [], _, h => h
  | i :: is, a, h => by
    show withs l Ps w K (i :: (is ++ js)) a
    unfold withs at h ⊢
    split
    · rename_i e
      rw [e] at h
      exact withs_app h
    · rename_i d e
      rw [e] at h
      exact fun v hv => withs_app (h v hv)
theorem withs_skip {l : List Oper} {Ps : List VP} {w : World} {K : Act → Prop} : ∀ (is : List Nat) {a : Act}, (∀ a' : Act, a'.defers = a.defers → a'.tmps.size = a.tmps.size → K a') → withs l Ps w K is a
  | [], a, h => h a rfl rfl
  | i :: is, a, h => by
    unfold withs
    split
    · exact withs_skip is h
    · exact fun v _ => withs_skip is (fun a' h1 h2 => h a' (h1.trans (put_defers _ _ _)) (h2.trans (put_size _ _ _)))
theorem he_last {l : List Oper} {Ps : List VP} {w : World} {K : Act → Prop} {a : Act} (n d : Nat) (X : Value) (hn : l.length = n + 1) (hd : dstOf l n = some d) (hp : (Ps[n]?.getD fun _ _ => True) = isV X)
    (h : ∀ a' : Act, a'.defers = a.defers → a'.tmps.size = a.tmps.size → K (a'.put (some d) X)) : withs l Ps w K (List.range l.length) a := by
  rw [hn, List.range_succ]
  refine withs_app (withs_skip _ fun a' h1 h2 => ?_)
  refine withs_some d _ hd hp fun v hv => ?_
  have e : v = X := hv
  rw [e]
  exact withs_nil (h a' h1 h2)
end Go.Proofs.YtigpnopeacicpaaDoor

/-
  Lists that are lent with room behind them: compassbook's LentLimbs and StaysLimbs.
-/
namespace Go.Proofs.YtigpnopeacicpaaDoor
open Go.RowKit

def Lent (w : World) (g : Nat) (xs : List Nat) (c : Nat) : Prop := ∃ tl, Blk w g 90 (limbV (xs ++ [77]) ++ tl) ∧ xs.length + 1 + tl.length = c ∧ c ≤ maxLen
theorem Lent.only {w w' : World} {g c : Nat} {xs : List Nat} {S : List Nat} (h : Lent w g xs c) (ho : Only S w w') (hg : g ∉ S) : Lent w' g xs c := by
  obtain ⟨tl, h1, h2, h3⟩ := h
  exact ⟨tl, h1.only ho hg, h2, h3⟩
theorem Lent.read {w : World} {g c : Nat} {xs : List Nat} (h : Lent w g xs c) : LRead w (some ⟨g, 0, none⟩) xs := by
  obtain ⟨tl, h1, h2, h3⟩ := h
  have h4 := LRead.of_tl h1
  have h5 := h4.take xs.length
  rwa [List.take_append_of_le_length (Nat.le_refl _), List.take_length] at h5
theorem Lent.mark {w : World} {g c : Nat} {xs : List Nat} (h : Lent w g xs c) : w.cell? ⟨g, xs.length, none⟩ = some (.int .u64 77) := by
  obtain ⟨tl, h1, h2, h3⟩ := h
  rw [h1.cell, List.getElem?_append_left (by rw [limbV_len]; simp), limbV_get _ _ (by simp)]
  simp
theorem Lent.nv {w : World} {g c : Nat} {xs : List Nat} (h : Lent w g xs c) (hx : Limb xs) (hl : (xs.length : Int) ≤ 1000000) : NV w (.slice (some ⟨g, 0, none⟩) xs.length c) (val xs) := by
  have h5 := h.read
  obtain ⟨tl, h1, h2, h3⟩ := h
  exact NV.mk ⟨h5, hx, by omega⟩ (by omega) hl

set_option maxRecDepth 100000 in
theorem slice_headL (A : Option Addr) (n c m : Nat) (h : m ≤ c) (w : World) : (Instr.slice 39 (.slice A n c) none (some (.int .i64 (m : Int))) none).run Tryd.prog w = .ok (.slice A m c) w := by
  have hs : (sizeOf (Tryd.prog.elem 39)).run Tryd.prog w = .ok 1 w := by kernel_rfl
  rw [run_slice_h (P := Tryd.prog) (w := w) 39 A n c (by kernel_rfl) .i64 (m : Int) (by omega) (by omega), hs]
  simp only [Result.andThen, sliced, Int.toNat_natCast]
  cases A <;> simp [Addr.add]
theorem lent_of {w : World} {g n c : Nat} {xs : List Nat} (h : LimbsAt w (.slice (some ⟨g, 0, none⟩) (n + 1) c) (xs ++ [77])) : Lent w g xs c := by
  obtain ⟨tl, k1, k2, k3, k4⟩ := h.row
  exact ⟨tl, k1, by rw [List.length_append] at k2; simpa using k2, k3⟩
theorem Lent.cap {w : World} {g c n : Nat} {xs : List Nat} (h : Lent w g xs c) (hn : n = xs.length) : n + 1 ≤ c := by
  obtain ⟨tl, k1, k2, k3⟩ := h
  omega
set_option maxRecDepth 100000 in
theorem copyLimbs_any (A : Option Addr) (n c : Nat) (xs : List Nat) (w : World) (hA : Hid (LRead w A xs)) (hn : Hid (n = xs.length)) (hl : (n : Int) ≤ 15000000) :
    Calls Tryd.prog 45 #[.slice A n c] w fun e w' => ∃ A' c', e = .returned (.slice A' n c') ∧ LimbsAt w' (.slice A' n c') xs ∧ (∀ g, (Value.slice A' n c').ownBlock = some g → w.heap.size ≤ g) ∧ Only [] w w' := by
  go_enter Tryd.func45, Tryd.ntmps45
  go_wp2_with (at_builtin; refine wpList_append_copy 39 Tryd.underlying39 rfl _ _ rfl rfl A xs n c rfl hn.out hA.out (by omega) ?_; intro A' c' w2 h1 h2 h3; have HA2 := Lib.hid h1; have HF2 := Lib.hid h2; have HO2 := Lib.hid h3; clear h1 h2 h3)
  go_wp2_with fail
  go_ret
  exact ⟨_, _, rfl, HA2.out, HF2.out, HO2.out⟩

set_option maxRecDepth 100000 in
theorem lent_any (A : Option Addr) (n c : Nat) (xs : List Nat) (w : World) (hA : Hid (LRead w A xs)) (hn : Hid (n = xs.length)) (hl : (n : Int) ≤ 1000000) :
    Calls Tryd.prog 13 #[.slice A n c] w fun e w' => ∃ g c', e = .returned (.slice (some ⟨g, 0, none⟩) n c') ∧ Lent w' g xs c' ∧ w.heap.size ≤ g ∧ Only [] w w' := by
  go_enter Tryd.func13, Tryd.ntmps13
  go_wp2_with fail
  refine (copyLimbs_any A n c xs w hA hn (by omega)).mono ?_
  rintro e w1 ⟨A1, c1, rfl, h1, h2, h3⟩
  have HA1 := Lib.hid h1
  have HF1 := Lib.hid h2
  have HO1 := Lib.hid h3
  have HN : Hid (∀ g, (Value.slice A1 n c1).ownBlock = some g → g < w1.heap.size) := h1.lt
  clear h1 h2 h3
  go_wp2_with (at_builtin; refine append_limbs 39 Tryd.underlying39 rfl _ _ rfl (.slice A1 n c1) n xs [77] rfl (HA1.out.only ((Only.refl [] w1).alloc _) (by simp)) hn.out w1.heap.size 1 rfl rfl (by simp) (Blk.new w1 90 (limbV [77])) (by omega) ?_; intro g' c2 w4 h1 h2 h3; have HA4 := Lib.hid h1; have HF4 := Lib.hid h2; have HO4 := Lib.hid h3; have hsl := slice_headL (some ⟨g', 0, none⟩) (n + 1) c2 n (by have := (lent_of h1).cap hn.out; omega) w4; clear h1 h2 h3)
  have HL : Hid (Lent w4 g' xs c2) := lent_of HA4.out
  go_wp2_with fail
  go_ret
  refine ⟨_, _, rfl, HL.out, ?_, ?_⟩
  · rcases HF4.out with h | h
    · exact HF1.out _ h
    · have := HO1.out.size
      simp only [World.size_alloc] at h
      omega
  · have hx : Only (Value.slice A1 n c1).ownBlock.toList w1 w4 := ((Only.refl _ w1).alloc _).trans HO4.out (fun k hk => .inl hk)
    exact HO1.out.trans hx (fun k hk => .inr (by
      rw [Option.mem_toList] at hk
      exact HF1.out k hk))

set_option maxRecDepth 100000 in
theorem stays_any (g n c c' : Nat) (B : Option Addr) (xs : List Nat) (w : World) (hL : Hid (Lent w g xs c)) (hB : Hid (LRead w B xs)) (hn : Hid (n = xs.length)) (hl : (n : Int) ≤ 1000000) :
    Calls Tryd.prog 36 #[.slice (some ⟨g, 0, none⟩) n c, .slice B n c'] w fun e w' => e = .returned (.bool true) ∧ Only [] w w' := by
  have hm := hL.out.mark
  rw [← hn.out] at hm
  have hsl := fun wx => slice_headL (some ⟨g, 0, none⟩) n c (n + 1) (hL.out.cap hn.out) wx
  rw [show ((n + 1 : Nat) : Int) = (n : Int) + 1 by omega] at hsl
  go_enter Tryd.func36, Tryd.ntmps36
  go_wp2_with fail
  refine (samelimbs_any (some ⟨g, 0, none⟩) B c c' n n xs xs w (Lib.hid hL.out.read) hB hn hn (by omega)).mono ?_
  rintro e w1 ⟨rfl, ho⟩
  rw [decide_eq_true (rfl : xs = xs)]
  have hm1 := ho.cell hm (by simp)
  have HO := Lib.hid ho
  clear ho hm
  go_wp2_with fail
  go_ret
  exact ⟨rfl, HO.out⟩
end Go.Proofs.YtigpnopeacicpaaDoor
