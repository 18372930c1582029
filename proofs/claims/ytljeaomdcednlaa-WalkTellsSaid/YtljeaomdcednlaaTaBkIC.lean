/-
  The Book: one more list of Ints.
-/
import Derived.Test.YtljeaomdcednlaaTaBkIB
import Derived.Test.YtljeaomdcednlaaTaIntC
namespace Go.Proofs.Ytljeaomdcednlaa
open Go.RowKit

theorem BookIs.bn {w : World} {b : Nat} {un uw : Value} {us ws : List Value} {Ls : List (List Int)} (h : BookIs w b un uw us ws Ls) : un.ownBlock ≠ some b ∧ uw.ownBlock ≠ some b := by
  constructor
  · intro e
    obtain ⟨cs, f, hc⟩ := row_type h.rn e
    exact list_types hc h.blk (by decide) rfl
  · intro e
    obtain ⟨cs, f, hc⟩ := row_type h.rc e
    exact list_types hc h.blk (by decide) rfl
theorem Lists.apart {w : World} {us : List Value} {Ls : List (List Int)} (h : Lists w us Ls) {g : Nat} {t : TypeId} {cs : Array Value} {f : Nat × Nat} (hg : w.heap[g]? = some (.cells cs t f)) (ht : t ≠ 3) : g ∉ obs us := by
  intro hm
  obtain ⟨i, hi, hb⟩ := mem_obs.1 hm
  obtain ⟨cs', f', hc⟩ := row_type (h.at_ i hi) hb
  exact list_types hg hc ht rfl

/-- Between the two halves: the list is in, its copy is not. -/
structure BMid (w w2 : World) (b : Nat) (un un' uw : Value) (us ws : List Value) (Ls : List (List Int)) (u : Value) (L : List Int) : Prop where
  blk : Blk w2 b 36 [un', uw, nilS, nilS, nilS, nilS, nilS, nilS, nilS, nilS]
  rn : ListsRow w2 un' (us ++ [u])
  rc : ListsRow w2 uw ws
  ln : Lists w2 us Ls
  lc : Lists w2 ws Ls
  u : IntsAt w2 u L
  only : Only (b :: un.ownBlock.toList) w w2
  at_ : ∀ g, un'.ownBlock = some g → un.ownBlock = some g ∨ w.heap.size ≤ g
theorem BMid.nil {w w2 w3 : World} {b : Nat} {un un' uw : Value} {us ws : List Value} {Ls : List (List Int)} {u : Value} {L : List Int} (h : BMid w w2 b un un' uw us ws Ls u L) (ho : Only [] w2 w3) : BMid w w3 b un un' uw us ws Ls u L :=
  ⟨h.blk.only ho (by simp), h.rn.only ho (by simp), h.rc.only ho (by simp), h.ln.only ho (by simp), h.lc.only ho (by simp), e_only h.u ho (by simp), h.only.nil_trans ho, h.at_⟩
theorem bk_mid {w w1 w2 : World} {b : Nat} {un uw : Value} {us ws : List Value} {Ls : List (List Int)} {u : Value} {L : List Int} {g1 cap1 : Nat} (hb : BookIs w b un uw us ws Ls) (hu : IntsAt w u L)
    (hown1 : w1.ownsRow 0 22 1 (.slice (some ⟨g1, 0, none⟩) (us.length + 1) cap1) (us.length + 1) (us ++ [u])) (hgr1 : (w.alloc (.cells #[u] 22)).grownBy w1 un.ownBlock) (hat1 : un.ownBlock = some g1 ∨ g1 = w.heap.size + 1)
    (h2 : w2 = w1.setCell ⟨b, 0, none⟩ (.slice (some ⟨g1, 0, none⟩) (us.length + 1) cap1)) : BMid w w2 b un (.slice (some ⟨g1, 0, none⟩) (us.length + 1) cap1) uw us ws Ls u L := by
  have hb1 : Blk w1 b 36 _ := ((hb.blk.alloc _)).grown hgr1 hb.bn.1
  have ho1 : Only un.ownBlock.toList w w1 := ((Only.refl _ w).alloc _).trans (Only.of_grown (S := un.ownBlock.toList) hgr1 (by simp)) (fun k hk => .inl hk)
  have ho : Only (b :: un.ownBlock.toList) w w2 := by
    rw [h2]
    exact (ho1.mono (fun k hk => .inl (List.mem_cons_of_mem _ hk))).setCell (.inl (by simp)) _
  have ho2 : Only [b] w1 w2 := by
    rw [h2]
    exact (Only.refl _ _).setCell (.inl (by simp)) _
  have hin : ∀ g t (cs : Array Value) f, w.heap[g]? = some (.cells cs t f) → t ≠ 36 → t ≠ 22 → g ∉ (b :: un.ownBlock.toList) := by
    intro g t cs f hg h1 h2 hm
    simp only [List.mem_cons, Option.mem_toList] at hm
    rcases hm with rfl | hm
    · exact list_types hg hb.blk h1 rfl
    · obtain ⟨cs', f', hc⟩ := row_type hb.rn hm
      exact list_types hg hc h2 rfl
  refine ⟨?_, ?_, ?_, ?_, ?_, ?_, ho, ?_⟩
  · rw [h2]
    exact hb1.set_ 0 _
  · have h := row_only hown1 ho2 (fun g hg hm => by
      have e : g = b := by simpa using hm
      subst e
      obtain ⟨cs, f, hc⟩ := row_type hown1 hg
      exact list_types hc hb1 (by decide) rfl)
    unfold ListsRow
    simpa using h
  · refine hb.rc.only ho (fun g hg hm => ?_)
    simp only [List.mem_cons, Option.mem_toList] at hm
    rcases hm with rfl | hm
    · exact hb.bn.2 hg
    · exact hb.ap g hm hg
  · refine hb.ln.only ho (fun k hk => ?_)
    obtain ⟨i, hi, hbk⟩ := mem_obs.1 hk
    obtain ⟨cs, f, hc⟩ := row_type (hb.ln.at_ i hi) hbk
    exact hin k _ cs f hc (by decide) (by decide)
  · refine hb.lc.only ho (fun k hk => ?_)
    obtain ⟨i, hi, hbk⟩ := mem_obs.1 hk
    obtain ⟨cs, f, hc⟩ := row_type (hb.lc.at_ i hi) hbk
    exact hin k _ cs f hc (by decide) (by decide)
  · refine e_only hu ho (fun k hk => ?_)
    obtain ⟨cs, f, hc⟩ := row_type hu hk
    exact hin k _ cs f hc (by decide) (by decide)
  · intro g hg
    have e : g1 = g := by simpa [Value.ownBlock] using hg
    subst e
    rcases hat1 with h | h
    · exact .inl h
    · exact .inr (by omega)

theorem bk_close {w w3 w4 w5 : World} {b : Nat} {un un' uw : Value} {us ws : List Value} {Ls : List (List Int)} {u x : Value} {L : List Int} {g2 cap2 : Nat} (hb : BookIs w b un uw us ws Ls) (M : BMid w w3 b un un' uw us ws Ls u L) (hx : IntsAt w3 x L)
    (hxg : ∀ g, x.ownBlock = some g → w.heap.size ≤ g) (hf : ∀ g, u.ownBlock = some g → g ∉ obs us)
    (hown2 : w4.ownsRow 0 22 1 (.slice (some ⟨g2, 0, none⟩) (ws.length + 1) cap2) (ws.length + 1) (ws ++ [x])) (hgr2 : (w3.alloc (.cells #[x] 22)).grownBy w4 uw.ownBlock) (hat2 : uw.ownBlock = some g2 ∨ g2 = w3.heap.size + 1)
    (h5 : w5 = w4.setCell ⟨b, 1, none⟩ (.slice (some ⟨g2, 0, none⟩) (ws.length + 1) cap2)) : BnPost b un uw us ws Ls u L w (.returned (.tuple #[])) w5 := by
  have hb4 : Blk w4 b 36 _ := ((M.blk.alloc _)).grown hgr2 hb.bn.2
  have ho4 : Only uw.ownBlock.toList w3 w4 := ((Only.refl _ w3).alloc _).trans (Only.of_grown (S := uw.ownBlock.toList) hgr2 (by simp)) (fun k hk => .inl hk)
  have ho : Only (b :: uw.ownBlock.toList) w3 w5 := by
    rw [h5]
    exact (ho4.mono (fun k hk => .inl (List.mem_cons_of_mem _ hk))).setCell (.inl (by simp)) _
  have ho5 : Only [b] w4 w5 := by
    rw [h5]
    exact (Only.refl _ _).setCell (.inl (by simp)) _
  have hin : ∀ g t (cs : Array Value) f, w3.heap[g]? = some (.cells cs t f) → t ≠ 36 → t ≠ 22 → g ∉ (b :: uw.ownBlock.toList) := by
    intro g t cs f hg h1 h2 hm
    simp only [List.mem_cons, Option.mem_toList] at hm
    rcases hm with rfl | hm
    · exact list_types hg M.blk h1 rfl
    · obtain ⟨cs', f', hc⟩ := row_type M.rc hm
      exact list_types hg hc h2 rfl
  have hkeep : ∀ {v : Value} {K : List Int}, IntsAt w3 v K → IntsAt w5 v K := fun {v K} hv => e_only hv ho (fun k hk => by
    obtain ⟨cs, f, hc⟩ := row_type hv hk
    exact hin k _ cs f hc (by decide) (by decide))
  have hlen : ws.length = us.length := by rw [hb.lc.len, hb.ln.len]
  have hun : ∀ g, un'.ownBlock = some g → uw.ownBlock ≠ some g ∧ g ≠ b := by
    intro g hg
    constructor
    · intro e
      rcases M.at_ g hg with h | h
      · exact hb.ap g h e
      · have := hb.rc.lt g e
        omega
    · rintro rfl
      obtain ⟨cs, f, hc⟩ := row_type M.rn hg
      exact list_types hc M.blk (by decide) rfl
  refine ⟨un', .slice (some ⟨g2, 0, none⟩) (ws.length + 1) cap2, x, rfl, ⟨?_, ?_, ?_, ?_, ?_, ?_, ?_⟩, ?_, ?_⟩
  · rw [h5]
    exact hb4.set_ 1 _
  · refine M.rn.only ho (fun g hg hm => ?_)
    simp only [List.mem_cons, Option.mem_toList] at hm
    rcases hm with rfl | hm
    · exact (hun g hg).2 rfl
    · exact (hun g hg).1 hm
  · have h := row_only hown2 ho5 (fun g hg hm => by
      have e : g = b := by simpa using hm
      subst e
      obtain ⟨cs, f, hc⟩ := row_type hown2 hg
      exact list_types hc hb4 (by decide) rfl)
    unfold ListsRow
    simpa using h
  · exact (show Lists w5 us Ls from ⟨M.ln.len, fun i hi => hkeep (M.ln.at_ i hi)⟩).snoc (hkeep M.u)
  · exact (show Lists w5 ws Ls from ⟨M.lc.len, fun i hi => hkeep (M.lc.at_ i hi)⟩).snoc (hkeep hx)
  · intro g hg e
    have e' : g2 = g := by simpa [Value.ownBlock] using e
    subst e'
    rcases hat2 with h | h
    · exact (hun g2 hg).1 h
    · have := M.rn.lt g2 hg
      omega
  · rw [obs_snoc, List.nodup_append]
    refine ⟨hb.nd, ?_, fun k hk g hg => ?_⟩
    · cases hu : u.ownBlock <;> simp
    · rintro rfl
      exact hf k (by simpa using hg) hk
  · refine (M.only.mono (S' := b :: (un.ownBlock.toList ++ uw.ownBlock.toList)) (fun k hk => .inl ?_)).trans ho (fun k hk => .inl ?_)
    · simp only [List.mem_cons, List.mem_append] at hk ⊢
      rcases hk with h | h
      · exact .inl h
      · exact .inr (.inl h)
    · simp only [List.mem_cons, List.mem_append] at hk ⊢
      rcases hk with h | h
      · exact .inl h
      · exact .inr (.inr h)
  · intro k hk
    simp only [bfoot, List.mem_cons, List.mem_append, Option.mem_toList, obs_snoc] at hk ⊢
    rcases hk with rfl | hk | hk | (hk | hk) | (hk | hk)
    · simp
    · rcases M.at_ k hk with h | h
      · simp [h]
      · exact .inr (.inl h)
    · have e : g2 = k := by simpa [Value.ownBlock] using hk
      subst e
      rcases hat2 with h | h
      · simp [h]
      · have := M.only.size
        exact .inr (.inl (by omega))
    · simp [hk]
    · exact .inr (.inr hk)
    · simp [hk]
    · exact .inr (.inl (hxg k hk))

set_option linter.unusedSimpArgs false in
set_option maxHeartbeats 1600000 in
set_option maxRecDepth 100000 in
theorem badd_any (b : Nat) (un uw : Value) (us ws : List Value) (Ls : List (List Int)) (A : Option Addr) (n c : Nat) (L : List Int) (w : World) (hb : BookIs w b un uw us ws Ls) (hu : IntsAt w (.slice A n c) L) (hf : ∀ g, (Value.slice A n c).ownBlock = some g → g ∉ obs us)
    (hn : (us.length : Int) < 250) (hl : (n : Int) ≤ 20001) :
    Calls Try.prog 10 #[.pointer (some ⟨b, 0, none⟩), .slice A n c] w (BnPost b un uw us ws Ls (.slice A n c) L w) := by
  obtain ⟨i0, hi, hz0, hz1, hz2⟩ := list_parts
  have hrn := hb.rn
  have hrc := hb.rc
  obtain ⟨An, cn, rfl, -⟩ := hrn.shape
  obtain ⟨Aw, cw, rfl, -⟩ := hrc.shape
  have c4 : w.cell? ⟨b, 0, none⟩ = some (.slice An us.length cn) := hb.blk.cell 0
  have hlw : ws.length = us.length := by rw [hb.lc.len, hb.ln.len]
  have c4' := ((Only.refl [] w).alloc (.cells #[.slice A n c] 22)).cell c4 (by simp)
  have HL := Lib.hid hlw
  have HBk := Lib.hid hb
  have HU := Lib.hid hu
  have HF := Lib.hid hf
  clear hlw hb hu hf
  go_enter Try.func10, Try.ntmps10
  go_wp2_with (at_builtin; refine wpList_append_lies _ rfl _ _ _ rfl 0 22 i0 _ 1 24 Try.underlying30 hi hz0 hz1 hz2 rfl (by decide) (.slice An us.length cn) us.length us rfl (by exact hrn.alloc _) ⟨w.heap.size, 0, none⟩ 1 1 [.slice A n c] rfl rfl (by exact cell_one_new _ _ _) (by simp [Value.oneCell']) (by decide) (by simp only [maxLen]; omega) (by omega) (Nat.zero_le _) (w.heap.size + 1) (by simp) ?_; intro g1 cap1 w1 hown1 hgr1 hat1 hlt1; have hb1 : Blk w1 b 36 _ := ((HBk.out.blk.alloc _)).grown hgr1 HBk.out.bn.1; have a4 := hb1.cell 0; have f4 := hb1.frozen 0; simp only [List.getElem?_cons_zero, List.getElem?_cons_succ] at a4)
  have M := Lib.hid (bk_mid HBk.out HU.out hown1 hgr1 hat1 rfl)
  generalize w1.setCell ⟨b, 0, none⟩ (.slice (some ⟨g1, 0, none⟩) (us.length + 1) cap1) = w2 at M ⊢
  clear hown1 hgr1 hat1 hlt1 hb1 a4 f4 c4 c4' hrn hrc
  have c5 : w2.cell? ⟨b, 1, none⟩ = some (.slice Aw ws.length cw) := M.out.blk.cell 1
  go_region_law (first
    | (go_simp; go_at_call 19; refine (copyInts_any A n c L _ (Lib.hid (e_read (M.out.nil (Only.refl _ _).drew).u).2) (Lib.hid (e_read HU.out).1) (by omega)).mono ?_; rintro e w3 ⟨Ax, cx, rfl, hx, hxg, ho3⟩; have M3 := Lib.hid (M.out.nil ((Only.refl [] w2).drew.nil_trans ho3)); have HX := Lib.hid (And.intro hx hxg); clear hx hxg ho3; have c5b := (M3.out.nil ((Only.refl [] w3).alloc (.cells #[.slice Ax n cx] 22))).blk.cell 1; have c5a := M3.out.blk.cell 1; simp only [List.getElem?_cons_zero, List.getElem?_cons_succ] at c5a c5b)
    | (refine step_append_lies _ rfl (.tmp 24) (.tmp 27) 30 rfl 0 22 i0 _ 1 24 Try.underlying30 hi hz0 hz1 hz2 rfl (by decide) (.slice Aw ws.length cw) ws.length ws rfl (by exact M3.out.rc.alloc _) ⟨w3.heap.size, 0, none⟩ 1 1 [.slice Ax n cx] rfl rfl (by exact cell_one_new _ _ _) (by simp [Value.oneCell']) (by decide) (by have := HL.out; simp only [maxLen]; omega) (by have := HL.out; omega) (Nat.zero_le _) (w3.heap.size + 1) (by simp) ?_; intro g2 cap2 w4 hown2 hgr2 hat2 hlt2; have hb4 : Blk w4 b 36 _ := (M3.out.blk.alloc _).grown hgr2 HBk.out.bn.2; have a5 := hb4.cell 1; have f5 := hb4.frozen 1; simp only [List.getElem?_cons_zero, List.getElem?_cons_succ] at a5))
  all_goals go_returns
  all_goals exact bk_close HBk.out M3.out HX.out.1 (fun g hg => Nat.le_trans M.out.only.size (HX.out.2 g hg)) HF.out hown2 hgr2 hat2 rfl
end Go.Proofs.Ytljeaomdcednlaa
