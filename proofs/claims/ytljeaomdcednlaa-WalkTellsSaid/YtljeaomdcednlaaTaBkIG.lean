/-
  The Book: an append that tells whether the old block was written; what grow keeps.
-/
import Derived.Test.YtljeaomdcednlaaTaBkIF
namespace Go.Proofs.Ytljeaomdcednlaa
open Go.RowKit

/-- What an append has left of the row v: it lies in place, or in new memory and all is as it was. -/
structure Pushed (w w' : World) (v : Value) (g : Nat) : Prop where
  grow : w.grownBy w' v.ownBlock
  at_ : v.ownBlock = some g ∨ (g = w.heap.size ∧ w.grownBy w' none)
theorem rd_news {w : World} {b o : Nat} {L : List Int} (h : IRead w (some ⟨b, o, none⟩) L) : ∀ j u, (ints L)[j]? = some u → w.cell? ((⟨b, o, none⟩ : Addr).add j) = some u := by
  intro j u hu
  have hj : j < L.length := by
    have := (List.getElem?_eq_some_iff.1 hu).1
    rwa [vs_len] at this
  obtain ⟨b', o', e, hc⟩ := h j hj
  injection e with e
  injection e with e1 e2
  subst e1 e2
  rw [vs_get _ _ hj] at hu
  injection hu with hu
  rw [addr_k, ← hu]
  exact hc

theorem push_run {w : World} {t ty : TypeId} {v ad' : Value} {L M : List Int} {ad : Addr} {c : Nat} (ht : Try.prog.underlying t = some (.slice 3)) (hown : IntsAt w v L) (hx : ad' = .slice (some ad) M.length c) (hnews : ∀ j u, (ints M)[j]? = some u → w.cell? (ad.add j) = some u) (hm : 0 < M.length) (hl : L.length + M.length ≤ 100000) :
    ∃ g cap w', (Builtin.append_ #[t, t] ty #[v, ad']).run Try.prog w = .ok (.slice (some ⟨g, 0, none⟩) (L.length + M.length) cap) w' ∧ IntsAt w' (.slice (some ⟨g, 0, none⟩) (L.length + M.length) cap) (L ++ M) ∧ Pushed w w' v g := by
  subst hx
  obtain ⟨i0, hi, hz0, hz1, hz2⟩ := int_parts
  have one : ∀ xs : List Int, (ints xs).length = xs.length * 1 := fun xs => by rw [vs_len, Nat.mul_one]
  obtain ⟨g, cap, w', hr, hown', hgr, hat, _⟩ := run_append_lies (P := Try.prog) w t ty 0 3 i0 _ 1 8 ht hi hz0 hz1 hz2 rfl (by decide) v L.length (ints L) hown ad M.length c (ints M) (one M) hnews (vs_one M) hm (by simp only [maxLen]; omega) (by omega) (Nat.zero_le _) w.heap.size rfl
  refine ⟨g, cap, w', hr, ?_, hgr, ?_⟩
  · show World.ownsRow _ _ _ _ _ _ _
    rw [List.length_append, vs_add]
    exact hown'
  · rcases hat with h | h
    · exact .inl h
    · refine .inr ⟨h, ?_⟩
      rcases hown.2 with ⟨rfl, _⟩ | ⟨g0, cap0, cur, rfl, _, hg0, hn0, hm0, hs0, _⟩
      · exact hgr
      · by_cases hroom : L.length + M.length ≤ cap0
        · have hr' := run_append_room (P := Try.prog) w t ty 3 i0 ht hi g0 L.length cap0 cur hg0 ad M.length c (ints M) (by rw [hz1]; exact one M) hnews (vs_one M) hroom (by rw [hz1, one, hs0]; omega)
          rw [hr] at hr'
          injection hr' with e1 _
          injection e1 with e1 _ _
          injection e1 with e1
          injection e1 with e1 _ _
          have := (Array.getElem?_eq_some_iff.1 hg0).1
          omega
        · have holds : ∀ j u, (ints L)[j]? = some u → w.cell? ((⟨g0, 0, none⟩ : Addr).add j) = some u := World.ownsRow.cells (g := g0) hown rfl
          have hr' := run_append_grow (P := Try.prog) w t ty 3 i0 _ ht hi hz0 ⟨g0, 0, none⟩ L.length cap0 (ints L) (by rw [hz1]; exact one L) holds ad M.length c (ints M) (by rw [hz1]; exact one M) hnews (by omega) (by omega) (growslice_fits (by omega) (by rw [hz2]; omega))
          rw [hr] at hr'
          injection hr' with _ e2
          rw [e2]
          exact ⟨rfl, rfl, rfl, by simp, fun k hk _ => heap_alloc_old w.drew _ hk⟩

theorem wpList_push_e {w : World} {ops : Array Oper} {rest : List Oper} {o : Oper} {a : Act} {Q : Exit → Act → World → Prop} (hgd : o.guard = none) (s x : Operand) (ho : o.op = .call { callee := .builtin .append, args := #[s, x], argTypes := #[22, 22] })
    (v : Value) (L M : List Int) (ad : Addr) (c : Nat) (hs : a.eval s = v) (hown : IntsAt w v L) (hx : a.eval x = .slice (some ad) M.length c) (hnews : ∀ j u, (ints M)[j]? = some u → w.cell? (ad.add j) = some u) (hm : 0 < M.length) (hl : L.length + M.length ≤ 100000)
    (h : ∀ g cap w', IntsAt w' (.slice (some ⟨g, 0, none⟩) (L.length + M.length) cap) (L ++ M) → Pushed w w' v g → wpList Try.prog ops Q rest (a.put o.dst (.slice (some ⟨g, 0, none⟩) (L.length + M.length) cap)) w') :
    wpList Try.prog ops Q (o :: rest) a w := by
  refine wpList_plain hgd fun K hK => ?_
  obtain ⟨g, cap, w', hr, h1, h2⟩ := push_run (w := w) (t := 22) (ty := o.type) (v := v) (L := L) (M := M) (ad := ad) (c := c) Try.underlying22 hown rfl hnews hm hl
  unfold Oper.wp execOp
  simp only [ho, resolve, invoke, builtin, Sem.run_bind, Sem.run_pure, Result.andThen_ok, List.map_toArray, List.map_cons, List.map_nil, hs, hx, hr]
  exact hK _ _ (h g cap w' h1 h2)

theorem rd_apart {w w' : World} {A : Option Addr} {L : List Int} {S : List Nat} (h : IRead w A L) (ho : Only S w w') (hn : ∀ b o, A = some ⟨b, o, none⟩ → b ∉ S) : IRead w' A L := fun k hk => by
  obtain ⟨b, o, h1, h2⟩ := h k hk
  exact ⟨b, o, h1, ho.cell h2 (hn b o h1)⟩
theorem rd_prefix {w : World} {A : Option Addr} {L M : List Int} (h : IRead w A (L ++ M)) : IRead w A L := fun k hk => by
  obtain ⟨b, o, h1, h2⟩ := h k (by simp; omega)
  rw [List.getElem?_append_left hk] at h2
  exact ⟨b, o, h1, h2⟩

/-- A list of the Book, as it grows: l stands in uk's block or in new memory; uk reads as it did. -/
structure GrowIn (w0 wq : World) (uk : Value) (A : Option Addr) (U : List Int) (l : Value) (K : List Int) : Prop where
  li : IntsAt wq l K
  ob : l.ownBlock = uk.ownBlock ∨ ∀ g, l.ownBlock = some g → w0.heap.size ≤ g
  only : Only uk.ownBlock.toList w0 wq
  rd : IRead wq A U
  pre : ∃ M, K = U ++ M
theorem GrowIn.nil {w0 w w' : World} {uk l : Value} {A : Option Addr} {U K : List Int} (h : GrowIn w0 w uk A U l K) (ho : Only [] w w') : GrowIn w0 w' uk A U l K :=
  ⟨e_only h.li ho (by simp), h.ob, h.only.nil_trans ho, h.rd.only ho, h.pre⟩
theorem GrowIn.push {w0 w w' : World} {uk l : Value} {A : Option Addr} {U K M : List Int} {n c g cap : Nat} (h : GrowIn w0 w uk A U l K) (hu : IntsAt w0 uk U) (huk : uk = .slice A n c) (hl : IntsAt w' (.slice (some ⟨g, 0, none⟩) (K.length + M.length) cap) (K ++ M)) (hp : Pushed w w' l g) :
    GrowIn w0 w' uk A U (.slice (some ⟨g, 0, none⟩) (K.length + M.length) cap) (K ++ M) := by
  obtain ⟨M0, hM0⟩ := h.pre
  have hpre : ∃ M', K ++ M = U ++ M' := ⟨M0 ++ M, by rw [hM0, List.append_assoc]⟩
  have hA : ∀ b o, A = some ⟨b, o, none⟩ → uk.ownBlock = some b := by
    rintro b o rfl
    rw [huk]
    rfl
  have hlt : ∀ b, uk.ownBlock = some b → b < w0.heap.size := fun b hb => (World.ownsRow.lt hu b hb).2
  rcases hp.at_ with hg | ⟨hg, hgr⟩
  · -- in place
    have ho : Only [g] w w' := Only.of_grown (S := [g]) hp.grow (fun k hk => by rw [hg] at hk; simpa using (Option.some.inj hk).symm)
    rcases h.ob with e | e
    · have hgu : uk.ownBlock = some g := by rw [← e]; exact hg
      refine ⟨hl, .inl (by rw [hgu]; rfl), h.only.trans ho (fun k hk => .inl ?_), ?_, hpre⟩
      · have e' : k = g := by simpa using hk
        rw [hgu, e']
        simp
      · rcases hu.2 with ⟨h0, h1⟩ | ⟨g0, c0, cur, h0, _⟩
        · rw [h0] at hgu
          simp [Value.ownBlock] at hgu
        · rw [huk] at h0
          injection h0 with h0 _ _
          have e' : g0 = g := by
            rw [huk, h0] at hgu
            simpa [Value.ownBlock] using hgu
          subst e' h0
          have hr := (e_read hl).2
          obtain ⟨M', hM'⟩ := hpre
          rw [hM'] at hr
          exact rd_prefix hr
    · have hgw := e g hg
      refine ⟨hl, .inr (fun g' hg' => ?_), h.only.trans ho (fun k hk => .inr ?_), rd_apart h.rd ho (fun b o hb hm => ?_), hpre⟩
      · have e' : g = g' := by simpa [Value.ownBlock] using hg'
        omega
      · have e' : k = g := by simpa using hk
        omega
      · have e' : b = g := by simpa using hm
        have := hlt b (hA b o hb)
        omega
  · -- in new memory
    have ho : Only [] w w' := Only.of_grown (S := []) hgr (by simp)
    refine ⟨hl, .inr (fun g' hg' => ?_), h.only.nil_trans ho, h.rd.only ho, hpre⟩
    have e' : g = g' := by simpa [Value.ownBlock] using hg'
    have := h.only.size
    omega
end Go.Proofs.Ytljeaomdcednlaa
