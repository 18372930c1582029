/-
  The Book: grow: what it keeps.
-/
import Derived.Test.YtljeaomdcednlaaTaBkIG
namespace Go.Proofs.Ytljeaomdcednlaa
open Go.RowKit

theorem wpList_push_marks {w w0 : World} {ops : Array Oper} {rest : List Oper} {o : Oper} {a : Act} {Q : Exit → Act → World → Prop} (hgd : o.guard = none) (s x : Operand) (ho : o.op = .call { callee := .builtin .append, args := #[s, x], argTypes := #[22, 22] })
    (k q n : Nat) {uk l : Value} {A : Option Addr} {U : List Int} {nU cU : Nat} (G : GrowIn w0 w uk A U l (marks k 0 q)) (hu : IntsAt w0 uk U) (huk : uk = .slice A nU cU) (hs : a.eval s = l)
    (X : Option Addr) (c : Nat) (hx : a.eval x = .slice X n c) (hX : IntsAt w (.slice X n c) (marks k q n)) (hn : 0 < n) (hl : q + n ≤ 100000)
    (h : ∀ g cap w', GrowIn w0 w' uk A U (.slice (some ⟨g, 0, none⟩) (q + n) cap) (marks k 0 (q + n)) → wpList Try.prog ops Q rest (a.put o.dst (.slice (some ⟨g, 0, none⟩) (q + n) cap)) w') :
    wpList Try.prog ops Q (o :: rest) a w := by
  obtain ⟨X', c', e, _, _, hc⟩ := e_shape hX
  injection e with e1 e0 e2
  obtain ⟨gx, hgx, _⟩ := hc 0 (by rw [marks_length]; exact hn)
  rw [e1, hgx] at hX hx
  have hr := (e_read hX).2
  refine wpList_push_e hgd s x ho l (marks k 0 q) (marks k q n) ⟨gx, 0, none⟩ c hs G.li (by rw [hx, marks_length]) (rd_news hr) (by rw [marks_length]; exact hn) (by rw [marks_length, marks_length]; exact hl) (fun g cap w' h1 h2 => ?_)
  have G' := G.push hu huk h1 h2
  rw [← marks_add] at G'
  simp only [marks_length] at G' ⊢
  exact h g cap w' G'

/-- Where grow stands: k lists have grown. -/
structure GrowRel (w wr : World) (us : List Value) (m : Nat → Nat) (k : Nat) (o : Value) (gs : List Value) : Prop where
  only : Only (obs us) w wr
  rest : ∀ i, i < us.length → k ≤ i → IntsAt wr (us[i]?.getD nilS) (marks i 0 (m i))
  done : ∀ i, i < k → ∃ A c, us[i]?.getD nilS = .slice A (m i) c ∧ IRead wr A (marks i 0 (m i))
  row : ListsRow wr o gs
  glen : gs.length = k
  gs_ : ∀ i, i < k → IntsAt wr (gs[i]?.getD nilS) (marks i 0 (m i + 72))
  gob : ∀ i, i < k → ∀ g, (gs[i]?.getD nilS).ownBlock = some g → (us[i]?.getD nilS).ownBlock = some g ∨ w.heap.size ≤ g
  oob : ∀ g, o.ownBlock = some g → w.heap.size ≤ g

theorem GrowRel.next {w wr wq w' : World} {us gs : List Value} {m : Nat → Nat} {k c g cap : Nat} {o l : Value} {A : Option Addr} (h : GrowRel w wr us m k o gs) (hlt : ∀ x ∈ obs us, x < w.heap.size) (hnd : (obs us).Nodup) (hk : k < us.length) (huk : us[k]?.getD nilS = .slice A (m k) c)
    (G : GrowIn wr wq (us[k]?.getD nilS) A (marks k 0 (m k)) l (marks k 0 (m k + 72))) (hown : w'.ownsRow 0 22 1 (.slice (some ⟨g, 0, none⟩) (gs.length + 1) cap) (gs.length + 1) (gs ++ [l]))
    (hgr : (wq.alloc (.cells #[l] 22)).grownBy w' o.ownBlock) (hat : o.ownBlock = some g ∨ g = wq.heap.size + 1) : GrowRel w w' us m (k + 1) (.slice (some ⟨g, 0, none⟩) (gs.length + 1) cap) (gs ++ [l]) := by
  have hw := h.only.size
  have hwq := G.only.size
  have hsub : ∀ x, x ∈ (us[k]?.getD nilS).ownBlock.toList → x ∈ obs us := fun x hx => mem_obs.2 ⟨k, hk, by simpa using hx⟩
  have ho1 : Only o.ownBlock.toList wq w' := ((Only.refl _ wq).alloc _).trans (Only.of_grown (S := o.ownBlock.toList) hgr (by simp)) (fun k hk => .inl hk)
  have hoq : ∀ x, o.ownBlock = some x → ∃ cs f, wq.heap[x]? = some (.cells cs 22 f) := by
    intro x hx
    obtain ⟨cs, f, hc⟩ := row_type h.row hx
    refine ⟨cs, f, G.only.heap hc (fun hm => ?_)⟩
    have h1 := hlt x (hsub x hm)
    have h2 := h.oob x hx
    omega
  have hnode : ∀ {v : Value} {K : List Int}, IntsAt wq v K → IntsAt w' v K := fun {v K} hv => e_only hv ho1 (fun x hx hm => by
    obtain ⟨cs, f, hc⟩ := row_type hv hx
    obtain ⟨cs', f', hc'⟩ := hoq x (by simpa using hm)
    exact list_types hc hc' (by decide) rfl)
  have hread : ∀ {B : Option Addr} {K : List Int}, (∀ b o', B = some ⟨b, o', none⟩ → b < w.heap.size) → IRead wq B K → IRead w' B K := fun {B K} hB hr => rd_apart hr ho1 (fun b o' hb hm => by
    have h1 := hB b o' hb
    have h2 := h.oob b (by simpa using hm)
    omega)
  have huB : ∀ i, i < us.length → ∀ {B : Option Addr} {n c' : Nat}, us[i]?.getD nilS = .slice B n c' → ∀ b o', B = some ⟨b, o', none⟩ → (us[i]?.getD nilS).ownBlock = some b := by
    rintro i _ B n c' e b o' rfl
    rw [e]
    rfl
  refine ⟨?_, ?_, ?_, ?_, ?_, ?_, ?_, ?_⟩
  · refine (h.only.trans G.only (fun x hx => .inl (hsub x hx))).trans ho1 (fun x hx => .inr (h.oob x (by simpa using hx)))
  · intro i hi hki
    refine hnode (e_only (h.rest i hi (by omega)) G.only (fun x hx hm => ?_))
    exact obs_apart hnd hi hk (by omega) hx (by simpa using hm)
  · intro i hi
    by_cases e : i = k
    · subst e
      exact ⟨A, c, huk, hread (fun b o' hb => hlt b (mem_obs.2 ⟨i, hk, huB i hk huk b o' hb⟩)) G.rd⟩
    · obtain ⟨B, c', e1, hr⟩ := h.done i (by omega)
      have hil : i < us.length := by omega
      refine ⟨B, c', e1, hread (fun b o' hb => hlt b (mem_obs.2 ⟨i, hil, huB i hil e1 b o' hb⟩)) (rd_apart hr G.only (fun b o' hb hm => ?_))⟩
      exact obs_apart hnd hil hk e (huB i hil e1 b o' hb) (by simpa using hm)
  · unfold ListsRow
    simpa using hown
  · simp [h.glen]
  · intro i hi
    rw [get_snoc gs l nilS i (by rw [h.glen]; exact hi), h.glen]
    by_cases e : i < k
    · rw [if_pos e]
      refine hnode (e_only (h.gs_ i e) G.only (fun x hx hm => ?_))
      have hm' : (us[k]?.getD nilS).ownBlock = some x := by simpa using hm
      rcases h.gob i e x hx with h1 | h1
      · exact obs_apart hnd (by omega) hk (by omega) h1 hm'
      · have := hlt x (hsub x hm)
        omega
    · rw [if_neg e]
      obtain rfl : i = k := by omega
      exact hnode G.li
  · intro i hi x hx
    rw [get_snoc gs l nilS i (by rw [h.glen]; exact hi), h.glen] at hx
    by_cases e : i < k
    · rw [if_pos e] at hx
      exact h.gob i e x hx
    · rw [if_neg e] at hx
      obtain rfl : i = k := by omega
      rcases G.ob with h1 | h1
      · left; rw [← h1]; exact hx
      · right
        have := h1 x hx
        omega
  · intro x hx
    have e : g = x := by simpa [Value.ownBlock] using hx
    subst e
    rcases hat with h1 | h1
    · exact h.oob g h1
    · omega

theorem mark_num (k q n : Nat) (z : Int) (w : World) (hk : (k : Int) ≤ 250) (hq : (q : Int) ≤ 1000) (hz : (n : Int) = z) (hn : (n : Int) ≤ 1000) : Calls Try.prog 55 #[.int .i64 (k : Int), .int .i64 (q : Int), .int .i64 z] w fun e w' => ∃ X c, e = .returned (.slice X n c) ∧ IntsAt w' (.slice X n c) (marks k q n) ∧ Only [] w w' := by
  subst hz
  exact (mark_any k q n w hk hq hn).mono fun e w' ⟨u, he, hu, _, ho⟩ => by
    obtain ⟨X, c, rfl, _⟩ := e_shape hu
    rw [marks_length] at he hu
    exact ⟨X, c, he, hu, ho⟩
theorem GrowIn.shape {w0 wq : World} {uk l : Value} {A : Option Addr} {U : List Int} {k q : Nat} (h : GrowIn w0 wq uk A U l (marks k 0 q)) : ∃ B c, l = .slice B q c := by
  obtain ⟨B, c, e, _⟩ := e_shape h.li
  rw [marks_length] at e
  exact ⟨B, c, e⟩
theorem row_kept {w wr wq : World} {us gs : List Value} {m : Nat → Nat} {k : Nat} {o l : Value} {A : Option Addr} {U K : List Int} (h : GrowRel w wr us m k o gs) (hlt : ∀ x ∈ obs us, x < w.heap.size) (hk : k < us.length) (G : GrowIn wr wq (us[k]?.getD nilS) A U l K) : ListsRow wq o gs :=
  h.row.only G.only (fun g hg hm => by
    have h1 := hlt g (mem_obs.2 ⟨k, hk, by simpa using hm⟩)
    have h2 := h.oob g hg
    omega)
end Go.Proofs.Ytljeaomdcednlaa
