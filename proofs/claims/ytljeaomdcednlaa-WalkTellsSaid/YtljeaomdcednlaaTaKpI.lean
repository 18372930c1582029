/-
  Results that a Book keeps: each in memory of its own, those kept and those still to be kept.
-/
import Derived.Test.YtljeaomdcednlaaTaBkIJ
namespace Go.Proofs.Ytljeaomdcednlaa
open Go.RowKit

/-- The values and their ints. -/
abbrev KL := List (Value × List Int)
def kv (K : KL) : List Value := K.map Prod.fst
def kl (K : KL) : List (List Int) := K.map Prod.snd
/-- A Book that has kept K, in memory newer than w0; P stands ready. -/
structure Kp (w0 w : World) (b : Nat) (K P : KL) : Prop where
  bk : ∃ un uw ws, BookIs w b un uw (kv K) ws (kl K) ∧ ∀ k ∈ bfoot b un uw (kv K) ws, w0.heap.size ≤ k
  pend : ∀ p ∈ P, IntsAt w p.1 (p.2)
  nd : (obs (kv K) ++ obs (kv P)).Nodup
  new_ : ∀ k ∈ obs (kv P), w0.heap.size ≤ k
  len : ∀ p ∈ K ++ P, (p.2).length ≤ 700
  only : Only [] w0 w
theorem obs_app (us vs : List Value) : obs (us ++ vs) = obs us ++ obs vs := by simp [obs]
theorem kv_app (K P : KL) : kv (K ++ P) = kv K ++ kv P := by simp [kv]
theorem obs_cons (u : Value) (us : List Value) : obs (u :: us) = u.ownBlock.toList ++ obs us := rfl
theorem obs_mem {p : Value × List Int} {P : KL} (hp : p ∈ P) {g : Nat} (hg : p.1.ownBlock = some g) : g ∈ obs (kv P) := by
  unfold obs kv
  rw [List.mem_flatMap]
  exact ⟨p.1, List.mem_map_of_mem hp, by simpa using hg⟩
theorem obs_of {P : KL} {g : Nat} (h : g ∈ obs (kv P)) : ∃ p ∈ P, p.1.ownBlock = some g := by
  unfold obs kv at h
  rw [List.mem_flatMap] at h
  obtain ⟨u, hu, hg⟩ := h
  obtain ⟨p, hp, rfl⟩ := List.mem_map.1 hu
  exact ⟨p, hp, by simpa using hg⟩
section
variable {w0 w w' : World} {b : Nat} {K P : KL}
theorem Kp.step (h : Kp w0 w b K P) (ho : Only [] w w') : Kp w0 w' b K P := by
  obtain ⟨un, uw, ws, hb, hn⟩ := h.bk
  exact ⟨⟨un, uw, ws, hb.only ho (by simp), hn⟩, fun p hp => e_only (h.pend p hp) ho (by simp), h.nd, h.new_, h.len, h.only.nil_trans ho⟩
/-- All blocks known are older than the world's end. -/
theorem Kp.lt (h : Kp w0 w b K P) : ∀ k ∈ obs (kv K) ++ obs (kv P), k < w.heap.size := by
  intro k hk
  rw [List.mem_append] at hk
  rcases hk with hk | hk
  · obtain ⟨un, uw, ws, hb, _⟩ := h.bk
    exact hb.ln.lt k hk
  · obtain ⟨p, hp, hg⟩ := obs_of hk
    exact IntsAt.lt (h.pend p hp) k hg
theorem Kp.push (h : Kp w0 w b K P) {u : Value} {n : List Int} (hr : IntsAt w' u n) (hfr : ∀ g, u.ownBlock = some g → w.heap.size ≤ g) (ho : Only [] w w') (hl : n.length ≤ 700) : Kp w0 w' b K (P ++ [(u, n)]) := by
  have h' := h.step ho
  refine ⟨h'.bk, ?_, ?_, ?_, ?_, h'.only⟩
  · intro p hp
    rw [List.mem_append, List.mem_singleton] at hp
    rcases hp with hp | rfl
    · exact h'.pend p hp
    · exact hr
  · rw [kv_app, obs_app, ← List.append_assoc, List.nodup_append]
    refine ⟨h.nd, ?_, ?_⟩
    · show (obs [u]).Nodup
      rw [obs_cons]
      cases u.ownBlock <;> simp [obs]
    · intro k hk g hg e
      subst e
      have h1 := h.lt k hk
      have h2 : u.ownBlock = some k := by simpa [kv, obs] using hg
      have := hfr k h2
      omega
  · intro k hk
    rw [kv_app, obs_app, List.mem_append] at hk
    rcases hk with hk | hk
    · exact h.new_ k hk
    · have h2 : u.ownBlock = some k := by simpa [kv, obs] using hk
      have := hfr k h2
      have := h.only.size
      omega
  · intro p hp
    rw [← List.append_assoc, List.mem_append, List.mem_singleton] at hp
    rcases hp with hp | rfl
    · exact h.len p hp
    · exact hl
theorem Kp.at_ (h : Kp w0 w b K P) {p : Value × List Int} (hp : p ∈ K) : IntsAt w p.1 (p.2) := by
  obtain ⟨un, uw, ws, hb, _⟩ := h.bk
  obtain ⟨i, hi, rfl⟩ := List.getElem_of_mem hp
  have h1 := hb.ln.at_ i (by simpa [kv] using hi)
  have e1 : (kv K)[i]?.getD nilS = K[i].1 := by simp [kv, hi]
  have e2 : (kl K)[i]?.getD [] = K[i].2 := by simp [kl, hi]
  rw [e1, e2] at h1
  exact h1
theorem Kp.start {w0 w : World} {b : Nat} (hb : Blk w b 36 [nilS, nilS, nilS, nilS, nilS, nilS, nilS, nilS, nilS, nilS]) (hn : w0.heap.size ≤ b) (ho : Only [] w0 w) : Kp w0 w b [] [] :=
  ⟨⟨nilS, nilS, [], ⟨hb, World.ownsRow_nil _ _ _ _, World.ownsRow_nil _ _ _ _, ⟨rfl, fun i hi => by simp [kv] at hi⟩, ⟨rfl, fun i hi => by simp at hi⟩, fun g hg => by simp [Value.ownBlock] at hg, by simp [obs, kv]⟩,
    fun k hk => by simp [bfoot, obs, kv, Value.ownBlock] at hk; omega⟩, fun p hp => by simp at hp, by simp [obs, kv], fun k hk => by simp [obs, kv] at hk, fun p hp => by simp at hp, ho⟩
end
theorem Kp.keep {w0 w : World} {b n c : Nat} {m : List Int} {A : Option Addr} {K P : KL} (h : Hid (Kp w0 w b K ((.slice A n c, m) :: P))) (hn : (K.length : Int) < 250) :
    Calls Try.prog 10 #[.pointer (some ⟨b, 0, none⟩), .slice A n c] w fun e w' => e = .returned (.tuple #[]) ∧ Kp w0 w' b (K ++ [(.slice A n c, m)]) P ∧ ∀ v L, IntsAt w v L → IntsAt w' v L := by
  obtain ⟨un, uw, ws, hb, hf⟩ := h.out.bk
  have hu := h.out.pend _ (List.mem_cons_self)
  have hlen : m.length ≤ 700 := h.out.len (.slice A n c, m) (by simp)
  have hnn : n = m.length := (e_read hu).1
  have hnd := h.out.nd
  have hnot : ∀ g, (Value.slice A n c).ownBlock = some g → g ∉ obs (kv K) := by
    intro g hg hm
    rw [List.nodup_append] at hnd
    exact hnd.2.2 g hm g (obs_mem (p := (.slice A n c, m)) List.mem_cons_self hg) rfl
  refine (badd_any b un uw (kv K) ws (kl K) A n c m w hb hu hnot (by simpa [kv] using hn) (by omega)).mono ?_
  rintro e w' ⟨un', uw', x, rfl, hb', ho, hfo⟩
  have hkeep : ∀ v L, IntsAt w v L → IntsAt w' v L := fun v L hv => e_only hv ho (fun g hg hm => by
    obtain ⟨cs, f, hc⟩ := row_type hv hg
    simp only [List.mem_cons, List.mem_append, Option.mem_toList] at hm
    rcases hm with rfl | hm | hm
    · exact list_types hc hb.blk (by decide) rfl
    · obtain ⟨cs', f', hc'⟩ := row_type hb.rn hm
      exact list_types hc hc' (by decide) rfl
    · obtain ⟨cs', f', hc'⟩ := row_type hb.rc hm
      exact list_types hc hc' (by decide) rfl)
  refine ⟨rfl, ⟨⟨un', uw', ws ++ [x], ?_, ?_⟩, ?_, ?_, ?_, ?_, ?_⟩, hkeep⟩
  · simpa [kv, kl] using hb'
  · intro k hk
    have hk' : k ∈ bfoot b un' uw' (kv K ++ [.slice A n c]) (ws ++ [x]) := by simpa [kv] using hk
    rcases hfo k hk' with h1 | h1 | h1
    · exact hf k h1
    · have := h.out.only.size
      omega
    · exact h.out.new_ k (obs_mem (p := (.slice A n c, m)) List.mem_cons_self h1)
  · intro p hp
    have hp' := h.out.pend p (List.mem_cons_of_mem _ hp)
    refine e_only hp' ho (fun g hg hm => ?_)
    obtain ⟨cs, f, hc⟩ := row_type hp' hg
    simp only [List.mem_cons, List.mem_append, Option.mem_toList] at hm
    rcases hm with rfl | hm | hm
    · exact list_types hc hb.blk (by decide) rfl
    · obtain ⟨cs', f', hc'⟩ := row_type hb.rn hm
      exact list_types hc hc' (by decide) rfl
    · obtain ⟨cs', f', hc'⟩ := row_type hb.rc hm
      exact list_types hc hc' (by decide) rfl
  · have e : obs (kv (K ++ [(Value.slice A n c, m)])) ++ obs (kv P) = obs (kv K) ++ obs (kv ((Value.slice A n c, m) :: P)) := by
      simp [kv, obs]
    rw [e]
    exact hnd
  · intro k hk
    exact h.out.new_ k (by simp only [kv, List.map_cons, obs_cons, List.mem_append]; exact .inr hk)
  · intro p hp
    exact h.out.len p (by simpa [List.append_assoc] using hp)
  · refine h.out.only.trans ho (fun k hk => .inr ?_)
    simp only [List.mem_cons, List.mem_append, Option.mem_toList] at hk
    refine hf k ?_
    simp only [bfoot, List.mem_cons, List.mem_append, Option.mem_toList]
    rcases hk with h1 | h1 | h1
    · exact .inl h1
    · exact .inr (.inl h1)
    · exact .inr (.inr (.inl h1))
theorem Kp.apart {w0 w : World} {b : Nat} {K : KL} (h : Hid (Kp w0 w b K [])) (hn : (K.length : Int) ≤ 250) :
    Calls Try.prog 17 #[.pointer (some ⟨b, 0, none⟩)] w fun e w' => e = .returned (.bool true) ∧ Only [] w0 w' := by
  obtain ⟨un, uw, ws, hb, hf⟩ := h.out.bk
  refine (apart_any b un uw (kv K) ws (kl K) w hb (by simpa [kv] using hn) (fun i hi => ?_)).mono ?_
  · have hi' : i < K.length := by simpa [kv] using hi
    have e2 : (kl K)[i]?.getD [] = K[i].2 := by simp [kl, hi']
    rw [e2]
    exact h.out.len _ (List.mem_append_left _ (List.getElem_mem hi'))
  · rintro e w' ⟨rfl, ho⟩
    refine ⟨rfl, h.out.only.trans ho (fun k hk => .inr (hf k ?_))⟩
    simp only [bfoot, List.mem_cons, List.mem_append]
    exact .inr (.inr (.inr (.inl hk)))
end Go.Proofs.Ytljeaomdcednlaa
