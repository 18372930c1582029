/-
  The Book's lists of Ints: what they are in memory.
-/
import Derived.Test.YtljeaomdcednlaaTaInts
namespace Go.Proofs.Ytljeaomdcednlaa
open Go.RowKit

abbrev nilS : Value := .slice none 0 0
theorem vs_len (xs : List Int) : (ints xs).length = xs.length := by simp [ints]
theorem vs_get (xs : List Int) (k : Nat) (h : k < xs.length) : (ints xs)[k]? = some (.int .i64 (xs[k]?.getD 0)) := by simp [ints, h]
theorem vs_add (xs ys : List Int) : ints (xs ++ ys) = ints xs ++ ints ys := by simp [ints]
theorem vs_one (xs : List Int) : ∀ v ∈ ints xs, v.oneCell' = true := by
  intro v hv
  simp only [ints, List.mem_map] at hv
  obtain ⟨x, _, rfl⟩ := hv
  rfl
theorem addr_k (b o j : Nat) : (⟨b, o, none⟩ : Addr).add j = ⟨b, o + j, none⟩ := by
  unfold Addr.add
  by_cases h : j = 0 <;> simp [h]
theorem e_only {w w' : World} {u : Value} {xs : List Int} {S : List Nat} (h : IntsAt w u xs) (ho : Only S w w') (hn : ∀ g, u.ownBlock = some g → g ∉ S) : IntsAt w' u xs := by
  rcases h with ⟨h0, h1 | ⟨g, cap, cur, rfl, hb, hg, h2⟩⟩
  · exact ⟨h0, .inl h1⟩
  · exact ⟨h0, .inr ⟨g, cap, cur, rfl, hb, ho.heap hg (hn g rfl), h2⟩⟩
theorem e_shape {w : World} {u : Value} {xs : List Int} (h : IntsAt w u xs) : ∃ A c, u = .slice A xs.length c ∧ xs.length ≤ c ∧ c ≤ maxLen ∧ (∀ k, k < xs.length → ∃ g, A = some ⟨g, 0, none⟩ ∧ w.cell? ⟨g, k, none⟩ = some (.int .i64 (xs[k]?.getD 0))) := by
  rcases h.2 with ⟨rfl, h0⟩ | ⟨g, cap, cur, rfl, _, hg, hn, hm, _⟩
  · exact ⟨none, 0, by rw [h0], by omega, by simp [maxLen], fun k hk => by omega⟩
  · refine ⟨_, cap, rfl, hn, hm, fun k hk => ⟨g, rfl, ?_⟩⟩
    have hc := World.ownsRow.cells h (g := g) rfl
    have h1 := hc k _ (vs_get _ _ hk)
    rw [addr_k, Nat.zero_add] at h1
    exact h1
theorem e_read {w : World} {A : Option Addr} {n c : Nat} {xs : List Int} (h : IntsAt w (.slice A n c) xs) : n = xs.length ∧ IRead w A xs := by
  obtain ⟨A', c', e, _, _, hc⟩ := e_shape h
  injection e with e1 e2 e3
  subst e1
  refine ⟨e2, fun k hk => ?_⟩
  obtain ⟨g, h1, h2⟩ := hc k hk
  exact ⟨g, 0, h1, by rw [Nat.zero_add]; exact h2⟩
/-- A row of lists. -/
def ListsRow (w : World) (u : Value) (us : List Value) : Prop := w.ownsRow 0 22 1 u us.length us
/-- The blocks of lists. -/
def obs (us : List Value) : List Nat := us.flatMap fun u => u.ownBlock.toList
theorem obs_snoc (us : List Value) (u : Value) : obs (us ++ [u]) = obs us ++ u.ownBlock.toList := by simp [obs]
theorem mem_obs {us : List Value} {k : Nat} : k ∈ obs us ↔ ∃ i, i < us.length ∧ (us[i]?.getD nilS).ownBlock = some k := by
  unfold obs
  rw [List.mem_flatMap]
  constructor
  · rintro ⟨u, hu, hk⟩
    obtain ⟨i, hi, rfl⟩ := List.getElem_of_mem hu
    exact ⟨i, hi, by rw [List.getElem?_eq_getElem hi]; simpa using hk⟩
  · rintro ⟨i, hi, hk⟩
    refine ⟨us[i], List.getElem_mem hi, ?_⟩
    rw [List.getElem?_eq_getElem hi] at hk
    simpa using hk

/-- Lists in memory of their own. -/
structure Lists (w : World) (us : List Value) (Ls : List (List Int)) : Prop where
  len : us.length = Ls.length
  at_ : ∀ i, i < us.length → IntsAt w (us[i]?.getD nilS) (Ls[i]?.getD [])
theorem Lists.only {w w' : World} {us : List Value} {Ls : List (List Int)} {S : List Nat} (h : Lists w us Ls) (ho : Only S w w') (hn : ∀ k ∈ obs us, k ∉ S) : Lists w' us Ls :=
  ⟨h.len, fun i hi => e_only (h.at_ i hi) ho (fun g hg => hn g (mem_obs.2 ⟨i, hi, hg⟩))⟩
theorem Lists.lt {w : World} {us : List Value} {Ls : List (List Int)} (h : Lists w us Ls) : ∀ k ∈ obs us, k < w.heap.size := by
  intro k hk
  obtain ⟨i, hi, hb⟩ := mem_obs.1 hk
  exact (World.ownsRow.lt (h.at_ i hi) k hb).2
theorem get_snoc {α : Type} (l : List α) (x d : α) (i : Nat) (h : i < l.length + 1) : (l ++ [x])[i]?.getD d = if i < l.length then l[i]?.getD d else x := by
  by_cases e : i < l.length
  · rw [if_pos e, List.getElem?_append_left e]
  · rw [if_neg e, List.getElem?_append_right (by omega), show i - l.length = 0 by omega]
    simp
theorem Lists.snoc {w : World} {us : List Value} {Ls : List (List Int)} {u : Value} {L : List Int} (h : Lists w us Ls) (hu : IntsAt w u L) : Lists w (us ++ [u]) (Ls ++ [L]) := by
  refine ⟨by simp [h.len], fun i hi => ?_⟩
  have hl := h.len
  simp only [List.length_append, List.length_singleton] at hi
  rw [get_snoc us u nilS i hi, get_snoc Ls L [] i (by omega), ← hl]
  by_cases e : i < us.length
  · rw [if_pos e, if_pos e]
    exact h.at_ i e
  · rw [if_neg e, if_neg e]
    exact hu
theorem ListsRow.shape {w : World} {u : Value} {us : List Value} (h : ListsRow w u us) : ∃ A c, u = .slice A us.length c ∧ ∀ k, k < us.length → ∃ g, A = some ⟨g, 0, none⟩ ∧ w.cell? ⟨g, k, none⟩ = some (us[k]?.getD nilS) := by
  rcases h.2 with ⟨rfl, h0⟩ | ⟨g, cap, cur, rfl, _, hg, hn, hm, _⟩
  · exact ⟨none, 0, by rw [h0], fun k hk => by omega⟩
  · refine ⟨_, cap, rfl, fun k hk => ⟨g, rfl, ?_⟩⟩
    have hc := World.ownsRow.cells h (g := g) rfl
    have h1 := hc k (us[k]?.getD nilS) (by simp [hk])
    rw [addr_k, Nat.zero_add] at h1
    exact h1
theorem row_only {w w' : World} {base n size : Nat} {e : TypeId} {u : Value} {us : List Value} {S : List Nat} (h : w.ownsRow base e size u n us) (ho : Only S w w') (hn : ∀ g, u.ownBlock = some g → g ∉ S) : w'.ownsRow base e size u n us := by
  rcases h with ⟨h0, h1 | ⟨g, cap, cur, rfl, hb, hg, h2⟩⟩
  · exact ⟨h0, .inl h1⟩
  · exact ⟨h0, .inr ⟨g, cap, cur, rfl, hb, ho.heap hg (hn g rfl), h2⟩⟩
theorem ListsRow.only {w w' : World} {u : Value} {us : List Value} {S : List Nat} (h : ListsRow w u us) (ho : Only S w w') (hn : ∀ g, u.ownBlock = some g → g ∉ S) : ListsRow w' u us := row_only h ho hn
theorem ListsRow.lt {w : World} {u : Value} {us : List Value} (h : ListsRow w u us) : ∀ g, u.ownBlock = some g → g < w.heap.size := fun g hg => (World.ownsRow.lt h g hg).2

/-- The blocks of a Book. -/
def bfoot (b : Nat) (un uw : Value) (us ws : List Value) : List Nat := b :: (un.ownBlock.toList ++ (uw.ownBlock.toList ++ (obs us ++ obs ws)))
/-- A Book in which lists of Ints alone have been kept, and copies of them. -/
structure BookIs (w : World) (b : Nat) (un uw : Value) (us ws : List Value) (Ls : List (List Int)) : Prop where
  blk : Blk w b 36 [un, uw, nilS, nilS, nilS, nilS, nilS, nilS, nilS, nilS]
  rn : ListsRow w un us
  rc : ListsRow w uw ws
  ln : Lists w us Ls
  lc : Lists w ws Ls
  ap : ∀ g, un.ownBlock = some g → uw.ownBlock ≠ some g
  nd : (obs us).Nodup
theorem BookIs.only {w w' : World} {S : List Nat} {b : Nat} {un uw : Value} {us ws : List Value} {Ls : List (List Int)} (h : BookIs w b un uw us ws Ls) (ho : Only S w w') (hn : ∀ k ∈ bfoot b un uw us ws, k ∉ S) : BookIs w' b un uw us ws Ls :=
  ⟨h.blk.only ho (hn b (by simp [bfoot])), h.rn.only ho (fun g hg => hn g (by simp [bfoot, hg])), h.rc.only ho (fun g hg => hn g (by simp [bfoot, hg])),
    h.ln.only ho (fun k hk => hn k (by simp [bfoot, hk])), h.lc.only ho (fun k hk => hn k (by simp [bfoot, hk])), h.ap, h.nd⟩
theorem Try.listInfo : (Try.prog.info? 22).map (fun i => (i.zero, i.size, i.bytes)) = some (some nilS, 1, 24) := by kernel_rfl
theorem list_parts : ∃ i : TypeInfo, Try.prog.info? 22 = some i ∧ i.zero = some nilS ∧ i.size = 1 ∧ i.bytes = 24 := by
  obtain ⟨i, h, e⟩ := Option.map_eq_some_iff.1 Try.listInfo
  simp only [Prod.mk.injEq] at e
  exact ⟨i, h, e.1, e.2.1, e.2.2⟩

/-- What one more list leaves. -/
def BnPost (b : Nat) (un uw : Value) (us ws : List Value) (Ls : List (List Int)) (u : Value) (L : List Int) (w : World) (e : Ending) (w' : World) : Prop :=
  ∃ un' uw' x, e = .returned (.tuple #[]) ∧ BookIs w' b un' uw' (us ++ [u]) (ws ++ [x]) (Ls ++ [L]) ∧ Only (b :: (un.ownBlock.toList ++ uw.ownBlock.toList)) w w' ∧
    ∀ k ∈ bfoot b un' uw' (us ++ [u]) (ws ++ [x]), k ∈ bfoot b un uw us ws ∨ w.heap.size ≤ k ∨ u.ownBlock = some k

theorem list_types {w : World} {g g' : Nat} {t t' : TypeId} {cs cs' : Array Value} {f f' : Nat × Nat} (h : w.heap[g]? = some (.cells cs t f)) (h' : w.heap[g']? = some (.cells cs' t' f')) (ht : t ≠ t') : g ≠ g' := by
  rintro rfl
  rw [h] at h'
  injection h' with h'
  injection h' with _ h1
  exact ht h1
theorem row_type {w : World} {base n size : Nat} {e : TypeId} {v : Value} {xs : List Value} (h : w.ownsRow base e size v n xs) {g : Nat} (hg : v.ownBlock = some g) : ∃ cs f, w.heap[g]? = some (.cells cs e f) := by
  rcases h.2 with ⟨rfl, _⟩ | ⟨g', cap, cur, rfl, _, h1, _⟩
  · simp [Value.ownBlock] at hg
  · have e : g' = g := by simpa [Value.ownBlock] using hg
    subst e
    exact ⟨_, _, h1⟩
end Go.Proofs.Ytljeaomdcednlaa
