/-
  How deep a number is: the plain law.
-/
import Derived.Test.YtljeaomdcednlaaTaWalkT
import Derived.Test.YtljeaomdcednlaaTaRoots
namespace Go.Proofs.Ytljeaomdcednlaa

def depF (ns : List Nd) : Nat → Int → Int
  | 0, _ => 0
  | m + 1, x => (kids (nodeAt ns x)).foldl (fun acc c => max acc (1 + depF ns m c)) 0
/-- How deep it is. -/
def dep (ns : List Nd) (x : Int) : Int := depF ns (x.toNat + 1) x

theorem kids_cases (n : Nd) : kids n = [] ∨ (∃ a, kids n = [a]) ∨ ∃ a b, kids n = [a, b] := by
  unfold kids
  split
  · exact .inl rfl
  · split
    · exact .inr (.inl ⟨_, rfl⟩)
    · exact .inr (.inr ⟨_, _, rfl⟩)
theorem depF_bd (ns : List Nd) : ∀ (m : Nat) (x : Int), 0 ≤ depF ns m x ∧ depF ns m x ≤ m
  | 0, x => by simp [depF]
  | m + 1, x => by
    have ih := depF_bd ns m
    unfold depF
    rcases kids_cases (nodeAt ns x) with h | ⟨a, h⟩ | ⟨a, b, h⟩ <;> rw [h] <;> simp only [List.foldl]
    · omega
    · have := ih a; omega
    · have := ih a; have := ih b; omega
theorem depF_more {ns : List Nd} (ok : OkDag ns) : ∀ (m m' : Nat) (x : Int), 0 ≤ x → x < ns.length → x < m → x < m' → depF ns m x = depF ns m' x
  | 0, _, x, h0, _, h2, _ => by omega
  | _ + 1, 0, x, h0, _, _, h3 => by omega
  | m + 1, m' + 1, x, h0, h1, h2, h3 => by
    have hk := ok x h0 h1
    unfold depF
    have e : ∀ c ∈ kids (nodeAt ns x), depF ns m c = depF ns m' c := fun c hc => by
      have := hk c hc
      exact depF_more ok m m' c this.1 (by omega) (by omega) (by omega)
    rcases kids_cases (nodeAt ns x) with h | ⟨a, h⟩ | ⟨a, b, h⟩ <;> rw [h] at e ⊢ <;> simp only [List.foldl]
    · rw [e a (by simp)]
    · rw [e a (by simp), e b (by simp)]
theorem dep_eq {ns : List Nd} (ok : OkDag ns) {x : Int} (h0 : 0 ≤ x) (h1 : x < ns.length) : dep ns x = (kids (nodeAt ns x)).foldl (fun acc c => max acc (1 + dep ns c)) 0 := by
  have hk := ok x h0 h1
  unfold dep
  rw [depF]
  have e : ∀ c ∈ kids (nodeAt ns x), depF ns x.toNat c = depF ns (c.toNat + 1) c := fun c hc => by
    have := hk c hc
    exact depF_more ok _ _ c this.1 (by omega) (by omega) (by omega)
  rcases kids_cases (nodeAt ns x) with h | ⟨a, h⟩ | ⟨a, b, h⟩ <;> rw [h] at e ⊢ <;> simp only [List.foldl]
  · rw [e a (by simp)]
  · rw [e a (by simp), e b (by simp)]
theorem dep_bd {ns : List Nd} (x : Int) (h0 : 0 ≤ x) (h1 : x < ns.length) : 0 ≤ dep ns x ∧ dep ns x ≤ ns.length := by
  have := depF_bd ns (x.toNat + 1) x
  unfold dep
  omega

/-- What is known besides: the operands of each stand before it, and it does not. -/
theorem ids_kids {ns : List Nd} (ok : OkDag ns) {R : Int → Prop} {k : Nat} (hk : k < (belowL ns R).length) :
    (∀ c ∈ kids (nodeAt ns ((belowL ns R)[k]?.getD 0)), c ∈ (belowL ns R).take k) ∧ (belowL ns R)[k]?.getD 0 ∉ (belowL ns R).take k := by
  have hp := belowL_asc ns R
  rw [List.pairwise_iff_getElem] at hp
  rw [List.getElem?_eq_getElem hk, Option.getD_some]
  have hm : (belowL ns R)[k] ∈ belowL ns R := List.getElem_mem hk
  have hr := (mem_belowL ok).1 hm
  constructor
  · intro c hc
    have h1 := hr.kid _ c hc
    have h2 := ok _ (hr.range ok).1 (hr.range ok).2 c hc
    obtain ⟨j, hj, e⟩ := List.getElem_of_mem ((mem_belowL ok).2 h1)
    have hjk : j < k := by
      by_cases hjk : j < k
      · exact hjk
      · by_cases e2 : j = k
        · subst e2; omega
        · have := hp k j hk hj (by omega); omega
    rw [List.mem_take_iff_getElem]
    exact ⟨j, by omega, e⟩
  · intro hm
    rw [List.mem_take_iff_getElem] at hm
    obtain ⟨j, hj, e⟩ := hm
    have := hp j k (by omega) hk (by omega)
    omega

theorem take_snoc_mem {L : List Int} {k : Nat} (hk : k < L.length) (y : Int) : y ∈ L.take (k + 1) ↔ y ∈ L.take k ∨ y = L[k]?.getD 0 := by
  rw [List.take_succ_eq_append_getElem hk, List.mem_append, List.getElem?_eq_getElem hk]
  simp
end Go.Proofs.Ytljeaomdcednlaa
