/-
  WalkOrders: the plain law.
-/
import Derived.Test.YtaifgjkbagcbeaaDepT
import Derived.Test.YtaifgjkbagcbeaaDepth
namespace Go.Proofs.Ytaifgjkbagcbeaa

theorem Reach.mono {ns : List Nd} {R R' : Int → Prop} (h : ∀ x, R x → R' x) {x : Int} (hx : Reach ns R x) : Reach ns R' x := by
  induction hx with
  | root x hr h0 h1 => exact .root x (h x hr) h0 h1
  | kid x c _ hc ih => exact .kid x c ih hc
theorem Reach.le {ns : List Nd} (ok : OkDag ns) {a : Int} {x : Int} (hx : Reach ns (· ∈ [a]) x) : x ≤ a := by
  induction hx with
  | root x hr h0 h1 =>
    have : x = a := by simpa using hr
    omega
  | kid x c h hc ih =>
    have h1 := h.range ok
    have := ok x h1.1 h1.2 c hc
    omega
theorem Reach.trans {ns : List Nd} {R : Int → Prop} {c x : Int} (hc : Reach ns R c) (hx : Reach ns (· ∈ [c]) x) : Reach ns R x := by
  induction hx with
  | root x hr h0 h1 =>
    have : x = c := by simpa using hr
    exact this ▸ hc
  | kid x c _ hk ih => exact .kid x c ih hk
theorem nodup_sub : ∀ (xs ys : List Int), xs.Nodup → (∀ x ∈ xs, x ∈ ys) → xs.length ≤ ys.length
  | [], _, _, _ => Nat.zero_le _
  | x :: xs, ys, hn, h => by
    rw [List.nodup_cons] at hn
    have h1 := nodup_sub xs (ys.erase x) hn.2 (fun z hz => by
      have h2 := h z (by simp [hz])
      have h3 : z ≠ x := fun e => hn.1 (e ▸ hz)
      exact (List.mem_erase_of_ne h3).2 h2)
    rw [List.length_erase_of_mem (h x (by simp))] at h1
    have : 0 < ys.length := List.length_pos_of_mem (h x (by simp))
    simp only [List.length_cons]
    omega
theorem asc_nodup {xs : List Int} (h : xs.Pairwise (· < ·)) : xs.Nodup := h.imp (fun h e => by omega)
theorem dep_below {ns : List Nd} (ok : OkDag ns) : ∀ (m : Nat) (x : Int), 0 ≤ x → x < ns.length → x < m → dep ns x + 1 ≤ (belowOf ns x).length
  | 0, x, h0, _, h2 => by omega
  | m + 1, x, h0, h1, h2 => by
    have hx : x ∈ belowOf ns x := (mem_belowL ok).2 (.root x (by simp) h0 h1)
    have hpos : 0 < (belowOf ns x).length := List.length_pos_of_mem hx
    have key : ∀ c ∈ kids (nodeAt ns x), 1 + dep ns c + 1 ≤ (belowOf ns x).length := by
      intro c hc
      have hcx := ok x h0 h1 c hc
      have ih := dep_below ok m c hcx.1 (by omega) (by omega)
      have hlen := nodup_sub (x :: belowOf ns c) (belowOf ns x) (by
        rw [List.nodup_cons]
        refine ⟨fun hm => ?_, asc_nodup (belowL_asc ns _)⟩
        have := ((mem_belowL ok).1 hm).le ok
        omega) (by
        intro z hz
        rcases List.mem_cons.1 hz with rfl | hz
        · exact hx
        · exact (mem_belowL ok).2 ((Reach.kid x c ((mem_belowL ok).1 hx) hc).trans ((mem_belowL ok).1 hz)))
      simp only [List.length_cons] at hlen
      omega
    rw [dep_eq ok h0 h1]
    rcases kids_cases (nodeAt ns x) with h | ⟨a, h⟩ | ⟨a, b, h⟩ <;> rw [h] at key ⊢ <;> simp only [List.foldl]
    · omega
    · have := key a (by simp); omega
    · have := key a (by simp); have := key b (by simp); omega

theorem getD_mem {L : List Int} {k : Nat} (h : k < L.length) : L[k]?.getD 0 ∈ L := by
  rw [List.getElem?_eq_getElem h]
  exact List.getElem_mem h
theorem asc_step {L : List Int} (h : L.Pairwise (· < ·)) {i j : Nat} (hij : i < j) (hj : j < L.length) : L[i]?.getD 0 < L[j]?.getD 0 := by
  rw [List.pairwise_iff_getElem] at h
  rw [List.getElem?_eq_getElem (by omega), List.getElem?_eq_getElem hj]
  exact h i j (by omega) hj hij

/-- What the law asks of the two lists. -/
structure OrdOk (ns : List Nd) (a b : Int) (X Y : List Int) : Prop where
  sub : ∀ x ∈ X, x ∈ Y
  ha : a ∈ Y
  hb : b ∈ Y
  ne : 0 < X.length
  last : X[X.length - 1]?.getD 0 = a
  dep : depOf ns a < X.length
  idsX : Ids ns X
  idsY : Ids ns Y
  asc : ∀ k, 0 < k → k < Y.length → Y[k - 1]?.getD 0 < Y[k]?.getD 0
  kids : ∀ k, k < Y.length → ∀ c ∈ kids (nodeAt ns (Y[k]?.getD 0)), c ∈ Y.take k
theorem ord_ok {ns : List Nd} (ok : OkDag ns) {a b : Int} (ha : 0 ≤ a ∧ a < ns.length) (hb : 0 ≤ b ∧ b < ns.length) : OrdOk ns a b (belowOf ns a) (belowL ns (· ∈ [a, b])) := by
  have hax : a ∈ belowOf ns a := (mem_belowL ok).2 (.root a (by simp) ha.1 ha.2)
  have hpos : 0 < (belowOf ns a).length := List.length_pos_of_mem hax
  refine ⟨fun x hx => (mem_belowL ok).2 (((mem_belowL ok).1 hx).mono (fun y hy => by simp at hy ⊢; exact .inl hy)), (mem_belowL ok).2 (.root a (by simp) ha.1 ha.2), (mem_belowL ok).2 (.root b (by simp) hb.1 hb.2), hpos, ?_, ?_, belowL_ids ok _, belowL_ids ok _,
    fun k h0 hk => asc_step (belowL_asc ns _) (by omega) hk, fun k hk => (ids_kids ok hk).1⟩
  · have h1 := ((mem_belowL ok).1 (getD_mem (L := belowOf ns a) (k := (belowOf ns a).length - 1) (by omega))).le ok
    obtain ⟨j, hj, e⟩ := List.getElem_of_mem hax
    by_cases hjl : j = (belowOf ns a).length - 1
    · rw [← hjl, List.getElem?_eq_getElem hj]
      exact e
    · have h2 := asc_step (belowL_asc ns (· ∈ [a])) (i := j) (j := (belowOf ns a).length - 1) (by omega) (by show _ < (belowOf ns a).length; omega)
      have h3 : (belowL ns (· ∈ [a]))[j]?.getD 0 = a := by
        have : (belowOf ns a)[j]?.getD 0 = a := by rw [List.getElem?_eq_getElem hj]; exact e
        exact this
      rw [h3] at h2
      have h4 : (belowL ns (· ∈ [a]))[(belowOf ns a).length - 1]?.getD 0 = (belowOf ns a)[(belowOf ns a).length - 1]?.getD 0 := rfl
      rw [h4] at h2
      omega
  · have := dep_below ok ns.length a ha.1 ha.2 (by omega)
    unfold depOf
    rw [if_pos hax]
    omega
end Go.Proofs.Ytaifgjkbagcbeaa
