/-
  The reference's numbers: Trim, From, Limbs; SameLimbs and Is.
-/
import Derived.Test.YtcknigodcjjahaaDoorRVal
import Derived.Test.YtcknigodcjjahaaDoorGNV
import Derived.StillTailTactics
namespace Go.Proofs.YtcknigodcjjahaaDoor
open Go.RowKit

/-- A reference's number: its digits, none of 0 at the end. -/
def RV (w : World) (v : Value) (n : Nat) : Prop := ∃ A c, v = .slice A (R.limbsOf n).length c ∧ LRead w A (R.limbsOf n) ∧ (R.limbsOf n).length ≤ c
theorem RV.only {w w' : World} {v : Value} {n : Nat} (h : RV w v n) (ho : Only [] w w') : RV w' v n := by
  obtain ⟨A, c, h1, h2, h3⟩ := h
  exact ⟨A, c, h1, h2.only ho, h3⟩
theorem RV.nil (w : World) : RV w (.slice none 0 0) 0 := ⟨none, 0, by rw [R.limbsOf_zero]; rfl, by rw [R.limbsOf_zero]; exact LRead.nil, by rw [R.limbsOf_zero]; simp⟩
/-- How many digits a number has that is not too great. -/
theorem Few.digits {n : Nat} (h : Few n) : ((R.limbsOf n).length : Int) ≤ 2000000 := by
  have h1 : n < R.BB ^ (2 * MX) := by
    rw [Nat.pow_mul, Nat.pow_two, ← R.bb_sq]
    exact h
  have h2 := R.limbsOf_len_le h1
  rw [MX_val] at h2
  omega
/-- What a reference's function leaves that tells a number. -/
def RPost (n : Nat) (w : World) (e : Ending) (w' : World) : Prop := ∃ A k c, e = .returned (.slice A k c) ∧ RV w' (.slice A k c) n ∧ (∀ a, A = some a → w.heap.size ≤ a.block) ∧ Only [] w w'

/-- One limb, or two, behind a row of the call's own. -/
theorem append_limbs {w : World} {ops : Array Oper} {rest : List Oper} {o : Oper} {a : Act} {Q : Exit → Act → World → Prop} (T : TypeId) (hT : Tryd.prog.underlying T = some (.slice 59)) (hgd : o.guard = none) (s x : Operand)
    (ho : o.op = .call { callee := .builtin .append, args := #[s, x], argTypes := #[T, T] }) (u : Value) (n : Nat) (xs zs : List Nat) (hs : a.eval s = u) (hu : LimbsAt w u xs) (hn : n = xs.length) (g m : Nat) (hx : a.eval x = .slice (some ⟨g, 0, none⟩) m m) (hm : m = zs.length) (hm0 : 0 < zs.length) (hb : Blk w g 59 (limbV zs))
    (hl : (n : Int) + m ≤ 16000000)
    (h : ∀ g' c w', LimbsAt w' (.slice (some ⟨g', 0, none⟩) (n + m) c) (xs ++ zs) → (u.ownBlock = some g' ∨ w.heap.size ≤ g') → Only u.ownBlock.toList w w' → wpList Tryd.prog ops Q rest (a.put o.dst (.slice (some ⟨g', 0, none⟩) (n + m) c)) w') : wpList Tryd.prog ops Q (o :: rest) a w := by
  subst hn hm
  obtain ⟨i0, hi, hz0, hz1, hz2⟩ := u64_parts
  refine wpList_append_own_at _ hgd s x T ho 0 59 i0 (.int .u64 0) 1 8 hT hi hz0 hz1 hz2 rfl (by decide) u xs.length (limbV xs) hs hu ⟨g, 0, none⟩ zs.length zs.length (limbV zs) hx (by simp [limbV]) (fun j v hj => by rw [addr_plus, hb.cell, Nat.zero_add]; exact hj) (by simp [limbV, Value.oneCell']) (by simp only [maxLen]; omega) (by omega) (Nat.zero_le _) ?_
  intro v' w' h1 h2 _ h4
  obtain ⟨g', c, rfl⟩ : ∃ g' c, v' = Value.slice (some ⟨g', 0, none⟩) (xs.length + zs.length) c := by
    rcases h1.2 with ⟨_, h0⟩ | ⟨gp, cap, cur, hv, _⟩
    · exact absurd h0 (by omega)
    · exact ⟨_, _, hv⟩
  refine h g' c w' ?_ ?_ (Only.of_grown h2 (fun k hk => by rw [hk]; simp))
  · have e : limbV (xs ++ zs) = limbV xs ++ limbV zs := by simp [limbV]
    show World.ownsRow _ _ _ _ _ _ _
    rw [e, List.length_append]
    exact h1
  · rcases h4 with h5 | h5
    · left; rw [← h5]; rfl
    · right
      simp [Value.ownBlock] at h5
      omega

theorem slice_three (A : Option Addr) (n c m : Nat) (h : m ≤ c) (w : World) : (Instr.slice 25 (.slice A n c) none (some (.int .i64 (m : Int))) (some (.int .i64 (m : Int)))).run Tryd.prog w = .ok (.slice A m m) w := by
  have hs : (sizeOf (Tryd.prog.elem 25)).run Tryd.prog w = .ok 1 w := by kernel_rfl
  rw [run_slice_hm (P := Tryd.prog) (w := w) 25 A n c (by kernel_rfl) .i64 .i64 (m : Int) (m : Int) (by omega) (by omega) (by omega), hs]
  simp only [Result.andThen, sliced, Int.toNat_natCast]
  cases A <;> simp [Addr.add]

set_option maxHeartbeats 800000 in
set_option maxRecDepth 100000 in
theorem rtrim_any (A : Option Addr) (n c : Nat) (xs : List Nat) (w : World) (h : Hid (LRead w A xs)) (hx : Hid (R.Limb xs)) (hn : Hid (n = xs.length)) (hc : n ≤ c) (hl : (n : Int) ≤ 8000000) :
    Calls Tryd.prog 70 #[.slice A n c] w fun e w' => e = .returned (.slice A (R.limbsOf (R.val xs)).length (R.limbsOf (R.val xs)).length) ∧ w = w' := by
  go_enter Tryd.func70, Tryd.ntmps70
  go_wp2_with fail
  go_loop [3] (fun t => ∃ k : Nat, k ≤ n ∧ t = .int .i64 (k : Int) ∧ ∀ j, k ≤ j → j < xs.length → xs[j]?.getD 0 = 0) (fun t => (intOf t).toNat)
  case atStart => exact ⟨n, Nat.le_refl _, rfl, fun j h1 h2 => by have := hn.out; omega⟩
  case round =>
    obtain ⟨k, hk, rfl, hz⟩ := hrel
    have HZ := Lib.hid hz
    clear hz
    cases k with
    | zero =>
      have HE : Hid ((R.limbsOf (R.val xs)).length = 0) := (R.trim_stop hx.out 0 (Nat.zero_le _) HZ.out (fun h => by omega)).1
      have h3 : (Instr.slice 25 (.slice A n c) none (some (.int .i64 0)) (some (.int .i64 0))).run Tryd.prog w = .ok (.slice A 0 0) w := slice_three A n c 0 (Nat.zero_le _) w
      go_wp2_with fail
      go_ret
      exact ⟨by rw [HE.out]; rfl, rfl⟩
    | succ m =>
      obtain ⟨b, o, rfl, hcell⟩ := h.out m (by have := hn.out; omega)
      have hm1 : ((m + 1 : Nat) : Int) - 1 = (m : Int) := by omega
      have hm2 : (0 : Int) < ((m + 1 : Nat) : Int) := by omega
      have hm3 : (m : Int) < (n : Int) := by omega
      by_cases h0 : xs[m]?.getD 0 = 0
      · have HZ' : Hid (∀ j, m ≤ j → j < xs.length → xs[j]?.getD 0 = 0) := fun j h1 h2 => by
          by_cases e : j = m
          · rw [e]; exact h0
          · exact HZ.out j (by omega) h2
        rw [h0] at hcell
        clear h0
        go_wp2_with fail
        go_round
        case rel => exact ⟨m, by omega, by go_num, HZ'.out⟩
        case measure => simp [intOf]
      · have HE : Hid ((R.limbsOf (R.val xs)).length = m + 1) := (R.trim_stop hx.out (m + 1) (by have := hn.out; omega) HZ.out (fun _ => by simpa using h0)).1
        have g0 : (((xs[m]?.getD 0 : Nat) : Int) == 0) = false := beq_eq_false_iff_ne.2 (by omega)
        have h3 := slice_three (some ⟨b, o, none⟩) n c (m + 1) (by omega) w
        generalize xs[m]?.getD 0 = x at hcell g0
        clear h0
        go_wp2_with fail
        go_ret
        exact ⟨by rw [HE.out]; rfl, rfl⟩
end Go.Proofs.YtcknigodcjjahaaDoor
