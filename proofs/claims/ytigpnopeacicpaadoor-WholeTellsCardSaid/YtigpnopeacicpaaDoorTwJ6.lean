/-
  Joined texts.
-/
import Derived.Test.YtigpnopeacicpaaDoorTwGVal
import Derived.Lib.ItoaNum
import Derived.Lib.Repeat
import Derived.Lib.ItoaLen
import Derived.Test.YtigpnopeacicpaaDoorTwJ0
import Derived.Test.YtigpnopeacicpaaDoorTwShelf
import Derived.Lib.FrozenHead
import Derived.Lib.ItoaMem
import Derived.Test.YtigpnopeacicpaaDoorTwGNatC
import Derived.Test.YtigpnopeacicpaaDoorRows
import Derived.JoinedOf
import Derived.LaidLaws
import Derived.LaidHandle
import Derived.Stop.Joined
import Derived.Stop.LaidErr
import Derived.Lib.LaidTab
import Derived.ChangeVars
import Derived.ProofKit
import Derived.OpenShut
import Derived.ShutString
import Derived.ChangeOld
import Derived.Below
import Derived.Deep.Slices
import Derived.Deep.Fields
import Derived.ChangeSame
/-
  Decimal digits, in parts of 19: the plain law (no program in sight).
-/
namespace Go.Proofs.YtigpnopeacicpaaDoor
open Go.Lib

def CH : Nat := 10000000000000000000
theorem CH_val : CH = 10000000000000000000 := rfl
theorem CH_pow : CH = 10 ^ 19 := by decide
theorem CH_pos : 0 < CH := by decide
theorem CH_two : 2 ≤ CH := by decide
attribute [irreducible] CH

def padL : Nat → Nat → List UInt8
  | 0, _ => []
  | k + 1, m => padL k (m / 10) ++ [UInt8.ofNat (48 + m % 10)]
theorem padL_length : ∀ k m : Nat, (padL k m).length = k
  | 0, _ => rfl
  | k + 1, m => by simp [padL, padL_length k]
theorem padL_zero : ∀ k : Nat, padL k 0 = List.replicate k 48
  | 0 => rfl
  | k + 1 => by rw [padL, show 0 / 10 = 0 from rfl, padL_zero k, List.replicate_succ']; rfl
theorem dec_step {u : Nat} (h : ¬ u < 10) : decDigits u = decDigits (u / 10) ++ [UInt8.ofNat (48 + u % 10)] := by rw [decDigits, dif_neg h]
theorem dec_small {u : Nat} (h : u < 10) : decDigits u = [UInt8.ofNat (48 + u)] := by rw [decDigits, dif_pos h]
theorem pad_eq : ∀ (k m : Nat), (decDigits m).length ≤ k → padL k m = List.replicate (k - (decDigits m).length) 48 ++ decDigits m
  | 0, m, h => by
    have := nDigits_pos m
    rw [decDigits_length] at h
    omega
  | k + 1, m, h => by
    by_cases hm : m < 10
    · rw [dec_small hm, padL, show m / 10 = 0 by omega, padL_zero, Nat.mod_eq_of_lt hm]
      simp
    · rw [dec_step hm] at h ⊢
      simp only [List.length_append, List.length_cons, List.length_nil] at h ⊢
      rw [padL, pad_eq k (m / 10) (by omega), List.append_assoc]
      congr 2
      omega
theorem dec_pad : ∀ (k q r : Nat), q ≠ 0 → r < 10 ^ k → decDigits (r + 10 ^ k * q) = decDigits q ++ padL k r
  | 0, q, r, _, h => by
    have : r = 0 := by simpa using h
    simp [this, padL]
  | k + 1, q, r, hq, h => by
    rw [Nat.pow_succ] at h
    have e : r + 10 ^ (k + 1) * q = 10 * (r / 10 + 10 ^ k * q) + r % 10 := by
      have := Nat.div_add_mod r 10
      rw [Nat.pow_succ, Nat.mul_add, Nat.mul_comm (10 ^ k) 10, Nat.mul_assoc]
      omega
    have hp : 0 < 10 ^ k := Nat.pow_pos (by omega)
    have h1 : 1 ≤ 10 ^ k * q := Nat.mul_pos hp (by omega)
    generalize hz : r / 10 + 10 ^ k * q = z at e
    have hb : ¬ 10 * z + r % 10 < 10 := by omega
    rw [e, dec_step hb, show (10 * z + r % 10) / 10 = z by omega, show (10 * z + r % 10) % 10 = r % 10 by omega, ← hz, dec_pad k q (r / 10) hq (by omega), padL, List.append_assoc]
theorem dec_chunk {n : Nat} (h : n / CH ≠ 0) : decDigits n = decDigits (n / CH) ++ padL 19 (n % CH) := by
  have h1 := Nat.mod_add_div n CH
  have h2 := Nat.mod_lt n CH_pos
  rw [CH_pow] at h h1 h2 ⊢
  have := dec_pad 19 (n / 10 ^ 19) (n % 10 ^ 19) h h2
  rw [h1] at this
  exact this

def chunks (n : Nat) : List Nat := if _h : n = 0 then [] else n % CH :: chunks (n / CH)
termination_by n
decreasing_by exact Nat.div_lt_self (by omega) CH_two
theorem chunks_zero : chunks 0 = [] := by rw [chunks]; rfl
theorem chunks_pos {n : Nat} (h : n ≠ 0) : chunks n = n % CH :: chunks (n / CH) := by rw [chunks, dif_neg h]
structure Cut (n : Nat) (ps : List Nat) (q : Nat) : Prop where
  all : chunks n = ps ++ chunks q
  q_eq : q = n / CH ^ ps.length
  lt : ∀ x ∈ ps, x < CH
  nz : n ≠ 0
theorem Cut.start {n : Nat} (h : n ≠ 0) : Cut n [] n := ⟨rfl, by simp, by simp, h⟩
theorem Cut.step {n q : Nat} {ps : List Nat} (h : Cut n ps q) (hq : q ≠ 0) : Cut n (ps ++ [q % CH]) (q / CH) := by
  refine ⟨by rw [h.all, chunks_pos hq, List.append_assoc]; rfl, ?_, ?_, h.nz⟩
  · rw [h.q_eq, List.length_append, List.length_cons, List.length_nil, Nat.pow_add, Nat.pow_one, Nat.div_div_eq_div_mul]
  · intro x hx
    rcases List.mem_append.1 hx with h1 | h1
    · exact h.lt x h1
    · rw [List.mem_singleton.1 h1]
      exact Nat.mod_lt _ CH_pos
theorem chunks_get : ∀ (k n : Nat), (chunks n)[k]?.getD 0 = n / CH ^ k % CH
  | 0, n => by
    by_cases h : n = 0
    · simp [h, chunks_zero]
    · simp [chunks_pos h]
  | k + 1, n => by
    by_cases h : n = 0
    · simp [h, chunks_zero]
    · rw [chunks_pos h, List.getElem?_cons_succ, chunks_get k, Nat.div_div_eq_div_mul, Nat.pow_succ, Nat.mul_comm CH]
theorem chunks_len_le : ∀ (k n : Nat), n < CH ^ k → (chunks n).length ≤ k
  | 0, n, h => by
    have : n = 0 := by simpa using h
    simp [this, chunks_zero]
  | k + 1, n, h => by
    by_cases h0 : n = 0
    · simp [h0, chunks_zero]
    · rw [chunks_pos h0, List.length_cons]
      have := chunks_len_le k (n / CH) (by rw [Nat.div_lt_iff_lt_mul CH_pos]; rwa [Nat.pow_succ] at h)
      omega
theorem chunks_top : ∀ (n k : Nat), (chunks n).length = k + 1 → n / CH ^ k ≠ 0 ∧ n / CH ^ k < CH
  | n, 0, h => by
    have h0 : n ≠ 0 := by rintro rfl; rw [chunks_zero] at h; simp at h
    rw [chunks_pos h0] at h
    have h1 : n / CH = 0 := by
      apply Decidable.byContradiction
      intro h2
      rw [chunks_pos h2] at h
      simp at h
    have := Nat.div_add_mod n CH
    have := Nat.mod_lt n CH_pos
    rw [h1] at *
    simp
    omega
  | n, k + 1, h => by
    have h0 : n ≠ 0 := by rintro rfl; rw [chunks_zero] at h; simp at h
    rw [chunks_pos h0, List.length_cons] at h
    have := chunks_top (n / CH) k (by omega)
    rw [Nat.div_div_eq_div_mul, Nat.mul_comm, ← Nat.pow_succ] at this
    exact this
def wrote (n k : Nat) : List UInt8 := if k = (chunks n).length then [] else decDigits (n / CH ^ k)
theorem wrote_end {n : Nat} (h : n ≠ 0) : wrote n 0 = decDigits n := by
  unfold wrote
  rw [if_neg (by rw [chunks_pos h]; simp)]
  simp
theorem wrote_top {n k : Nat} (h : (chunks n).length = k + 1) : wrote n k = decDigits ((chunks n)[k]?.getD 0) := by
  unfold wrote
  rw [if_neg (by omega), chunks_get, Nat.mod_eq_of_lt (chunks_top n k h).2]
theorem div_pow_ne {n k m : Nat} (h : n / CH ^ m ≠ 0) (hk : k ≤ m) : n / CH ^ k ≠ 0 := by
  intro h0
  apply h
  obtain ⟨d, rfl⟩ := Nat.exists_eq_add_of_le hk
  rw [Nat.pow_add, ← Nat.div_div_eq_div_mul, h0, Nat.zero_div]
theorem nDigits_le_of_lt {x : Nat} (h : x < CH) : nDigits x ≤ 19 := by
  apply Nat.le_of_not_lt
  intro hc
  have h1 : ∀ k u : Nat, k + 1 ≤ nDigits u → 1 ≤ k → 10 ^ k ≤ u := by
    intro k
    induction k with
    | zero => intro u _ h0; omega
    | succ k ih =>
      intro u hu _
      by_cases hs : u < 10
      · rw [nDigits_small hs] at hu; omega
      · rw [nDigits_big hs] at hu
        by_cases hk : k = 0
        · subst hk; simpa using hs
        · have := ih (u / 10) (by omega) (by omega)
          rw [Nat.pow_succ]
          omega
  have := h1 19 x (by omega) (by omega)
  rw [CH_pow] at h
  omega
theorem wrote_step {n k : Nat} (h : k + 1 < (chunks n).length) : wrote n k = wrote n (k + 1) ++ (List.replicate (19 - (decDigits ((chunks n)[k]?.getD 0)).length) 48 ++ decDigits ((chunks n)[k]?.getD 0)) := by
  obtain ⟨m, hm⟩ : ∃ m, (chunks n).length = m + 1 := ⟨(chunks n).length - 1, by omega⟩
  have ht := (chunks_top n m hm).1
  have h1 : n / CH ^ (k + 1) ≠ 0 := div_pow_ne ht (by omega)
  have hlt : (chunks n)[k]?.getD 0 < CH := by rw [chunks_get]; exact Nat.mod_lt _ CH_pos
  have hl : (decDigits ((chunks n)[k]?.getD 0)).length ≤ 19 := by
    rw [decDigits_length]
    have := nDigits_le_of_lt hlt
    exact this
  rw [← pad_eq 19 _ hl, chunks_get]
  unfold wrote
  rw [if_neg (by omega), if_neg (by omega)]
  rw [Nat.pow_succ, ← Nat.div_div_eq_div_mul] at h1 ⊢
  exact dec_chunk h1
theorem chunk_digits {n k : Nat} : (decDigits ((chunks n)[k]?.getD 0)).length ≤ 19 ∧ 1 ≤ (decDigits ((chunks n)[k]?.getD 0)).length := by
  have hlt : (chunks n)[k]?.getD 0 < CH := by rw [chunks_get]; exact Nat.mod_lt _ CH_pos
  rw [decDigits_length]
  exact ⟨nDigits_le_of_lt hlt, nDigits_pos _⟩
theorem wrote_length_le : ∀ (j n k : Nat), k + j = (chunks n).length → (wrote n k).length ≤ 19 * j
  | 0, n, k, h => by
    unfold wrote
    rw [if_pos (by omega)]
    simp
  | 1, n, k, h => by
    rw [wrote_top (by omega)]
    have := (chunk_digits (n := n) (k := k)).1
    omega
  | j + 2, n, k, h => by
    have := wrote_length_le (j + 1) n (k + 1) (by omega)
    rw [wrote_step (by omega)]
    have := (chunk_digits (n := n) (k := k)).1
    simp only [List.length_append, List.length_replicate]
    omega
end Go.Proofs.YtigpnopeacicpaaDoor
/-
  strings.Builder at this dump: copyCheck and WriteString (the shelf's proofs turned: at a door the panic's text in copyCheck is refused by the loader, so that the shelf's laying falls).
-/
namespace Go.Proofs.YtigpnopeacicpaaDoor
open Go.RowKit

theorem size_builder : ∃ j, Tryd.prog.info? 138 = some j ∧ j.size = 2 := Option.map_eq_some_iff.1 (show (Tryd.prog.info? 138).map (·.size) = some 2 by kernel_rfl)

set_option maxHeartbeats 1000000 in
set_option maxRecDepth 100000 in
theorem copyCheck_used (b : Nat) (w : World) (h0 : w.cell? ⟨b, 0, none⟩ = some (.pointer (some ⟨b, 0, none⟩))) :
    Calls Tryd.prog 119 #[.pointer (some ⟨b, 0, none⟩)] w fun e w' => e = .returned (.tuple #[]) ∧ w' = w := by
  obtain ⟨j, hj, _⟩ := size_builder
  go_enter Tryd.func119, Tryd.ntmps119
  go_wp2
  rw [Lib.run_neq_ptr_same w _ Tryd.underlying136 hj]
  go_wp2
  go_end0
  exact ⟨rfl, rfl⟩

set_option maxHeartbeats 1000000 in
set_option maxRecDepth 100000 in
theorem copyCheck_fresh (b : Nat) (w : World) (h0 : w.cell? ⟨b, 0, none⟩ = some (.pointer none)) (hsh : w.shape? b = some (138, 2)) (hfz : w.frozen? ⟨b, 0, none⟩ = false) :
    Calls Tryd.prog 119 #[.pointer (some ⟨b, 0, none⟩)] w fun e w' => e = .returned (.tuple #[]) ∧ w' = w.setCell ⟨b, 0, none⟩ (.pointer (some ⟨b, 0, none⟩)) := by
  obtain ⟨j, hj, hjs⟩ := size_builder
  have hlies : liesAt Tryd.prog Tryd.prog.depth 138 (2 / Tryd.prog.cellsOf 138) 0 138 1 = true := by kernel_rfl
  go_enter Tryd.func119, Tryd.ntmps119
  go_wp2
  rw [Lib.run_to_unsafe w ⟨b, 0, none⟩ Tryd.underlying136 Tryd.underlying200 hj (by rw [hjs]; decide) hsh (Nat.zero_lt_succ 1)]
  simp only [Result.andThen]
  rw [Oper.upon_value]
  go_wp2
  rw [run_callFunc_extern Tryd.func147 (by kernel_rfl) (by kernel_rfl) (by kernel_rfl) (e := Extern.AbiNoEscape.same) (by kernel_rfl)]
  rw [Lib.run_noEscape]
  simp only [Result.andThen]
  rw [Oper.upon_value]
  go_wp2
  rw [Lib.run_from_unsafe w ⟨b, 0, none⟩ Tryd.underlying200 Tryd.underlying136 hj hsh hlies]
  simp only [Result.andThen]
  rw [Oper.upon_value]
  go_wp2
  go_end0
  exact ⟨rfl, rfl⟩

theorem copyCheck_any (B b : Nat) (bs : List Value) (w : World) (h : Lib.IsBuilderF 138 5 B b bs w) :
    Calls Tryd.prog 119 #[.pointer (some ⟨b, 0, none⟩)] w fun e w' => e = .returned (.tuple #[]) ∧ (Lib.BuilderAtF 138 5 B b (.pointer (some ⟨b, 0, none⟩)) bs w' ∧ Below B w w') := by
  rcases h with h | h
  · refine (copyCheck_fresh b w h.cell0 h.shape h.frozen0).mono ?_
    rintro e w' ⟨rfl, rfl⟩
    exact ⟨rfl, h.used _, (Below.refl B w).setCell (p := ⟨b, 0, none⟩) h.1 _⟩
  · refine (copyCheck_used b w h.cell0).mono ?_
    rintro e w' ⟨rfl, rfl⟩
    exact ⟨rfl, h, Below.refl B _⟩

def WrotePost (B b : Nat) (bs : List UInt8) (s : ByteArray) (w : World) (e : Ending) (w' : World) : Prop :=
  e = .returned (.tuple #[.int .i64 s.size, .nilIface]) ∧ Lib.IsBuilderF 138 5 B b (Lib.byteCells (bs ++ s.data.toList)) w' ∧ Below B w w'

set_option maxHeartbeats 2000000 in
set_option maxRecDepth 100000 in
theorem writeString_any (B b : Nat) (bs : List UInt8) (s : ByteArray) (w : World) (h : Hid (Lib.IsBuilderF 138 5 B b (Lib.byteCells bs) w)) (hlen : bs.length + s.size ≤ 140737488355328) (hBw : B ≤ w.heap.size) :
    Calls Tryd.prog 88 #[.pointer (some ⟨b, 0, none⟩), .string s] w (WrotePost B b bs s w) := by
  obtain ⟨i0, hi, hz0, hz1, hz2⟩ := info_parts (show (Tryd.prog.info? 5).map (fun i => (i.zero, i.size, i.bytes)) = some (some (.int .u8 0), 1, 1) by kernel_rfl)
  go_enter Tryd.func88, Tryd.ntmps88
  go_wp2_with (go_at_call 119; refine (copyCheck_any B b (Lib.byteCells bs) _ h.out).mono ?_)
  rintro e w1 ⟨rfl, h1, hb1⟩
  obtain ⟨hB, v, hbk, hown, hne⟩ := h1
  rw [Lib.byteCells_length] at hown
  have c0 : w1.cell? ⟨b, 0, none⟩ = some (.pointer (some ⟨b, 0, none⟩)) := by rw [Lib.cell_of_heap hbk]; rfl
  have c1 : w1.cell? ⟨b, 1, none⟩ = some v := by rw [Lib.cell_of_heap hbk]; rfl
  go_wp2_with (at_builtin; refine Lib.wpList_append_own_stringF _ rfl _ _ 108 9 rfl B 5 i0 Tryd.underlying108 Tryd.underlying9 hi hz0 hz1 hz2 _ _ _ rfl hown s rfl ?c3 ?c4 ?c5 ?_)
  case c3 => unfold maxLen; omega
  case c4 => omega
  case c5 => have := hb1.size; omega
  intro v' w2 hown' hgrow _
  have hlt : b < w1.heap.size := by
    rcases Nat.lt_or_ge b w1.heap.size with h' | h'
    · exact h'
    · simp [Array.getElem?_eq_none h'] at hbk
  have hb2 : w2.heap[b]? = some (.cells #[.pointer (some ⟨b, 0, none⟩), v] 138 (0, 0)) := by
    rw [hgrow.block b hlt (fun e => hne e.symm)]
    exact hbk
  have d0 : w2.cell? ⟨b, 0, none⟩ = some (.pointer (some ⟨b, 0, none⟩)) := by rw [Lib.cell_of_heap hb2]; rfl
  have d1 : w2.cell? ⟨b, 1, none⟩ = some v := by rw [Lib.cell_of_heap hb2]; rfl
  have f1 : w2.frozen? ⟨b, 1, none⟩ = false := Lib.frozen_of_heap hb2 1
  obtain ⟨ao, n', cap, rfl⟩ : ∃ ao n' cap, v' = .slice ao n' cap := by
    rcases hown'.2 with ⟨hv, _⟩ | ⟨g, cap, cur, fz, hv, _⟩
    · exact ⟨_, _, _, hv⟩
    · exact ⟨_, _, _, hv⟩
  go_wp2
  go_ret2
  refine ⟨rfl, ?_, ?_⟩
  · refine .inr (Lib.BuilderAtF.put (T := 138) (e := 5) hB hb2 (bs' := Lib.byteCells (bs ++ s.data.toList)) ?_ (by decide))
    rw [Lib.byteCells_append, ← Lib.strCells_eq, List.length_append, Lib.strCells_length, Lib.byteCells_length]
    exact hown'
  · exact (hb1.grown hgrow (by have := hb1.size; omega) (fun k hk => (hown.lt k hk).1)).setCell (p := ⟨b, 1, none⟩) hB _
theorem string_any (B b : Nat) (l : List UInt8) (w : World) (h : Hid (Lib.IsBuilderF 138 5 B b (Lib.byteCells l) w)) (hBw : B ≤ w.heap.size) :
    Calls Tryd.prog 90 #[.pointer (some ⟨b, 0, none⟩)] w fun e w' => e = .returned (.string ⟨l.toArray⟩) ∧ Below B w w' :=
  (Tryd.Builder_String_any_f B b l w h.out hBw).mono fun _ _ ⟨h1, _, h3⟩ => ⟨h1, h3⟩
end Go.Proofs.YtigpnopeacicpaaDoor
/-
  strconv.FormatUint at base 10, for every uint64.
-/
namespace Go.Proofs.YtigpnopeacicpaaDoor
open Go.RowKit Go.Sort

def Tab (w : World) : Prop := Lib.TabIs Tryd.prog w "internal/strconv.uint64pow10" .u64 Lib.pow10Tab
theorem Tab.only {w w' : World} (h : Tab w) (ho : Only [] w w') : Tab w' := by
  unfold Tab Lib.TabIs World.var? at *
  cases hg : Tryd.prog.globalNamed "internal/strconv.uint64pow10" with
  | none => simp [hg] at h
  | some g =>
    simp only [hg, Option.bind_some] at h ⊢
    have hlt : g < w.heap.size := by
      rcases Nat.lt_or_ge g w.heap.size with h' | h'
      · exact h'
      · rw [Array.getElem?_eq_none h'] at h; simp at h
    rw [ho.block g hlt (by simp)]
    exact h
theorem Only.grow {w : World} (S : List Nat) (k : Nat) (os : Array Obj) : Only S w (grow (w.drewN k) os) :=
  ⟨rfl, rfl, rfl, by simp, fun j hj _ => heap_grow_old (w.drewN k) os hj⟩

theorem holds_zero0 (w : World) (T : TypeId) (nd : Nat) (hs : nd ≤ 24) : Holds (fun (b : UInt8) => Value.int .u8 (b.toNat : Int)) (w.alloc (.cells Lib.zeros24 T)) w.heap.size 0 (Array.replicate nd (0 : UInt8)) := fun j hj => by
  have hj' : j < nd := by simpa using hj
  refine ⟨?_, World.frozen?_alloc_new _ _ _ _⟩
  rw [World.cell?_alloc_new, Lib.zeros24_at _ (by omega), getElem!_pos _ j hj]
  simp
theorem fin_pos0 (w : World) (o : Obj) (dk : Array UInt8) (k : Nat) : ∃ os, (putRow (fun (b : UInt8) => Value.int .u8 (b.toNat : Int)) (w.alloc o) w.heap.size 0 dk).drewN k = grow (w.drewN k) os := by
  rw [alloc_eq_grow]
  obtain ⟨os', _, e⟩ := putRow_grow_new (fun (b : UInt8) => Value.int .u8 (b.toNat : Int)) w #[o] w.heap.size 0 dk (Nat.le_refl _)
  exact ⟨os', by rw [e]; rfl⟩

set_option maxHeartbeats 6400000 in
set_option maxRecDepth 100000 in
theorem iformatUint_any (u : Nat) (hu : u < 18446744073709551616) (w : World) (htab : Hid (Tab w)) :
    Calls Tryd.prog 118 #[.int .u64 (u : Int), .int .i64 10] w fun e w' => e = .returned (.string ⟨(Lib.decDigits u).toArray⟩) ∧ Only [] w w' := by
  by_cases hs : u < 100
  · go_enter Tryd.func118, Tryd.ntmps118
    go_wp2_with (go_at_call 143; refine (Tryd.internal_strconv_small u hs _).mono ?_; rintro e w' ⟨rfl, rfl⟩)
    go_ret
    exact ⟨rfl, Only.refl _ _⟩
  · have hu1 : 1 ≤ u := by omega
    have hnd20 : Lib.nDigits u ≤ 20 := Lib.nDigits_le20 u hu
    have hb3 : Lib.nDigits u ≤ 24 := by omega
    have hal : Tryd.prog.arrayLen 196 = 24 := by kernel_rfl
    have hsl1 : ∀ W, (Instr.sliceAt 196 (.pointer (some ⟨w.heap.size, 0, none⟩)) none (some (.int .i64 (Lib.nDigits u : Int))) none).run Tryd.prog W = .ok (.slice (some ⟨w.heap.size, 0, none⟩) (Lib.nDigits u) 24) W := fun W => by
      rw [run_sliceAt_array_h W 196 ⟨w.heap.size, 0, none⟩ Tryd.underlying196 .i64 (Lib.nDigits u : Int) (by omega) (by rw [hal]; omega)]
      go_simp
    have hH0 := holds_zero0 w 196 (Lib.nDigits u) (by omega)
    have hfmt := Tryd.internal_strconv_formatBase10 w.heap.size 0 24 u (Array.replicate (Lib.nDigits u) 0) (w.alloc (.cells Lib.zeros24 196)) hH0 (by rw [Array.size_replicate]; exact Lib.lt_pow_nDigits u) hu (by rw [Array.size_replicate]; omega)
    rw [Array.size_replicate] at hfmt
    have HH0 := Lib.hid hH0
    clear hH0 hal
    go_enter Tryd.func118, Tryd.ntmps118
    go_wp2_with (first
      | (go_at_call 144; refine (Tryd.internal_strconv_numDigits u hu1 hu _ (Lib.tabIs_alloc htab.out _)).mono ?_; rintro e w' ⟨rfl, rfl⟩))
    go_at_call 145
    refine hfmt.mono ?_
    rintro e w' ⟨rfl, k, v', dk, rfl, hF⟩
    have hcv : (convert 108 9 (.slice (some ⟨w.heap.size, 0, none⟩) (Lib.nDigits u) 24)).run Tryd.prog ((putRow (fun (b : UInt8) => Value.int .u8 (b.toNat : Int)) (w.alloc (.cells Lib.zeros24 196)) w.heap.size 0 dk).drewN k) = .ok (.string ⟨(Lib.decDigits u).toArray⟩) ((putRow (fun (b : UInt8) => Value.int .u8 (b.toNat : Int)) (w.alloc (.cells Lib.zeros24 196)) w.heap.size 0 dk).drewN k) := by
      have h := run_convert_bytes_back (P := Tryd.prog) ((putRow (fun (b : UInt8) => Value.int .u8 (b.toNat : Int)) (w.alloc (.cells Lib.zeros24 196)) w.heap.size 0 dk).drewN k) 108 9 5 ⟨w.heap.size, 0, none⟩ 24 (Lib.decDigits u) Tryd.underlying108 Tryd.underlying5 Tryd.underlying9 (fun j hj => by
        rw [Lib.row_is_numeral hF j hj, Lib.add_plain, World.cell?_drewN]
        exact cell?_putRow (fun (b : UInt8) => Value.int .u8 (b.toNat : Int)) _ w.heap.size 0 _ dk HH0.out (by rw [hF.size, Array.size_replicate]) j (by rw [hF.size]; rw [Lib.decDigits_length] at hj; exact hj))
      rw [Lib.decDigits_length] at h
      exact h
    go_wp2
    go_ret
    obtain ⟨os, eo⟩ := fin_pos0 w (.cells Lib.zeros24 196) dk k
    refine ⟨rfl, ?_⟩
    have eo' := Lib.hid eo
    rw [eo'.out]
    exact Only.grow _ _ _
set_option maxRecDepth 100000 in
theorem formatUint_any (u : Nat) (hu : u < 18446744073709551616) (w : World) (htab : Hid (Tab w)) :
    Calls Tryd.prog 87 #[.int .u64 (u : Int), .int .i64 10] w fun e w' => e = .returned (.string ⟨(Lib.decDigits u).toArray⟩) ∧ Only [] w w' := by
  go_enter Tryd.func87, Tryd.ntmps87
  go_wp2_with (go_at_call 118; refine (iformatUint_any u hu _ htab).mono ?_; rintro e w' ⟨rfl, ho⟩)
  go_ret
  exact ⟨rfl, ho⟩
end Go.Proofs.YtigpnopeacicpaaDoor
/-
  nat.Text: the decimal digits.
-/
namespace Go.Proofs.YtigpnopeacicpaaDoor
open Go.RowKit

def slen : Value → Nat
  | .slice _ n _ => n
  | _ => 0
theorem owns_only {w w' : World} {S : List Nat} {base : Nat} {e : TypeId} {s n : Nat} {v : Value} {xs : List Value} (h : w.ownsRow base e s v n xs) (ho : Only S w w') (hn : ∀ g, v.ownBlock = some g → g ∉ S) : w'.ownsRow base e s v n xs := by
  rcases h with ⟨h0, h1 | ⟨g, cap, cur, rfl, hb, hg, h2⟩⟩
  · exact ⟨h0, .inl h1⟩
  · exact ⟨h0, .inr ⟨g, cap, cur, rfl, hb, ho.heap hg (hn g rfl), h2⟩⟩
theorem builder_only {w w' : World} {T e : TypeId} {B b : Nat} {bs : List Value} (h : Lib.IsBuilderF T e B b bs w) (ho : Only [] w w') : Lib.IsBuilderF T e B b bs w' := by
  have key : ∀ p, Lib.BuilderAtF T e B b p bs w → Lib.BuilderAtF T e B b p bs w' := by
    rintro p ⟨hB, v, hb, ⟨h0, h1⟩, hne⟩
    refine ⟨hB, v, ho.heap hb (by simp), ⟨h0, ?_⟩, hne⟩
    rcases h1 with h1 | ⟨g, cap, cur, fz, rfl, hbg, hg, h2⟩
    · exact .inl h1
    · exact .inr ⟨g, cap, cur, fz, rfl, hbg, ho.heap hg (by simp), h2⟩
  rcases h with h | h
  · exact .inl (key _ h)
  · exact .inr (key _ h)
theorem size_mk (l : List UInt8) : (⟨l.toArray⟩ : ByteArray).size = l.length := by simp [ByteArray.size]
theorem below_only {w w1 w2 : World} {B : Nat} (h : Below B w w1) (ho : Only [] w1 w2) (hB : B ≤ w.heap.size) : Below B w w2 :=
  ⟨ho.os.trans h.os, ho.tape.trans h.tape, ho.output.trans h.output, Nat.le_trans h.size ho.size, fun k hk => (ho.block k (Nat.lt_of_lt_of_le hk (Nat.le_trans hB h.size)) (by simp)).trans (h.block k hk)⟩
theorem BB_le_CH2 : BB ≤ CH ^ 2 := by rw [BB_val, CH_pow]; decide
theorem chunks_len_bb {n k : Nat} (h : n < BB ^ k) : (chunks n).length ≤ 2 * k := by
  apply chunks_len_le
  rw [Nat.pow_mul]
  exact Nat.lt_of_lt_of_le h (Nat.pow_le_pow_left BB_le_CH2 k)
theorem limb_row {zs : List Nat} (h : Limb zs) (tl : List Value) : ∃ tl', limbV zs ++ tl = limbV (limbsOf (val zs)) ++ tl' := by
  have e := (limbsOf_take h).1
  refine ⟨limbV (zs.drop (limbsOf (val zs)).length) ++ tl, ?_⟩
  rw [← List.append_assoc]
  congr 1
  have h2 : zs = zs.take (limbsOf (val zs)).length ++ zs.drop (limbsOf (val zs)).length := (List.take_append_drop _ _).symm
  rw [e] at h2
  have h3 := congrArg limbV h2
  simpa [limbV] using h3
theorem Res.row {w0 w : World} {u : Value} {n : Nat} (h : Res w0 w u n) (hn : n ≠ 0) : ∃ g c tl, u = .slice (some ⟨g, 0, none⟩) (limbsOf n).length c ∧ Blk w g 90 (limbV (limbsOf n) ++ tl) ∧ w0.heap.size ≤ g ∧ g < w.heap.size ∧ (limbsOf n).length ≤ c := by
  have h1 := h.at_
  rcases h1.2 with ⟨rfl, h0⟩ | ⟨g, cap, cur, rfl, _, hg, hc, _, _, ht⟩
  · exact absurd (limbsOf_len0.1 h0) hn
  · refine ⟨g, cap, cur.toList.drop (limbsOf n).length, rfl, ?_, h.fresh g rfl, lt_of_heap hg, hc⟩
    unfold Blk
    rw [hg]
    congr 2
    apply Array.ext'
    rw [Nat.mul_one] at ht
    rw [← ht]
    simp

theorem LRead.of_tl {w : World} {g : Nat} {t : TypeId} {xs : List Nat} {tl : List Value} (h : Blk w g t (limbV xs ++ tl)) : LRead w (some ⟨g, 0, none⟩) xs := fun k hk => ⟨g, 0, rfl, by
  rw [h.cell, Nat.zero_add, List.getElem?_append_left (by rw [limbV_len]; exact hk), limbV_get _ _ hk]⟩
structure XCar (w wr : World) (B g n c : Nat) (pv : Value) (q : Nat) (ps : List Nat) (tl : List Value) : Prop where
  blk : Blk wr g 90 (limbV (limbsOf q) ++ tl)
  own : wr.ownsRow B 90 1 pv ps.length (limbV ps)
  cut : Cut n ps q
  only : Only [] w wr
  le : (limbsOf q).length ≤ c
  len : ((limbsOf q).length : Int) ≤ 4000000
  big : B ≤ wr.heap.size
theorem XCar.many {w wr : World} {B g n c : Nat} {pv : Value} {q : Nat} {ps : List Nat} {tl : List Value} (h : XCar w wr B g n c pv q ps tl) : ps.length + (chunks q).length = (chunks n).length := by
  rw [h.cut.all, List.length_append]
def TextPost (n : Nat) (w : World) (e : Ending) (w' : World) : Prop := e = .returned (.string ⟨(Lib.decDigits n).toArray⟩) ∧ Only [] w w'

set_option maxHeartbeats 4000000 in
set_option maxRecDepth 100000 in
theorem text_any (A : Option Addr) (c : Nat) (xs : List Nat) (w : World) (hA : Hid (Arg w A xs)) (hc : xs.length ≤ c) (htab : Hid (Tab w)) :
    Calls Tryd.prog 63 #[.slice A xs.length c] w (TextPost (val xs) w) := by
  have HLx : Hid ((limbsOf (val xs)).length ≤ xs.length) := limbsOf_len hA.out.limb
  have HLen := Lib.hid hA.out.len
  obtain ⟨n, hn⟩ : ∃ n, val xs = n := ⟨_, rfl⟩
  have HN := Lib.hid hn
  have hof := of_any A c xs w hA hc
  rw [hn] at hof HLx
  rw [hn]
  clear hn
  by_cases h0 : n = 0
  · subst h0
    go_enter Tryd.func63, Tryd.ntmps63
    go_wp2_with fail
    refine hof.mono ?_
    rintro e w1 ⟨u, rfl, hu, ho⟩
    have HO := Lib.hid ho
    obtain ⟨Au, cu, hu2, _, _⟩ := hu.shape (by rw [limbsOf_zero]; simp)
    have hz : (limbsOf 0).length = 0 := by rw [limbsOf_zero]; rfl
    rw [hz] at hu2
    subst hu2
    clear hof hu ho hz
    go_wp2_with fail
    go_ret
    exact ⟨by rw [Lib.decDigits]; rfl, HO.out⟩
  · have HNZ := Lib.hid h0
    obtain ⟨i0, hi, hz0, hz1, hz2⟩ := u64_parts
    go_enter Tryd.func63, Tryd.ntmps63
    go_wp2_with fail
    refine hof.mono ?_
    clear hof
    rintro e w1 ⟨u, rfl, hu, ho⟩
    have HO := Lib.hid ho
    obtain ⟨g, cu, tl0, rfl, hb, hg1, hg2, hcu⟩ := hu.row HNZ.out
    have hlz : (limbsOf n).length ≠ 0 := fun h => HNZ.out (limbsOf_len0.1 h)
    obtain ⟨L, hL⟩ : ∃ L, (limbsOf n).length = L := ⟨_, rfl⟩
    obtain ⟨B, hB⟩ : ∃ B, w1.heap.size = B := ⟨_, rfl⟩
    have HStart : Hid (XCar w w1 B g n cu (.slice none 0 0) n [] tl0) := ⟨hb, World.ownsRow_nil _ _ _ _, Cut.start HNZ.out, HO.out, hcu, by have := HLx.out; have := HLen.out; omega, by omega⟩
    have HG : Hid (w.heap.size ≤ g ∧ g < B) := ⟨hg1, by omega⟩
    have hLz : ((L : Int) == 0) = false := by rw [beq_eq_false_iff_ne]; omega
    have HL := Lib.hid hL
    have HB := Lib.hid hB
    have HChL : Hid (((chunks n).length : Int) ≤ 8000000) := by
      have h1 := chunks_len_bb (lt_limbsOf n)
      have := HLx.out
      have := HLen.out
      show _ ≤ _
      omega
    rw [hL]
    clear ho hu hb hg1 hg2 hcu hlz hL hB h0
    go_wp2_with fail
    go_loopw [3, 4] (fun rv pv wr => ∃ (q : Nat) (ps : List Nat) (tl : List Value) (ap : Option Addr) (cp : Nat), rv = .slice (some ⟨g, 0, none⟩) (limbsOf q).length cu ∧ pv = .slice ap ps.length cp ∧ XCar w wr B g n cu (.slice ap ps.length cp) q ps tl) (fun _ pv _ => (chunks n).length - slen pv)
    case atStart => exact ⟨n, [], tl0, none, 0, by rw [HL.out], rfl, HStart.out⟩
    case round =>
      obtain ⟨q, ps, tl, ap, cp, rfl, rfl, hT⟩ := hrel
      have HT := Lib.hid hT
      clear hT HStart
      by_cases hq : q = 0
      · subst hq
        obtain ⟨wo, rfl⟩ : ∃ wo : World, wo = wr := ⟨_, rfl⟩
        have hz : (limbsOf 0).length = 0 := by rw [limbsOf_zero]; rfl
        rw [hz]
        clear hz
        have HP : Hid (chunks n = ps) := by
          have := HT.out.cut.all
          rw [chunks_zero, List.append_nil] at this
          exact this
        obtain ⟨j, hj⟩ : ∃ j, ps.length = j + 1 := ⟨ps.length - 1, by
          have h1 : ps ≠ [] := by
            rw [← HP.out, chunks_pos HNZ.out]
            simp
          have := List.length_pos_iff.2 h1
          omega⟩
        obtain ⟨gp, rfl⟩ : ∃ gp, ap = some ⟨gp, 0, none⟩ := by
          rcases HT.out.own.2 with ⟨hv, h0⟩ | ⟨gp, cap, cur, hv, _⟩
          · omega
          · injection hv with h1 _ _
            exact ⟨gp, h1⟩
        have HOn := Lib.hid HT.out.only
        have HOwn := Lib.hid HT.out.own
        have hk8 : ((j + 1 : Nat) : Int) ≤ 8000000 := by have := HChL.out; rw [HP.out, hj] at this; exact this
        have HJ := Lib.hid hj
        rw [hj]
        clear hj HT
        obtain ⟨b, hb⟩ : ∃ b, wo.heap.size = b := ⟨_, rfl⟩
        have hgpb : gp < b := by
          have := (HOwn.out.lt gp rfl).2
          omega
        have HGp := Lib.hid hgpb
        have HBb := Lib.hid hb
        have HBld : Hid (Lib.IsBuilderF 138 5 b b (Lib.byteCells (wrote n (j + 1))) (wo.alloc (.cells #[.pointer none, .slice none 0 0] 138))) := by
          have hwr : wrote n (j + 1) = [] := by unfold wrote; rw [if_pos (by rw [HP.out]; exact HJ.out.symm)]
          rw [hwr]
          have hx := heap_alloc_new wo (.cells #[.pointer none, .slice none 0 0] 138)
          rw [hb] at hx
          exact .inl ⟨Nat.le_refl _, .slice none 0 0, hx, World.ownsRowF_nil _ _ _ _, by simp [Value.ownBlock]⟩
        have HBel : Hid (Below b wo (wo.alloc (.cells #[.pointer none, .slice none 0 0] 138))) := (Below.refl b wo).alloc (by omega) _
        go_wp2_with fail
        clear hb hgpb
        generalize wo.alloc (.cells #[.pointer none, .slice none 0 0] 138) = wb at *
        go_loopw [6] (fun iv wx => ∃ k : Nat, k ≤ j + 1 ∧ iv = .int .i64 ((k : Int) - 1) ∧ Lib.IsBuilderF 138 5 b b (Lib.byteCells (wrote n k)) wx ∧ Below b wo wx) (fun iv _ => (intOf iv + 1).toNat)
        case atStart => exact ⟨j + 1, Nat.le_refl _, by simp, HBld.out, HBel.out⟩
        case round =>
          obtain ⟨k, hk, rfl, hB1, hB2⟩ := hrel
          have HB1 := Lib.hid hB1
          have HB2 := Lib.hid hB2
          clear hB1 hB2
          rcases k with _ | m
          · go_wp2_with fail
            refine (string_any b b (wrote n 0) _ HB1 (by have := HB2.out.size; have := HBb.out; omega)).mono ?_
            rintro e w9 ⟨rfl, hbe⟩
            have HB9 := Lib.hid hbe
            clear hbe
            go_wp2_with fail
            go_ret
            refine ⟨by rw [wrote_end HNZ.out]; rfl, HOn.out.nil_trans (Only.of_below (HBb.out ▸ (HB2.out.trans HB9.out)) [])⟩
          · have hi2 : ((m + 1 : Nat) : Int) - 1 = (m : Int) := by omega
            rw [hi2]
            clear hi2
            have hm1 : (m : Int) < (j : Int) + 1 := by omega
            have hc0 := HOwn.out.cells (g := gp) rfl m _ (limbV_get ps m (by have := HJ.out; omega))
            rw [addr_plus, Nat.zero_add, ← HP.out] at hc0
            have hc1 := (HB2.out.cell (p := ⟨gp, m, none⟩) HGp.out).trans hc0
            have HTab : Hid (Tab wr) := htab.out.only (HOn.out.nil_trans (Only.of_below (HBb.out ▸ HB2.out) []))
            have HPl : Hid ((chunks n)[m]?.getD 0 < 18446744073709551616) := by
              have : (chunks n)[m]?.getD 0 < CH := by rw [chunks_get]; exact Nat.mod_lt _ CH_pos
              rw [CH_val] at this
              show _ < _
              omega
            obtain ⟨d, hd⟩ : ∃ d, Lib.decDigits ((chunks n)[m]?.getD 0) = d := ⟨_, rfl⟩
            have HDg := chunk_digits (n := n) (k := m)
            rw [hd] at HDg
            have hfu := formatUint_any _ HPl.out wr HTab
            rw [hd] at hfu
            have HD := Lib.hid hd
            have HWs := Lib.hid (wrote_step (n := n) (k := m))
            have HWt := Lib.hid (wrote_top (n := n) (k := m))
            have HWl : Hid ((wrote n (m + 1)).length ≤ 19 * 8000000) := by
              have h1 := wrote_length_le (j - m) n (m + 1) (by rw [HP.out, HJ.out]; omega)
              show _ ≤ _
              omega
            generalize (chunks n)[m]?.getD 0 = pm at *
            clear hc0 hd
            rcases Nat.lt_or_eq_of_le (show m ≤ j by omega) with hmj | hmj
            · have hmi : (m : Int) < (j : Int) := by omega
              have HStep : Hid (wrote n m = wrote n (m + 1) ++ (List.replicate (19 - (Lib.decDigits pm).length) 48 ++ Lib.decDigits pm)) := HWs.out (by rw [HP.out, HJ.out]; omega)
              obtain ⟨z, hz⟩ : ∃ z : Nat, 19 - d.length = z := ⟨_, rfl⟩
              have hzi : (19 : Int) - (d.length : Int) = (z : Int) := by omega
              have HZ := Lib.hid hz
              have hrep := fun w => Tryd.strings_Repeat ⟨#[48]⟩ z w (by omega) (by show 1 * z ≤ _; omega)
              have HRep := Lib.hid hrep
              have hz19 : (z : Int) ≤ 19 := by omega
              have hd19 : (d.length : Int) ≤ 19 := by omega
              clear hmj hz hrep
              go_wp2_with fail
              refine hfu.mono ?_
              clear hfu
              rintro e w5 ⟨rfl, ho5⟩
              have HO5 := Lib.hid ho5
              have HB5 := Lib.hid (builder_only HB1.out ho5)
              clear ho5
              go_wp2_with fail
              refine (HRep.out w5).mono ?_
              rintro e w6 ⟨rfl, hb6⟩
              have HO6 : Hid (Only [] w5 w6) := Only.of_below hb6 []
              have HB6 := Lib.hid (builder_only HB5.out HO6.out)
              rw [show ([48] : List UInt8) = List.replicate 1 48 from rfl, Lib.repeatL_replicate, Nat.mul_one]
              have hl2 : (List.replicate z (48 : UInt8)).length = z := List.length_replicate
              clear hb6
              go_wp2_with fail
              refine (writeString_any b b (wrote n (m + 1)) ⟨(List.replicate z (48 : UInt8)).toArray⟩ w6 HB6 (by rw [size_mk, List.length_replicate]; have := HWl.out; omega) (by have h1 := HB2.out.size; have h2 := HBb.out; have h3 := HO5.out.size; have h4 := HO6.out.size; omega)).mono ?_
              rintro e w7 ⟨rfl, hb7, hbe7⟩
              have HB7 := Lib.hid hb7
              have HBe7 := Lib.hid hbe7
              clear hb7 hbe7 hl2
              go_wp2_with fail
              refine (writeString_any b b (wrote n (m + 1) ++ List.replicate z 48) ⟨d.toArray⟩ w7 HB7 (by rw [size_mk, List.length_append, List.length_replicate]; have := HWl.out; omega) (by have h1 := HB2.out.size; have h2 := HBb.out; have h3 := HO5.out.size; have h4 := HO6.out.size; have h5 := HBe7.out.size; omega)).mono ?_
              rintro e w8 ⟨rfl, hb8, hbe8⟩
              have HB8 := Lib.hid hb8
              have HBe8 := Lib.hid hbe8
              clear hb8 hbe8
              go_wp2_with fail
              go_roundw
              case rel =>
                refine ⟨m, by omega, rfl, ?_, ?_⟩
                · have h1 := HStep.out
                  rw [HD.out, HZ.out, ← List.append_assoc] at h1
                  rw [h1]
                  exact HB8.out
                · have hBw : b ≤ wo.heap.size := Nat.le_of_eq HBb.out.symm
                  exact ((below_only (below_only HB2.out HO5.out hBw) HO6.out hBw).trans HBe7.out).trans HBe8.out
              case measure => simp [intOf]
            · subst hmj
              have HTop : Hid (wrote n m = Lib.decDigits pm) := HWt.out (by rw [HP.out, HJ.out])
              have HNil : Hid (wrote n (m + 1) = []) := by unfold wrote; rw [if_pos (by rw [HP.out, HJ.out])]; exact rfl
              have hd19 : (d.length : Int) ≤ 19 := by omega
              go_wp2_with fail
              refine hfu.mono ?_
              clear hfu
              rintro e w5 ⟨rfl, ho5⟩
              have HO5 := Lib.hid ho5
              have HB5 := Lib.hid (builder_only HB1.out ho5)
              clear ho5
              go_wp2_with fail
              refine (writeString_any b b (wrote n (m + 1)) ⟨d.toArray⟩ w5 HB5 (by rw [size_mk]; have := HWl.out; omega) (by have h1 := HB2.out.size; have h2 := HBb.out; have h3 := HO5.out.size; omega)).mono ?_
              rintro e w8 ⟨rfl, hb8, hbe8⟩
              have HB8 := Lib.hid hb8
              have HBe8 := Lib.hid hbe8
              clear hb8 hbe8
              go_wp2_with fail
              go_roundw
              case rel =>
                refine ⟨m, by omega, rfl, ?_, ?_⟩
                · have h1 := HB8.out
                  rw [HNil.out, List.nil_append] at h1
                  rw [HTop.out, HD.out]
                  exact h1
                · have hBw : b ≤ wo.heap.size := Nat.le_of_eq HBb.out.symm
                  exact (below_only HB2.out HO5.out hBw).trans HBe8.out
              case measure => simp [intOf]
      · have HQ := Lib.hid hq
        have hlq : ((limbsOf q).length : Int) > 0 := by
          have : (limbsOf q).length ≠ 0 := fun h => hq (limbsOf_len0.1 h)
          omega
        have HZl : Hid (Limb (limbsOf q)) := limb_limbsOf q
        have HBl := Lib.hid HT.out.blk
        have hlen := HT.out.len
        have HCp : Hid (0 < CH) := CH_pos
        have HCb : Hid (CH < BB) := by show _ < _; rw [CH_val, BB_val]; omega
        have hsh := short_tl g cu (limbsOf q).length CH tl (limbsOf q) wr HBl HZl (Lib.hid rfl) (by omega) HCp HCb
        rw [show (CH : Int) = 10000000000000000000 by rw [CH_val]; rfl] at hsh
        obtain ⟨r, hr⟩ : ∃ r, q % CH = r := ⟨_, rfl⟩
        have HR := Lib.hid hr
        have hps : (ps.length : Int) ≤ 8000000 := by
          have := HT.out.many
          have := HChL.out
          omega
        have hcut := HT.out.cut.step HQ.out
        rw [hr] at hcut
        have HCut := Lib.hid hcut
        have HMany : Hid (ps.length < (chunks n).length) := by
          have := HT.out.many
          rw [chunks_pos HQ.out, List.length_cons] at this
          show _ < _
          omega
        have HOwn := Lib.hid HT.out.own
        have HOn := Lib.hid HT.out.only
        have HBig := Lib.hid HT.out.big
        have HLe := Lib.hid HT.out.le
        have HNe : Hid (∀ k, (Value.slice ap ps.length cp).ownBlock = some k → k ≠ g) := fun k hk => by
          have := (HOwn.out.lt k hk).1
          have := HG.out.2
          omega
        clear hq hr HT
        go_wp2_with fail
        refine hsh.mono ?_
        clear hsh
        rintro e w2 ⟨zs, he, hb2, hzl, hzn, hzv, ho2⟩
        rw [val_limbsOf, HR.out] at he
        rw [val_limbsOf] at hzv
        subst he
        have hown2 := owns_only HOwn.out ho2 (fun k hk => by have := HNe.out k hk; simpa using this)
        have HB2 := Lib.hid hb2
        have HZn := Lib.hid hzn
        have HZv := Lib.hid hzv
        have HZl2 := Lib.hid hzl
        have HO2 := Lib.hid ho2
        have HOwn2 := Lib.hid hown2
        clear hb2 hzl hzn hzv ho2 hown2
        go_wp2_with (at_builtin; refine wpList_append_own _ rfl _ _ 39 rfl B 90 i0 (.int .u64 0) 1 8 Tryd.underlying39 hi hz0 hz1 hz2 rfl (by decide) _ _ _ rfl (HOwn2.out.alloc _) ⟨w2.heap.size, 0, none⟩ 1 1 [.int .u64 (r : Int)] rfl rfl ?c1 ?c2 ?c3 ?c4 ?c5 ?_)
        case c1 =>
          intro i u hu
          match i, hu with
          | 0, hu => simp at hu; subst hu; simp [Addr.add]
        case c2 => intro u hu; simp at hu; subst hu; rfl
        case c3 => unfold maxLen; omega
        case c4 => omega
        case c5 => have h1 := HBig.out; have h2 := HO2.out.size; simp; omega
        intro v' w4 hown4 hgrow4 _
        have hown5 : w4.ownsRow B 90 1 v' (ps ++ [r]).length (limbV (ps ++ [r])) := by
          rw [List.length_append]
          have e : limbV (ps ++ [r]) = limbV ps ++ [.int .u64 (r : Int)] := by simp [limbV]
          rw [e]
          exact hown4
        obtain ⟨ap', cp', rfl⟩ : ∃ ap' cp', v' = Value.slice ap' (ps.length + 1) cp' := by
          rcases hown4.2 with ⟨hv, h0⟩ | ⟨gp, cap, cur, hv, _⟩
          · exact absurd h0 (by omega)
          · exact ⟨_, _, hv⟩
        have HO4 : Hid (Only (Value.slice ap ps.length cp).ownBlock.toList w2 w4) := ((Only.refl _ w2).alloc _).trans (Only.of_grown hgrow4 (fun k hk => by rw [hk]; simp)) (fun k hk => .inl hk)
        have HB4 : Hid (Blk w4 g 90 (limbV zs ++ tl)) := (HB2.out.alloc _).grown hgrow4 (fun h => HNe.out g h rfl)
        have HOwn5 := Lib.hid hown5
        have htr := trim_any (some ⟨g, 0, none⟩) cu zs w4 (Lib.hid ⟨LRead.of_tl HB4.out, HZl2.out, by rw [HZn.out]; omega⟩) (by rw [HZn.out]; exact HLe.out)
        rw [HZn.out, HZv.out] at htr
        clear hown4 hown5 hgrow4
        go_wp2_with fail
        refine htr.mono ?_
        clear htr
        rintro e w' ⟨rfl, rfl⟩
        go_wp2_with fail
        go_roundw
        case rel => 
          obtain ⟨tl', htl⟩ := limb_row HZl2.out tl
          rw [HZv.out] at htl
          have hle := limbsOf_len HZl2.out
          rw [HZv.out, HZn.out] at hle
          refine ⟨q / CH, ps ++ [r], tl', ap', cp', rfl, by simp, ?_⟩
          have e : (ps ++ [r]).length = ps.length + 1 := by simp
          refine ⟨by rw [← htl]; exact HB4.out, by have h := HOwn5.out; rw [e] at h ⊢; exact h, HCut.out, ?_, by have := HLe.out; omega, by omega, ?_⟩
          · refine (HOn.out.trans HO2.out ?_).trans HO4.out ?_
            · intro k hk
              have := HG.out.1
              simp at hk
              omega
            · intro k hk
              have h1 := (HOwn.out.lt k (by simpa using hk)).1
              have h2 := HG.out
              omega
          · have := HO2.out.size
            have := HO4.out.size
            have := HBig.out
            omega
        case measure => simp [slen]; have := HMany.out; omega
end Go.Proofs.YtigpnopeacicpaaDoor

/-
  De Bruijn's table, and a world in which it stands.
-/
namespace Go.Proofs.YtigpnopeacicpaaDoor
open Go.ChangeShapes Go.WideShapes Go.RowKit

def tab64 : List Int := [0, 1, 56, 2, 57, 49, 28, 3, 61, 58, 42, 50, 38, 29, 17, 4, 62, 47, 59, 36, 45, 43, 51, 22, 53, 39, 33, 30, 24, 18, 12, 5, 63, 55, 48, 27, 60, 41, 37, 16, 46, 35, 44, 21, 52, 32, 23, 11, 54, 26, 40, 15, 34, 20, 31, 10, 25, 14, 19, 9, 13, 8, 7, 6]
def tab32 : List Int := [0, 1, 28, 2, 29, 14, 24, 3, 30, 22, 20, 15, 25, 17, 4, 8, 31, 27, 13, 23, 21, 19, 16, 7, 26, 12, 18, 6, 11, 5, 10, 9]
def Tab6 (w : World) : Prop := Lib.TabIs Tryd.prog w "math/bits.deBruijn64tab" .u8 tab64
theorem tabis_only {name : String} {k : IntKind} {zs : List Int} {w w' : World} (h : Lib.TabIs Tryd.prog w name k zs) (ho : Only [] w w') : Lib.TabIs Tryd.prog w' name k zs := by
  unfold Lib.TabIs World.var? at *
  cases hg : Tryd.prog.globalNamed name with
  | none => simp [hg] at h
  | some g =>
    simp only [hg, Option.bind_some] at h ⊢
    have hlt : g < w.heap.size := by
      rcases Nat.lt_or_ge g w.heap.size with h' | h'
      · exact h'
      · rw [Array.getElem?_eq_none h'] at h; simp at h
    rw [ho.block g hlt (by simp)]
    exact h
end Go.Proofs.YtigpnopeacicpaaDoor

/-
  What the laid tables (the powers of ten, de Bruijn's) give a walk, and a world in which they are laid.
-/
namespace Go.Proofs.YtigpnopeacicpaaDoor
open Go.ChangeShapes Go.WideShapes Go.RowKit

abbrev laidList (H : Type) : List (String × DataW H) := [("math/bits.deBruijn32tab", Rows.laid_math_bits_deBruijn32tab), ("math/bits.deBruijn64tab", Rows.laid_math_bits_deBruijn64tab), ("internal/strconv.uint64pow10", Rows.laid_internal_strconv_uint64pow10)]
theorem tabs_of_laid {W : World} (h : laidMetH Tryd.prog (laidList Unit) W) : Tab W ∧ Tab6 W := by
  have h0 : laidMet Tryd.prog (laidList Unit) W := h
  have h1 := laidMet.tail h0
  have h2 := laidMet.tail h1
  refine ⟨?_, ?_⟩
  · exact Lib.tabIs_of_head (g := 3) (t := 212) (e := 90) (n := 20) (by kernel_rfl) (by kernel_rfl) Tryd.underlying212 Tryd.underlying90 (by kernel_rfl) (by kernel_rfl) h2
  · exact Lib.tabIs_of_head (g := 6) (t := 219) (e := 5) (n := 64) (by kernel_rfl) (by kernel_rfl) Tryd.underlying219 Tryd.underlying5 (by kernel_rfl) (by kernel_rfl) h1

noncomputable def laidWorld (os : Os) : World :=
  let w0 := World.holding Tryd.prog os ⟨#[], #[], []⟩
  let lay (cs : Array Value) : Obj → Obj := fun
    | .cells _ t frozen => .cells cs t frozen
    | o => o
  { w0 with heap := ((w0.heap.modify 3 (lay (Lib.pow10Tab.map fun z => Value.int .u64 z).toArray)).modify 6 (lay (tab64.map fun z => Value.int .u8 z).toArray)).modify 5 (lay (tab32.map fun z => Value.int .u8 z).toArray) }
theorem laidWorld_met (os : Os) (args : Array Value) : laidMetH Tryd.prog (laidList Unit) ((laidWorld os).forCall (fun _ _ => 0) ⟨#[], args, []⟩).memory :=
  laidMetH_of_parts (laidMet_of_run' 8 (by kernel_rfl) (by kernel_rfl)) (by kernel_rfl)
end Go.Proofs.YtigpnopeacicpaaDoor
