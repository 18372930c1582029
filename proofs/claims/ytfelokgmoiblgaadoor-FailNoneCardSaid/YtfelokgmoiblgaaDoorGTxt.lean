/-
  Decimal digits, in parts of 19: the plain law (no program in sight).
-/
import Derived.Test.YtfelokgmoiblgaaDoorGVal
import Derived.Lib.ItoaNum
import Derived.Lib.Repeat
import Derived.Lib.ItoaLen
import Derived.Test.YtfelokgmoiblgaaDoorMem
import Derived.Test.YtfelokgmoiblgaaDoorShelf
import Derived.Lib.FrozenHead
import Derived.Lib.ItoaMem
import Derived.Test.YtfelokgmoiblgaaDoorGNatC
namespace Go.Proofs.YtfelokgmoiblgaaDoor
open Go.Lib

/-- The unit of a part. -/
def CH : Nat := 10000000000000000000
theorem CH_val : CH = 10000000000000000000 := rfl
theorem CH_pow : CH = 10 ^ 19 := by decide
theorem CH_pos : 0 < CH := by decide
theorem CH_two : 2 ≤ CH := by decide
attribute [irreducible] CH

/-- The digits of m, k of them. -/
def padL : Nat → Nat → List UInt8
  | 0, _ => []
  | k + 1, m => padL k (m / 10) ++ [UInt8.ofNat (48 + m % 10)]
theorem padL_length : ∀ k m : Nat, (padL k m).length = k
  | 0, _ => rfl
  | k + 1, m => by simp [padL, padL_length k]
theorem padL_zero : ∀ k : Nat, padL k 0 = List.replicate k 48
  | 0 => rfl
  | k + 1 => by rw [padL, show 0 / 10 = 0 from rfl, padL_zero k, List.replicate_succ']; rfl
theorem dec_step {u : Nat} (h : ¬ u < 10) : decDigits u = decDigits (u / 10) ++ [UInt8.ofNat (48 + u % 10)] := by rw [decDigits, dif_neg h]
theorem dec_small {u : Nat} (h : u < 10) : decDigits u = [UInt8.ofNat (48 + u)] := by rw [decDigits, dif_pos h]
/-- A number's digits, with zeros ahead. -/
theorem pad_eq : ∀ (k m : Nat), (decDigits m).length ≤ k → padL k m = List.replicate (k - (decDigits m).length) 48 ++ decDigits m
  | 0, m, h => by
    have := nDigits_pos m
    rw [decDigits_length] at h
    omega
  | k + 1, m, h => by
    by_cases hm : m < 10
    · rw [dec_small hm, padL, show m / 10 = 0 by omega, padL_zero, Nat.mod_eq_of_lt hm]
      simp
    · rw [dec_step hm] at h ⊢
      simp only [List.length_append, List.length_cons, List.length_nil] at h ⊢
      rw [padL, pad_eq k (m / 10) (by omega), List.append_assoc]
      congr 2
      omega
theorem dec_pad : ∀ (k q r : Nat), q ≠ 0 → r < 10 ^ k → decDigits (r + 10 ^ k * q) = decDigits q ++ padL k r
  | 0, q, r, _, h => by
    have : r = 0 := by simpa using h
    simp [this, padL]
  | k + 1, q, r, hq, h => by
    rw [Nat.pow_succ] at h
    have e : r + 10 ^ (k + 1) * q = 10 * (r / 10 + 10 ^ k * q) + r % 10 := by
      have := Nat.div_add_mod r 10
      rw [Nat.pow_succ, Nat.mul_add, Nat.mul_comm (10 ^ k) 10, Nat.mul_assoc]
      omega
    have hp : 0 < 10 ^ k := Nat.pow_pos (by omega)
    have h1 : 1 ≤ 10 ^ k * q := Nat.mul_pos hp (by omega)
    generalize hz : r / 10 + 10 ^ k * q = z at e
    have hb : ¬ 10 * z + r % 10 < 10 := by omega
    rw [e, dec_step hb, show (10 * z + r % 10) / 10 = z by omega, show (10 * z + r % 10) % 10 = r % 10 by omega, ← hz, dec_pad k q (r / 10) hq (by omega), padL, List.append_assoc]
theorem dec_chunk {n : Nat} (h : n / CH ≠ 0) : decDigits n = decDigits (n / CH) ++ padL 19 (n % CH) := by
  have h1 := Nat.mod_add_div n CH
  have h2 := Nat.mod_lt n CH_pos
  rw [CH_pow] at h h1 h2 ⊢
  have := dec_pad 19 (n / 10 ^ 19) (n % 10 ^ 19) h h2
  rw [h1] at this
  exact this

/-- The parts, the lowest one first. -/
def chunks (n : Nat) : List Nat := if _h : n = 0 then [] else n % CH :: chunks (n / CH)
termination_by n
decreasing_by exact Nat.div_lt_self (by omega) CH_two
theorem chunks_zero : chunks 0 = [] := by rw [chunks]; rfl
theorem chunks_pos {n : Nat} (h : n ≠ 0) : chunks n = n % CH :: chunks (n / CH) := by rw [chunks, dif_neg h]
/-- How far the parts go. -/
structure Cut (n : Nat) (ps : List Nat) (q : Nat) : Prop where
  all : chunks n = ps ++ chunks q
  q_eq : q = n / CH ^ ps.length
  lt : ∀ x ∈ ps, x < CH
  nz : n ≠ 0
theorem Cut.start {n : Nat} (h : n ≠ 0) : Cut n [] n := ⟨rfl, by simp, by simp, h⟩
theorem Cut.step {n q : Nat} {ps : List Nat} (h : Cut n ps q) (hq : q ≠ 0) : Cut n (ps ++ [q % CH]) (q / CH) := by
  refine ⟨by rw [h.all, chunks_pos hq, List.append_assoc]; rfl, ?_, ?_, h.nz⟩
  · rw [h.q_eq, List.length_append, List.length_cons, List.length_nil, Nat.pow_add, Nat.pow_one, Nat.div_div_eq_div_mul]
  · intro x hx
    rcases List.mem_append.1 hx with h1 | h1
    · exact h.lt x h1
    · rw [List.mem_singleton.1 h1]
      exact Nat.mod_lt _ CH_pos
theorem chunks_get : ∀ (k n : Nat), (chunks n)[k]?.getD 0 = n / CH ^ k % CH
  | 0, n => by
    by_cases h : n = 0
    · simp [h, chunks_zero]
    · simp [chunks_pos h]
  | k + 1, n => by
    by_cases h : n = 0
    · simp [h, chunks_zero]
    · rw [chunks_pos h, List.getElem?_cons_succ, chunks_get k, Nat.div_div_eq_div_mul, Nat.pow_succ, Nat.mul_comm CH]
theorem chunks_len_le : ∀ (k n : Nat), n < CH ^ k → (chunks n).length ≤ k
  | 0, n, h => by
    have : n = 0 := by simpa using h
    simp [this, chunks_zero]
  | k + 1, n, h => by
    by_cases h0 : n = 0
    · simp [h0, chunks_zero]
    · rw [chunks_pos h0, List.length_cons]
      have := chunks_len_le k (n / CH) (by rw [Nat.div_lt_iff_lt_mul CH_pos]; rwa [Nat.pow_succ] at h)
      omega
theorem chunks_top : ∀ (n k : Nat), (chunks n).length = k + 1 → n / CH ^ k ≠ 0 ∧ n / CH ^ k < CH
  | n, 0, h => by
    have h0 : n ≠ 0 := by rintro rfl; rw [chunks_zero] at h; simp at h
    rw [chunks_pos h0] at h
    have h1 : n / CH = 0 := by
      apply Decidable.byContradiction
      intro h2
      rw [chunks_pos h2] at h
      simp at h
    have := Nat.div_add_mod n CH
    have := Nat.mod_lt n CH_pos
    rw [h1] at *
    simp
    omega
  | n, k + 1, h => by
    have h0 : n ≠ 0 := by rintro rfl; rw [chunks_zero] at h; simp at h
    rw [chunks_pos h0, List.length_cons] at h
    have := chunks_top (n / CH) k (by omega)
    rw [Nat.div_div_eq_div_mul, Nat.mul_comm, ← Nat.pow_succ] at this
    exact this
/-- What has been written when k parts are left. -/
def wrote (n k : Nat) : List UInt8 := if k = (chunks n).length then [] else decDigits (n / CH ^ k)
theorem wrote_end {n : Nat} (h : n ≠ 0) : wrote n 0 = decDigits n := by
  unfold wrote
  rw [if_neg (by rw [chunks_pos h]; simp)]
  simp
theorem wrote_top {n k : Nat} (h : (chunks n).length = k + 1) : wrote n k = decDigits ((chunks n)[k]?.getD 0) := by
  unfold wrote
  rw [if_neg (by omega), chunks_get, Nat.mod_eq_of_lt (chunks_top n k h).2]
theorem div_pow_ne {n k m : Nat} (h : n / CH ^ m ≠ 0) (hk : k ≤ m) : n / CH ^ k ≠ 0 := by
  intro h0
  apply h
  obtain ⟨d, rfl⟩ := Nat.exists_eq_add_of_le hk
  rw [Nat.pow_add, ← Nat.div_div_eq_div_mul, h0, Nat.zero_div]
theorem nDigits_le_of_lt {x : Nat} (h : x < CH) : nDigits x ≤ 19 := by
  apply Nat.le_of_not_lt
  intro hc
  have h1 : ∀ k u : Nat, k + 1 ≤ nDigits u → 1 ≤ k → 10 ^ k ≤ u := by
    intro k
    induction k with
    | zero => intro u _ h0; omega
    | succ k ih =>
      intro u hu _
      by_cases hs : u < 10
      · rw [nDigits_small hs] at hu; omega
      · rw [nDigits_big hs] at hu
        by_cases hk : k = 0
        · subst hk; simpa using hs
        · have := ih (u / 10) (by omega) (by omega)
          rw [Nat.pow_succ]
          omega
  have := h1 19 x (by omega) (by omega)
  rw [CH_pow] at h
  omega
theorem wrote_step {n k : Nat} (h : k + 1 < (chunks n).length) : wrote n k = wrote n (k + 1) ++ (List.replicate (19 - (decDigits ((chunks n)[k]?.getD 0)).length) 48 ++ decDigits ((chunks n)[k]?.getD 0)) := by
  obtain ⟨m, hm⟩ : ∃ m, (chunks n).length = m + 1 := ⟨(chunks n).length - 1, by omega⟩
  have ht := (chunks_top n m hm).1
  have h1 : n / CH ^ (k + 1) ≠ 0 := div_pow_ne ht (by omega)
  have hlt : (chunks n)[k]?.getD 0 < CH := by rw [chunks_get]; exact Nat.mod_lt _ CH_pos
  have hl : (decDigits ((chunks n)[k]?.getD 0)).length ≤ 19 := by
    rw [decDigits_length]
    have := nDigits_le_of_lt hlt
    exact this
  rw [← pad_eq 19 _ hl, chunks_get]
  unfold wrote
  rw [if_neg (by omega), if_neg (by omega)]
  rw [Nat.pow_succ, ← Nat.div_div_eq_div_mul] at h1 ⊢
  exact dec_chunk h1
theorem chunk_digits {n k : Nat} : (decDigits ((chunks n)[k]?.getD 0)).length ≤ 19 ∧ 1 ≤ (decDigits ((chunks n)[k]?.getD 0)).length := by
  have hlt : (chunks n)[k]?.getD 0 < CH := by rw [chunks_get]; exact Nat.mod_lt _ CH_pos
  rw [decDigits_length]
  exact ⟨nDigits_le_of_lt hlt, nDigits_pos _⟩
theorem wrote_length_le : ∀ (j n k : Nat), k + j = (chunks n).length → (wrote n k).length ≤ 19 * j
  | 0, n, k, h => by
    unfold wrote
    rw [if_pos (by omega)]
    simp
  | 1, n, k, h => by
    rw [wrote_top (by omega)]
    have := (chunk_digits (n := n) (k := k)).1
    omega
  | j + 2, n, k, h => by
    have := wrote_length_le (j + 1) n (k + 1) (by omega)
    rw [wrote_step (by omega)]
    have := (chunk_digits (n := n) (k := k)).1
    simp only [List.length_append, List.length_replicate]
    omega
end Go.Proofs.YtfelokgmoiblgaaDoor
/-
  strings.Builder at this dump: copyCheck and WriteString (the shelf's proofs turned: at a door the panic's text in copyCheck is refused by the loader, so that the shelf's laying falls).
-/
namespace Go.Proofs.YtfelokgmoiblgaaDoor
open Go.RowKit

theorem size_builder : ∃ j, Tryd.prog.info? 81 = some j ∧ j.size = 2 := Option.map_eq_some_iff.1 (show (Tryd.prog.info? 81).map (·.size) = some 2 by kernel_rfl)

set_option maxHeartbeats 1000000 in
set_option maxRecDepth 100000 in
theorem copyCheck_used (b : Nat) (w : World) (h0 : w.cell? ⟨b, 0, none⟩ = some (.pointer (some ⟨b, 0, none⟩))) :
    Calls Tryd.prog 49 #[.pointer (some ⟨b, 0, none⟩)] w fun e w' => e = .returned (.tuple #[]) ∧ w' = w := by
  obtain ⟨j, hj, _⟩ := size_builder
  go_enter Tryd.func49, Tryd.ntmps49
  go_wp2
  rw [Lib.run_neq_ptr_same w _ Tryd.underlying78 hj]
  go_wp2
  go_end0
  exact ⟨rfl, rfl⟩

set_option maxHeartbeats 1000000 in
set_option maxRecDepth 100000 in
theorem copyCheck_fresh (b : Nat) (w : World) (h0 : w.cell? ⟨b, 0, none⟩ = some (.pointer none)) (hsh : w.shape? b = some (81, 2)) (hfz : w.frozen? ⟨b, 0, none⟩ = false) :
    Calls Tryd.prog 49 #[.pointer (some ⟨b, 0, none⟩)] w fun e w' => e = .returned (.tuple #[]) ∧ w' = w.setCell ⟨b, 0, none⟩ (.pointer (some ⟨b, 0, none⟩)) := by
  obtain ⟨j, hj, hjs⟩ := size_builder
  have hlies : liesAt Tryd.prog Tryd.prog.depth 81 (2 / Tryd.prog.cellsOf 81) 0 81 1 = true := by kernel_rfl
  go_enter Tryd.func49, Tryd.ntmps49
  go_wp2
  rw [Lib.run_to_unsafe w ⟨b, 0, none⟩ Tryd.underlying78 Tryd.underlying61 hj (by rw [hjs]; decide) hsh (Nat.zero_lt_succ 1)]
  simp only [Result.andThen]
  rw [Oper.upon_value]
  go_wp2
  rw [run_callFunc_extern Tryd.func56 (by kernel_rfl) (by kernel_rfl) (by kernel_rfl) (e := Extern.AbiNoEscape.same) (by kernel_rfl)]
  rw [Lib.run_noEscape]
  simp only [Result.andThen]
  rw [Oper.upon_value]
  go_wp2
  rw [Lib.run_from_unsafe w ⟨b, 0, none⟩ Tryd.underlying61 Tryd.underlying78 hj hsh hlies]
  simp only [Result.andThen]
  rw [Oper.upon_value]
  go_wp2
  go_end0
  exact ⟨rfl, rfl⟩

theorem copyCheck_any (B b : Nat) (bs : List Value) (w : World) (h : Lib.IsBuilderF 81 5 B b bs w) :
    Calls Tryd.prog 49 #[.pointer (some ⟨b, 0, none⟩)] w fun e w' => e = .returned (.tuple #[]) ∧ (Lib.BuilderAtF 81 5 B b (.pointer (some ⟨b, 0, none⟩)) bs w' ∧ Below B w w') := by
  rcases h with h | h
  · refine (copyCheck_fresh b w h.cell0 h.shape h.frozen0).mono ?_
    rintro e w' ⟨rfl, rfl⟩
    exact ⟨rfl, h.used _, (Below.refl B w).setCell (p := ⟨b, 0, none⟩) h.1 _⟩
  · refine (copyCheck_used b w h.cell0).mono ?_
    rintro e w' ⟨rfl, rfl⟩
    exact ⟨rfl, h, Below.refl B _⟩

/-- What a write leaves. -/
def WrotePost (B b : Nat) (bs : List UInt8) (s : ByteArray) (w : World) (e : Ending) (w' : World) : Prop :=
  e = .returned (.tuple #[.int .i64 s.size, .nilIface]) ∧ Lib.IsBuilderF 81 5 B b (Lib.byteCells (bs ++ s.data.toList)) w' ∧ Below B w w'

set_option maxHeartbeats 2000000 in
set_option maxRecDepth 100000 in
theorem writeString_any (B b : Nat) (bs : List UInt8) (s : ByteArray) (w : World) (h : Hid (Lib.IsBuilderF 81 5 B b (Lib.byteCells bs) w)) (hlen : bs.length + s.size ≤ 140737488355328) (hBw : B ≤ w.heap.size) :
    Calls Tryd.prog 39 #[.pointer (some ⟨b, 0, none⟩), .string s] w (WrotePost B b bs s w) := by
  obtain ⟨i0, hi, hz0, hz1, hz2⟩ := info_parts (show (Tryd.prog.info? 5).map (fun i => (i.zero, i.size, i.bytes)) = some (some (.int .u8 0), 1, 1) by kernel_rfl)
  go_enter Tryd.func39, Tryd.ntmps39
  go_wp2_with (go_at_call 49; refine (copyCheck_any B b (Lib.byteCells bs) _ h.out).mono ?_)
  rintro e w1 ⟨rfl, h1, hb1⟩
  obtain ⟨hB, v, hbk, hown, hne⟩ := h1
  rw [Lib.byteCells_length] at hown
  have c0 : w1.cell? ⟨b, 0, none⟩ = some (.pointer (some ⟨b, 0, none⟩)) := by rw [Lib.cell_of_heap hbk]; rfl
  have c1 : w1.cell? ⟨b, 1, none⟩ = some v := by rw [Lib.cell_of_heap hbk]; rfl
  go_wp2_with (at_builtin; refine Lib.wpList_append_own_stringF _ rfl _ _ 79 9 rfl B 5 i0 Tryd.underlying79 Tryd.underlying9 hi hz0 hz1 hz2 _ _ _ rfl hown s rfl ?c3 ?c4 ?c5 ?_)
  case c3 => unfold maxLen; omega
  case c4 => omega
  case c5 => have := hb1.size; omega
  intro v' w2 hown' hgrow _
  have hlt : b < w1.heap.size := by
    rcases Nat.lt_or_ge b w1.heap.size with h' | h'
    · exact h'
    · simp [Array.getElem?_eq_none h'] at hbk
  have hb2 : w2.heap[b]? = some (.cells #[.pointer (some ⟨b, 0, none⟩), v] 81 (0, 0)) := by
    rw [hgrow.block b hlt (fun e => hne e.symm)]
    exact hbk
  have d0 : w2.cell? ⟨b, 0, none⟩ = some (.pointer (some ⟨b, 0, none⟩)) := by rw [Lib.cell_of_heap hb2]; rfl
  have d1 : w2.cell? ⟨b, 1, none⟩ = some v := by rw [Lib.cell_of_heap hb2]; rfl
  have f1 : w2.frozen? ⟨b, 1, none⟩ = false := Lib.frozen_of_heap hb2 1
  obtain ⟨ao, n', cap, rfl⟩ : ∃ ao n' cap, v' = .slice ao n' cap := by
    rcases hown'.2 with ⟨hv, _⟩ | ⟨g, cap, cur, fz, hv, _⟩
    · exact ⟨_, _, _, hv⟩
    · exact ⟨_, _, _, hv⟩
  go_wp2
  go_ret2
  refine ⟨rfl, ?_, ?_⟩
  · refine .inr (Lib.BuilderAtF.put (T := 81) (e := 5) hB hb2 (bs' := Lib.byteCells (bs ++ s.data.toList)) ?_ (by decide))
    rw [Lib.byteCells_append, ← Lib.strCells_eq, List.length_append, Lib.strCells_length, Lib.byteCells_length]
    exact hown'
  · exact (hb1.grown hgrow (by have := hb1.size; omega) (fun k hk => (hown.lt k hk).1)).setCell (p := ⟨b, 1, none⟩) hB _
theorem string_any (B b : Nat) (l : List UInt8) (w : World) (h : Hid (Lib.IsBuilderF 81 5 B b (Lib.byteCells l) w)) (hBw : B ≤ w.heap.size) :
    Calls Tryd.prog 40 #[.pointer (some ⟨b, 0, none⟩)] w fun e w' => e = .returned (.string ⟨l.toArray⟩) ∧ Below B w w' :=
  (Tryd.Builder_String_any_f B b l w h.out hBw).mono fun _ _ ⟨h1, _, h3⟩ => ⟨h1, h3⟩
end Go.Proofs.YtfelokgmoiblgaaDoor
/-
  strconv.FormatUint at base 10, for every uint64.
-/
namespace Go.Proofs.YtfelokgmoiblgaaDoor
open Go.RowKit Go.Sort

/-- The table of the powers of ten stands. -/
def Tab (w : World) : Prop := Lib.TabIs Tryd.prog w "internal/strconv.uint64pow10" .u64 Lib.pow10Tab

theorem Tab.only {w w' : World} (h : Tab w) (ho : Only [] w w') : Tab w' := by
  unfold Tab Lib.TabIs World.var? at *
  cases hg : Tryd.prog.globalNamed "internal/strconv.uint64pow10" with
  | none => simp [hg] at h
  | some g =>
    simp only [hg, Option.bind_some] at h ⊢
    have hlt : g < w.heap.size := by
      rcases Nat.lt_or_ge g w.heap.size with h' | h'
      · exact h'
      · rw [Array.getElem?_eq_none h'] at h; simp at h
    rw [ho.block g hlt (by simp)]
    exact h

theorem Only.grow {w : World} (S : List Nat) (k : Nat) (os : Array Obj) : Only S w (grow (w.drewN k) os) :=
  ⟨rfl, rfl, rfl, by simp, fun j hj _ => heap_grow_old (w.drewN k) os hj⟩

theorem holds_zero0 (w : World) (T : TypeId) (nd : Nat) (hs : nd ≤ 24) : Holds (fun (b : UInt8) => Value.int .u8 (b.toNat : Int)) (w.alloc (.cells Lib.zeros24 T)) w.heap.size 0 (Array.replicate nd (0 : UInt8)) := fun j hj => by
  have hj' : j < nd := by simpa using hj
  refine ⟨?_, World.frozen?_alloc_new _ _ _ _⟩
  rw [World.cell?_alloc_new, Lib.zeros24_at _ (by omega), getElem!_pos _ j hj]
  simp

theorem fin_pos0 (w : World) (o : Obj) (dk : Array UInt8) (k : Nat) : ∃ os, (putRow (fun (b : UInt8) => Value.int .u8 (b.toNat : Int)) (w.alloc o) w.heap.size 0 dk).drewN k = grow (w.drewN k) os := by
  rw [alloc_eq_grow]
  obtain ⟨os', _, e⟩ := putRow_grow_new (fun (b : UInt8) => Value.int .u8 (b.toNat : Int)) w #[o] w.heap.size 0 dk (Nat.le_refl _)
  exact ⟨os', by rw [e]; rfl⟩

end Go.Proofs.YtfelokgmoiblgaaDoor
/-
  nat.Text: the decimal digits.
-/
namespace Go.Proofs.YtfelokgmoiblgaaDoor
open Go.RowKit

/-- The length of a slice's value. -/
def slen : Value → Nat
  | .slice _ n _ => n
  | _ => 0

theorem owns_only {w w' : World} {S : List Nat} {base : Nat} {e : TypeId} {s n : Nat} {v : Value} {xs : List Value} (h : w.ownsRow base e s v n xs) (ho : Only S w w') (hn : ∀ g, v.ownBlock = some g → g ∉ S) : w'.ownsRow base e s v n xs := by
  rcases h with ⟨h0, h1 | ⟨g, cap, cur, rfl, hb, hg, h2⟩⟩
  · exact ⟨h0, .inl h1⟩
  · exact ⟨h0, .inr ⟨g, cap, cur, rfl, hb, ho.heap hg (hn g rfl), h2⟩⟩

theorem builder_only {w w' : World} {T e : TypeId} {B b : Nat} {bs : List Value} (h : Lib.IsBuilderF T e B b bs w) (ho : Only [] w w') : Lib.IsBuilderF T e B b bs w' := by
  have key : ∀ p, Lib.BuilderAtF T e B b p bs w → Lib.BuilderAtF T e B b p bs w' := by
    rintro p ⟨hB, v, hb, ⟨h0, h1⟩, hne⟩
    refine ⟨hB, v, ho.heap hb (by simp), ⟨h0, ?_⟩, hne⟩
    rcases h1 with h1 | ⟨g, cap, cur, fz, rfl, hbg, hg, h2⟩
    · exact .inl h1
    · exact .inr ⟨g, cap, cur, fz, rfl, hbg, ho.heap hg (by simp), h2⟩
  rcases h with h | h
  · exact .inl (key _ h)
  · exact .inr (key _ h)

theorem size_mk (l : List UInt8) : (⟨l.toArray⟩ : ByteArray).size = l.length := by simp [ByteArray.size]

theorem below_only {w w1 w2 : World} {B : Nat} (h : Below B w w1) (ho : Only [] w1 w2) (hB : B ≤ w.heap.size) : Below B w w2 :=
  ⟨ho.os.trans h.os, ho.tape.trans h.tape, ho.output.trans h.output, Nat.le_trans h.size ho.size, fun k hk => (ho.block k (Nat.lt_of_lt_of_le hk (Nat.le_trans hB h.size)) (by simp)).trans (h.block k hk)⟩

theorem BB_le_CH2 : BB ≤ CH ^ 2 := by rw [BB_val, CH_pow]; decide

theorem chunks_len_bb {n k : Nat} (h : n < BB ^ k) : (chunks n).length ≤ 2 * k := by
  apply chunks_len_le
  rw [Nat.pow_mul]
  exact Nat.lt_of_lt_of_le h (Nat.pow_le_pow_left BB_le_CH2 k)

/-- A row of numbers whose head is n: n's limbs, and whatever is behind them. -/
theorem limb_row {zs : List Nat} (h : Limb zs) (tl : List Value) : ∃ tl', limbV zs ++ tl = limbV (limbsOf (val zs)) ++ tl' := by
  have e := (limbsOf_take h).1
  refine ⟨limbV (zs.drop (limbsOf (val zs)).length) ++ tl, ?_⟩
  rw [← List.append_assoc]
  congr 1
  have h2 : zs = zs.take (limbsOf (val zs)).length ++ zs.drop (limbsOf (val zs)).length := (List.take_append_drop _ _).symm
  rw [e] at h2
  have h3 := congrArg limbV h2
  simpa [limbV] using h3

/-- A result as a row. -/
theorem Res.row {w0 w : World} {u : Value} {n : Nat} (h : Res w0 w u n) (hn : n ≠ 0) : ∃ g c tl, u = .slice (some ⟨g, 0, none⟩) (limbsOf n).length c ∧ Blk w g 54 (limbV (limbsOf n) ++ tl) ∧ w0.heap.size ≤ g ∧ g < w.heap.size ∧ (limbsOf n).length ≤ c := by
  have h1 := h.at_
  rcases h1.2 with ⟨rfl, h0⟩ | ⟨g, cap, cur, rfl, _, hg, hc, _, _, ht⟩
  · exact absurd (limbsOf_len0.1 h0) hn
  · refine ⟨g, cap, cur.toList.drop (limbsOf n).length, rfl, ?_, h.fresh g rfl, lt_of_heap hg, hc⟩
    unfold Blk
    rw [hg]
    congr 2
    apply Array.ext'
    rw [Nat.mul_one] at ht
    rw [← ht]
    simp

theorem LRead.of_tl {w : World} {g : Nat} {t : TypeId} {xs : List Nat} {tl : List Value} (h : Blk w g t (limbV xs ++ tl)) : LRead w (some ⟨g, 0, none⟩) xs := fun k hk => ⟨g, 0, rfl, by
  rw [h.cell, Nat.zero_add, List.getElem?_append_left (by rw [limbV_len]; exact hk), limbV_get _ _ hk]⟩

/-- The first loop of Text. -/
structure XCar (w wr : World) (B g n c : Nat) (pv : Value) (q : Nat) (ps : List Nat) (tl : List Value) : Prop where
  blk : Blk wr g 54 (limbV (limbsOf q) ++ tl)
  own : wr.ownsRow B 54 1 pv ps.length (limbV ps)
  cut : Cut n ps q
  only : Only [] w wr
  le : (limbsOf q).length ≤ c
  len : ((limbsOf q).length : Int) ≤ 4000000
  big : B ≤ wr.heap.size

theorem XCar.many {w wr : World} {B g n c : Nat} {pv : Value} {q : Nat} {ps : List Nat} {tl : List Value} (h : XCar w wr B g n c pv q ps tl) : ps.length + (chunks q).length = (chunks n).length := by
  rw [h.cut.all, List.length_append]

def TextPost (n : Nat) (w : World) (e : Ending) (w' : World) : Prop := e = .returned (.string ⟨(Lib.decDigits n).toArray⟩) ∧ Only [] w w'

end Go.Proofs.YtfelokgmoiblgaaDoor
