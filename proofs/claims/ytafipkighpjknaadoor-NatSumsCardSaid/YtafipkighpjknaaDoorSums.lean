/-
  Rows of numbers of the call's own, that grow (NatSums).
-/
import Derived.Test.YtafipkighpjknaaDoorLimbssIn
import Derived.Test.YtafipkighpjknaaDoorGNV
import Derived.Test.YtafipkighpjknaaDoorTyr
import Derived.Test.YtafipkighpjknaaDoorGRefS
namespace Go.Proofs.YtafipkighpjknaaDoor
open Go.RowKit

/-- A row of slices of the call's own. -/
structure ARow (w0 w : World) (u : Value) (I : List LI1) : Prop where
  own : w.ownsRow w0.heap.size 28 1 u I.length (I.map LI1.v)
theorem ARow.nil (w0 w : World) : ARow w0 w (.slice none 0 0) [] := ⟨World.ownsRow_nil _ _ _ _⟩
theorem ARow.only {w0 w w' : World} {u : Value} {I : List LI1} {S : List Nat} (h : ARow w0 w u I) (ho : Only S w w') (hn : ∀ g, u.ownBlock = some g → g ∉ S) : ARow w0 w' u I := by
  rcases h with ⟨h0, h1 | ⟨g, cap, cur, rfl, hb, hg, h2⟩⟩
  · exact ⟨h0, .inl h1⟩
  · exact ⟨h0, .inr ⟨g, cap, cur, rfl, hb, ho.heap hg (hn g rfl), h2⟩⟩
theorem ARow.lt {w0 w : World} {u : Value} {I : List LI1} (h : ARow w0 w u I) : ∀ g, u.ownBlock = some g → w0.heap.size ≤ g ∧ g < w.heap.size := fun g hg => World.ownsRow.lt h.own g hg
theorem ARow.read {w0 w : World} {u : Value} {I : List LI1} (h : ARow w0 w u I) : ∃ A c, u = .slice A I.length c ∧ (∀ (j : Nat) (hj : j < I.length), ∃ b, A = some ⟨b, 0, none⟩ ∧ w.cell? ⟨b, 0 + j, none⟩ = some I[j].v) ∧ I.length ≤ c ∧ c ≤ maxLen := by
  rcases id h.own.2 with ⟨rfl, h0⟩ | ⟨g, cap, cur, rfl, _, hg, hn, hm, _⟩
  · exact ⟨none, 0, by rw [h0], fun k hk => by omega, by omega, Nat.zero_le _⟩
  · refine ⟨_, cap, rfl, fun k hk => ⟨g, rfl, ?_⟩, hn, hm⟩
    have hc := World.ownsRow.cells h.own (g := g) rfl
    have h1 := hc k (I[k].v) (by rw [List.getElem?_map, List.getElem?_eq_getElem hk]; rfl)
    rw [addr_plus] at h1
    exact h1
theorem Tryd.natInfo : (Tryd.prog.info? 28).map (fun i => (i.zero, i.size, i.bytes)) = some (some (.slice none 0 0), 1, 24) := by kernel_rfl
theorem nat_parts : ∃ i : TypeInfo, Tryd.prog.info? 28 = some i ∧ i.zero = some (.slice none 0 0) ∧ i.size = 1 ∧ i.bytes = 24 := by
  obtain ⟨i, h, e⟩ := Option.map_eq_some_iff.1 Tryd.natInfo
  simp only [Prod.mk.injEq] at e
  exact ⟨i, h, e.1, e.2.1, e.2.2⟩
/-- Some more. -/
theorem append_rows {w0 w : World} {ops : Array Oper} {rest : List Oper} {o : Oper} {a : Act} {Q : Exit → Act → World → Prop} (hgd : o.guard = none) (s x : Operand)
    (ho : o.op = .call { callee := .builtin .append, args := #[s, x], argTypes := #[45, 45] }) (u : Value) (n m c0 : Nat) (I J : List LI1) (hs : a.eval s = u) (hu : ARow w0 w u I) (hn : n = I.length) (ad : Addr) (hx : a.eval x = .slice (some ad) m c0) (hm : m = J.length)
    (hc : ∀ (j : Nat) (hj : j < J.length), w.cell? (ad.add j) = some J[j].v) (hl : n + m ≤ 1000) (hw : w0.heap.size ≤ w.heap.size)
    (h : ∀ v' w', ARow w0 w' v' (I ++ J) → (∀ g, v'.ownBlock = some g → u.ownBlock = some g ∨ w.heap.size ≤ g) → Only u.ownBlock.toList w w' → wpList Tryd.prog ops Q rest (a.put o.dst v') w') : wpList Tryd.prog ops Q (o :: rest) a w := by
  subst hn hm
  obtain ⟨i0, hi, hz0, hz1, hz2⟩ := nat_parts
  refine wpList_append_own_at _ hgd s x 45 ho w0.heap.size 28 i0 (.slice none 0 0) 1 24 Tryd.underlying45 hi hz0 hz1 hz2 rfl (by decide) u I.length (I.map LI1.v) hs hu.own ad J.length c0 (J.map LI1.v) hx (by simp) (fun j v hj => by
    obtain ⟨h1, h2⟩ := List.getElem?_eq_some_iff.1 hj
    rw [List.length_map] at h1
    rw [hc j h1, ← h2, List.getElem_map]) (fun v hv => by
    obtain ⟨z, _, rfl⟩ := List.mem_map.1 hv
    rfl) (by simp only [maxLen]; omega) (by omega) hw ?_
  intro v' w' h1 h2 _ h4
  refine h v' w' ⟨?_⟩ (fun g hg => ?_) (Only.of_grown h2 (fun k hk => by rw [hk]; simp))
  · rw [List.length_append, List.map_append]; exact h1
  · rcases h4 with h5 | h5
    · left; rw [← h5]; exact hg
    · right
      rw [h5] at hg
      injection hg with hg
      omega

/-- One more. -/
theorem append_row1 {w0 w : World} {ops : Array Oper} {rest : List Oper} {o : Oper} {a : Act} {Q : Exit → Act → World → Prop} (hgd : o.guard = none) (s x : Operand)
    (ho : o.op = .call { callee := .builtin .append, args := #[s, x], argTypes := #[45, 45] }) (u : Value) (n : Nat) (I : List LI1) (z : LI1) (hs : a.eval s = u) (hu : ARow w0 w u I) (hn : n = I.length) (g : Nat) (hx : a.eval x = .slice (some ⟨g, 0, none⟩) 1 1) (hb : Blk w g 28 [z.v]) (hl : n ≤ 100) (hw : w0.heap.size ≤ w.heap.size)
    (h : ∀ A' c' w', ARow w0 w' (.slice A' (n + 1) c') (I ++ [z]) → (∀ g, (Value.slice A' (n + 1) c').ownBlock = some g → u.ownBlock = some g ∨ w.heap.size ≤ g) → Only u.ownBlock.toList w w' → wpList Tryd.prog ops Q rest (a.put o.dst (.slice A' (n + 1) c')) w') : wpList Tryd.prog ops Q (o :: rest) a w := by
  refine append_rows hgd s x ho u n 1 1 I [z] hs hu hn ⟨g, 0, none⟩ hx rfl (fun j hj => ?_) (by omega) hw (fun v' w' h1 h2 h3 => ?_)
  · obtain rfl : j = 0 := by simpa using hj
    rw [addr_plus, hb.cell]
    rfl
  · obtain ⟨A, c, rfl, _⟩ := h1.read
    have e : (I ++ [z]).length = n + 1 := by rw [List.length_append, hn]; rfl
    rw [e] at h1 h2 ⊢
    exact h A c w' h1 h2 h3

/-! ### The numbers of a row -/
def tot (I : List LI1) : Nat := (I.map fun x => val x.xs).sum
theorem tot_append (I J : List LI1) : tot (I ++ J) = tot I + tot J := by simp [tot]
theorem tot_one (x : LI1) : tot [x] = val x.xs := by simp [tot]
theorem tot_reverse (I : List LI1) : tot I.reverse = tot I := by
  induction I with
  | nil => rfl
  | cons x I ih => rw [List.reverse_cons, tot_append, ih, ← List.singleton_append (l := I), tot_append, Nat.add_comm]
/-- Each is light. -/
def Lt40 (w : World) (I : List LI1) : Prop := ∀ x ∈ I, LI1.ok w x ∧ x.xs.length ≤ 40
theorem Lt40.only {w w' : World} {I : List LI1} (h : Lt40 w I) (ho : Only [] w w') : Lt40 w' I := fun x hx => ⟨⟨(h x hx).1.1.only ho, (h x hx).1.2⟩, (h x hx).2⟩
theorem Lt40.sub {w : World} {I J : List LI1} (h : Lt40 w I) (hs : ∀ x ∈ J, x ∈ I) : Lt40 w J := fun x hx => h x (hs x hx)
theorem tot_le {w : World} {I : List LI1} (h : Lt40 w I) : tot I ≤ I.length * BB ^ 40 := by
  induction I with
  | nil => simp [tot]
  | cons x I ih =>
    have h1 := ih (h.sub (fun y hy => List.mem_cons_of_mem _ hy))
    obtain ⟨h2, h3⟩ := h x (by simp)
    have h4 : val x.xs < BB ^ 40 := Nat.lt_of_lt_of_le (val_lt h2.1.2) (Nat.pow_le_pow_right BB_pos h3)
    have e : tot (x :: I) = val x.xs + tot I := by simp [tot]
    rw [e, List.length_cons, Nat.succ_mul]
    omega
theorem tot_few {w : World} {I : List LI1} (h : Lt40 w I) (hl : I.length ≤ 12) : Lim (tot I) 41 := by
  have h1 := tot_le h
  have h2 : I.length * BB ^ 40 ≤ 12 * BB ^ 40 := Nat.mul_le_mul_right _ hl
  have h3 : 12 * BB ^ 40 < BB ^ 41 := by
    rw [Nat.pow_succ, Nat.mul_comm]
    exact Nat.mul_lt_mul_of_pos_left (by rw [BB_val]; omega) (BB_pow_pos 40)
  exact Nat.lt_of_le_of_lt (Nat.le_trans h1 h2) h3
/-- Add of a row. -/
theorem addRow_v {w0 w : World} {A : Option Addr} {n c : Nat} {I : List LI1} (hA : Hid (ARow w0 w (.slice A n c) I)) (hok : Hid (Lt40 w I)) (hl : I.length ≤ 12) : Calls Tryd.prog 36 #[.slice A n c] w (NPostV (tot I) w w) := by
  obtain ⟨A', c', e, hr, h1, h2⟩ := hA.out.read
  injection e with e1 e2 e3
  subst e1 e2 e3
  have hs : sumL (I.map fun x => (⟨x.a, x.c, x.xs⟩ : Item)) = tot I := by
    unfold sumL tot
    rw [List.map_map]
    rfl
  have hlen : (I.map fun x => (⟨x.a, x.c, x.xs⟩ : Item)).length = I.length := by simp
  have h := add_any A c (I.map fun x => (⟨x.a, x.c, x.xs⟩ : Item)) w (Lib.hid (fun k hk => by
    rw [hlen] at hk
    obtain ⟨b, rfl, hc⟩ := hr k hk
    obtain ⟨⟨k1, k2, k3⟩, k4⟩ := hok.out I[k] (List.getElem_mem hk)
    refine ⟨b, 0, rfl, ?_, ?_, ?_, ?_⟩
    · rw [hc]; simp [LI1.v]
    · simp only [List.getElem_map]; exact ⟨k1.1, k1.2, by omega⟩
    · simp only [List.getElem_map]; exact k2
    · simp only [List.getElem_map]; omega)) (by rw [hlen]; omega) (Lib.hid (by rw [hs]; exact few_pow ((tot_few hok.out hl).few (by omega)) 3999999 (by rw [MX_val]; omega)))
  rw [hlen, hs] at h
  exact h.mono fun e w' hp => NPostV.of hp ((tot_few hok.out hl).few (by omega))

/-! ### The law's loop -/
theorem RV.onlyK {w w' : World} {S : List Nat} {A : Option Addr} {k c n : Nat} (h : RV w (.slice A k c) n) (ho : Only S w w') (hS : k ≠ 0 → ∀ a, A = some a → a.block ∉ S) : RV w' (.slice A k c) n := by
  obtain ⟨A', c', e, h2, h3⟩ := h
  injection e with e1 e2 e3
  subst e1 e2 e3
  refine ⟨A, c, rfl, fun j hj => ?_, h3⟩
  obtain ⟨b, o, rfl, hc⟩ := h2 j hj
  exact ⟨b, o, rfl, ho.cell hc (by simpa using hS (by omega) ⟨b, o, none⟩ rfl)⟩
theorem RV.blk {w : World} {A : Option Addr} {k c n : Nat} (h : RV w (.slice A k c) n) (hk : k ≠ 0) : ∀ a, A = some a → a.block < w.heap.size := by
  obtain ⟨A', c', e, h2, h3⟩ := h
  injection e with e1 e2 e3
  subst e1 e2 e3
  obtain ⟨b, o, rfl, hc⟩ := h2 0 (by omega)
  intro a ha
  injection ha with ha
  subst ha
  exact World.block_lt_of_cell? w _ hc
structure SC (w wr : World) (L : List LI1) (i : Nat) (A1 A2 A3 : Option Addr) (c1 c2 k3 c3 : Nat) : Prop where
  r1 : ARow w wr (.slice A1 i c1) (L.take i)
  r2 : ARow w wr (.slice A2 i c2) (L.reverse.take i)
  ne : ∀ g, (Value.slice A1 i c1).ownBlock = some g → (Value.slice A2 i c2).ownBlock ≠ some g
  sm : RV wr (.slice A3 k3 c3) (tot (L.take i))
  far : k3 ≠ 0 → ∀ a, A3 = some a → (Value.slice A1 i c1).ownBlock ≠ some a.block ∧ (Value.slice A2 i c2).ownBlock ≠ some a.block
  only : Only [] w wr
theorem SC.start (w : World) (L : List LI1) : SC w w L 0 none none none 0 0 0 0 :=
  ⟨by rw [List.take_zero]; exact ARow.nil _ _, by rw [List.take_zero]; exact ARow.nil _ _, fun g h => (by cases h), by rw [List.take_zero]; exact RV.nil _, fun h => absurd rfl h, Only.refl _ _⟩
/-- A row that a drawn region makes. -/
def isAR (w0 : World) (B k : Nat) (I : List LI1) : VP := fun u w => ∃ A c, u = .slice A k c ∧ ARow w0 w (.slice A k c) I ∧ ∀ g, (Value.slice A k c).ownBlock = some g → B ≤ g
theorem isAR.lasts (w0 : World) (B k : Nat) (I : List LI1) : Lasts (isAR w0 B k I) := fun _ _ _ ⟨A, c, h1, h2, h3⟩ ho => ⟨A, c, h1, h2.only ho (by simp), h3⟩
theorem all_isAR {w0 : World} {B k : Nat} {I : List LI1} {w : World} {K : Value → Prop} (h : ∀ A c, Hid (ARow w0 w (.slice A k c) I) → Hid (∀ g, (Value.slice A k c).ownBlock = some g → B ≤ g) → K (.slice A k c)) : ∀ v, isAR w0 B k I v w → K v := fun v ⟨A, c, h1, h2, h3⟩ => by
  subst h1
  exact h A c h2 h3
theorem grow_rows {w0 w : World} {o : Oper} {a : Act} {B : Nat} (s x : Operand)
    (ho : o.op = .call { callee := .builtin .append, args := #[s, x], argTypes := #[45, 45] }) (hs : a.eval s = .slice none 0 0) (m c0 : Nat) (J : List LI1) (ad : Addr) (hx : a.eval x = .slice (some ad) m c0) (hm : m = J.length)
    (hc : ∀ (j : Nat) (hj : j < J.length), w.cell? (ad.add j) = some J[j].v) (hl : m ≤ 1000) (hw : w0.heap.size ≤ w.heap.size) (hB : B ≤ w.heap.size) : growAt Tryd.prog o a w (isAR w0 B m J) := by
  subst hm
  obtain ⟨i0, hi, hz0, hz1, hz2⟩ := nat_parts
  obtain ⟨v', w', hrun, h1, h2, _, h4⟩ := run_append_own_at (P := Tryd.prog) w w0.heap.size 45 o.type 28 i0 (.slice none 0 0) 1 24 Tryd.underlying45 hi hz0 hz1 hz2 rfl (by decide) (.slice none 0 0) 0 [] (World.ownsRow_nil _ _ _ _) ad J.length c0 (J.map LI1.v) (by simp) (fun j v hj => by
    obtain ⟨h1, h2⟩ := List.getElem?_eq_some_iff.1 hj
    rw [List.length_map] at h1
    rw [hc j h1, ← h2, List.getElem_map]) (fun v hv => by
    obtain ⟨z, _, rfl⟩ := List.mem_map.1 hv
    rfl) (by simp only [maxLen]; omega) (by omega) hw
  have hr : ARow w0 w' v' J := ⟨by rw [Nat.zero_add, List.nil_append] at h1; exact h1⟩
  obtain ⟨A', c', rfl, _⟩ := hr.read
  unfold growAt execOp
  simp only [ho, resolve, invoke, builtin, Sem.run_bind, Sem.run_pure, Result.andThen_ok, List.map_toArray, List.map_cons, List.map_nil, hs, hx, hrun]
  refine ⟨Only.of_grown h2 (fun k hk => by simp [Value.ownBlock] at hk), A', c', rfl, hr, fun g hg => ?_⟩
  rcases h4 with h5 | h5
  · rw [h5] at hg; simp [Value.ownBlock] at hg
  · rw [h5] at hg
    injection hg with hg
    omega
set_option maxRecDepth 100000 in
theorem slice_headN (A : Option Addr) (n c m : Nat) (h : m ≤ c) (w : World) : (Instr.slice 45 (.slice A n c) none (some (.int .i64 (m : Int))) none).run Tryd.prog w = .ok (.slice A m c) w := by
  have hs : (sizeOf (Tryd.prog.elem 45)).run Tryd.prog w = .ok 1 w := by kernel_rfl
  rw [run_slice_h (P := Tryd.prog) (w := w) 45 A n c (by kernel_rfl) .i64 (m : Int) (by omega) (by omega), hs]
  simp only [Result.andThen, sliced, Int.toNat_natCast]
  cases A <;> simp [Addr.add]
set_option maxRecDepth 100000 in
theorem slice_tailN (b n c m : Nat) (h : m ≤ n) : ∃ o, (m ≠ c → o = m) ∧ ∀ w, (Instr.slice 45 (.slice (some ⟨b, 0, none⟩) n c) (some (.int .i64 (m : Int))) none none).run Tryd.prog w = .ok (.slice (some ⟨b, o, none⟩) (n - m) (c - m)) w := by
  by_cases hc : m = c
  · refine ⟨0, fun hn => absurd hc hn, fun w => ?_⟩
    have hs : (sizeOf (Tryd.prog.elem 45)).run Tryd.prog w = .ok 1 w := by kernel_rfl
    rw [run_slice_l (P := Tryd.prog) (w := w) 45 (some ⟨b, 0, none⟩) n c (by kernel_rfl) .i64 (m : Int) (by omega) (by omega), hs]
    simp only [Result.andThen, sliced, Int.toNat_natCast]
    simp [hc]
  · refine ⟨m, fun _ => rfl, fun w => ?_⟩
    have hs : (sizeOf (Tryd.prog.elem 45)).run Tryd.prog w = .ok 1 w := by kernel_rfl
    rw [run_slice_l (P := Tryd.prog) (w := w) 45 (some ⟨b, 0, none⟩) n c (by kernel_rfl) .i64 (m : Int) (by omega) (by omega), hs]
    simp only [Result.andThen, sliced, Int.toNat_natCast]
    simp [addr_plus, Ne.symm hc]
theorem mem_own {u : Value} {k : Nat} (h : k ∈ u.ownBlock.toList) : u.ownBlock = some k := by simpa using h
theorem ARow.outer {w0 wr w1 : World} {u : Value} {I : List LI1} (h : ARow w0 wr u I) (hw : Only [] w0 wr) {wa : World} (ha : Only [] wr wa) (ho : Only u.ownBlock.toList wa w1) : Only [] w0 w1 := (hw.nil_trans ha).trans ho (fun k hk => .inr (h.lt k (mem_own hk)).1)
theorem SC.one {w wr wa w1 : World} {L : List LI1} {i : Nat} {A1 A2 A3 : Option Addr} {c1 c2 k3 c3 : Nat} (h : SC w wr L i A1 A2 A3 c1 c2 k3 c3) (ha : Only [] wr wa) (ho : Only (Value.slice A1 i c1).ownBlock.toList wa w1) :
    ARow w w1 (.slice A2 i c2) (L.reverse.take i) ∧ RV w1 (.slice A3 k3 c3) (tot (L.take i)) ∧ Only [] w w1 :=
  ⟨(h.r2.only ha (by simp)).only ho (fun g hg hm => h.ne g (mem_own hm) hg), (h.sm.only ha).onlyK ho (fun hk a e hm => (h.far hk a e).1 (mem_own hm)), h.r1.outer h.only ha ho⟩
theorem SC.two {w wr wa w1 wb w2 : World} {L : List LI1} {i : Nat} {A1 A2 A3 : Option Addr} {c1 c2 k3 c3 : Nat} (h : SC w wr L i A1 A2 A3 c1 c2 k3 c3) (ha : Only [] wr wa) (ho : Only (Value.slice A1 i c1).ownBlock.toList wa w1) (hb : Only [] w1 wb) (ho2 : Only (Value.slice A2 i c2).ownBlock.toList wb w2) :
    RV w2 (.slice A3 k3 c3) (tot (L.take i)) ∧ Only [] w w2 := by
  obtain ⟨k1, k2, k3'⟩ := h.one ha ho
  exact ⟨(k2.only hb).onlyK ho2 (fun hk a e hm => (h.far hk a e).2 (mem_own hm)), k1.outer k3' hb ho2⟩
theorem SC.next {w wr wa w1 wb w2 w4 : World} {L : List LI1} {i : Nat} {A1 A2 A3 A1' A2' A4 : Option Addr} {c1 c2 k3 c3 c1' c2' k4 c4 : Nat} {z1 z2 : LI1} (h : SC w wr L i A1 A2 A3 c1 c2 k3 c3) (e1 : L.take (i + 1) = L.take i ++ [z1]) (e2 : L.reverse.take (i + 1) = L.reverse.take i ++ [z2])
    (ha : Only [] wr wa) (o1 : Only (Value.slice A1 i c1).ownBlock.toList wa w1) (H1 : ARow w w1 (.slice A1' (i + 1) c1') (L.take i ++ [z1])) (B1 : ∀ g, (Value.slice A1' (i + 1) c1').ownBlock = some g → (Value.slice A1 i c1).ownBlock = some g ∨ wa.heap.size ≤ g)
    (hb : Only [] w1 wb) (o2 : Only (Value.slice A2 i c2).ownBlock.toList wb w2) (H2 : ARow w w2 (.slice A2' (i + 1) c2') (L.reverse.take i ++ [z2])) (B2 : ∀ g, (Value.slice A2' (i + 1) c2').ownBlock = some g → (Value.slice A2 i c2).ownBlock = some g ∨ wb.heap.size ≤ g)
    (o3 : Only [] w2 w4) (sm : RV w4 (.slice A4 k4 c4) (tot (L.take i) + val z1.xs)) (fr : ∀ a, A4 = some a → w2.heap.size ≤ a.block) : SC w w4 L (i + 1) A1' A2' A4 c1' c2' k4 c4 := by
  obtain ⟨k1, k2, k3'⟩ := h.one ha o1
  have n12 : ∀ g, (Value.slice A1' (i + 1) c1').ownBlock = some g → (Value.slice A2 i c2).ownBlock ≠ some g := fun g hg hc => by
    rcases B1 g hg with h1 | h1
    · exact h.ne g h1 hc
    · have := (h.r2.lt g hc).2
      have := ha.size
      omega
  refine ⟨?_, ?_, fun g hg hc => ?_, ?_, fun hk a e => ?_, (k1.outer k3' hb o2).nil_trans o3⟩
  · rw [e1]
    exact ((H1.only hb (by simp)).only o2 (fun g hg hm => n12 g hg (mem_own hm))).only o3 (by simp)
  · rw [e2]
    exact H2.only o3 (by simp)
  · rcases B2 g hc with h1 | h1
    · exact n12 g hg h1
    · have := (H1.lt g hg).2
      have := hb.size
      omega
  · rw [e1, tot_append, tot_one]; exact sm
  · have h1 := fr a e
    constructor
    · intro hc
      have := (H1.lt _ hc).2
      have := hb.size
      have := o2.size
      omega
    · intro hc
      have := (H2.lt _ hc).2
      omega
end Go.Proofs.YtafipkighpjknaaDoor
