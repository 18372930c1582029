/-
  nat: sums and differences: math/bits' Add64 and Sub64, addAt, add, Add, sub, Sub.
-/
import Derived.Test.YtphjcphcgnjogaaDoorNatA
import Derived.Shelf.Spec.BitsCarry
namespace Go.Proofs.YtphjcphcgnjogaaDoor
open Go.RowKit

def aLo (x y c : Nat) : Nat := (x + y + c) % BB
def aHi (x y c : Nat) : Nat := (x + y + c) / BB
theorem add64_run (x y c : Nat) (hx : x < BB) (hy : y < BB) (hc : c ≤ 1) (w : World) :
    (callFunc 98 #[.int .u64 (x : Int), .int .u64 (y : Int), .int .u64 (c : Int)]).run Tryd.prog w = .ok (.value (.tuple #[.int .u64 ((aLo x y c : Nat) : Int), .int .u64 ((aHi x y c : Nat) : Int)])) w := by
  rw [BB_val] at hx hy
  rw [run_callFunc_extern Tryd.func98 (by kernel_rfl) (by kernel_rfl) (by kernel_rfl) (e := add64Entry) (by kernel_rfl), run_add64 x y c (by omega) (by omega) (by omega) (by omega)]
  unfold aLo aHi
  rw [BB_val]
  simp only [Result.andThen]
  congr 5 <;> omega
theorem aLo_lt (x y c : Nat) : aLo x y c < BB := Nat.mod_lt _ BB_pos
theorem add64_law (x y c : Nat) : aLo x y c + BB * aHi x y c = x + y + c := Nat.mod_add_div _ _
theorem aHi_le {x y c : Nat} (hx : x < BB) (hy : y < BB) (hc : c ≤ 1) : aHi x y c ≤ 1 := by
  unfold aHi
  apply Nat.le_of_lt_succ
  rw [Nat.div_lt_iff_lt_mul BB_pos]
  omega
def sLo (x y b : Nat) : Nat := (x + BB - y - b) % BB
def sHi (x y b : Nat) : Nat := if x < y + b then 1 else 0
theorem sub64_run (x y b : Nat) (hb : b ≤ 1) (w : World) :
    (callFunc 96 #[.int .u64 (x : Int), .int .u64 (y : Int), .int .u64 (b : Int)]).run Tryd.prog w = .ok (.value (.tuple #[.int .u64 ((sLo x y b : Nat) : Int), .int .u64 ((sHi x y b : Nat) : Int)])) w := by
  rw [run_callFunc_extern Tryd.func96 (by kernel_rfl) (by kernel_rfl) (by kernel_rfl) (e := sub64Entry) (by kernel_rfl), run_sub64 x y b hb]
  unfold sLo sHi
  rw [BB_val]
  rfl
theorem sLo_lt (x y b : Nat) : sLo x y b < BB := Nat.mod_lt _ BB_pos
theorem sHi_le (x y b : Nat) : sHi x y b ≤ 1 := by unfold sHi; split <;> omega
theorem sub64_law {x y b : Nat} (hx : x < BB) (hy : y < BB) (hb : b ≤ 1) : sLo x y b + y + b = x + BB * sHi x y b := by
  unfold sLo sHi
  have hp := BB_pos
  split
  · rename_i h
    by_cases e : y + b = BB + x
    · rw [show x + BB - y - b = 0 by omega, Nat.zero_mod]
      omega
    · rw [Nat.mod_eq_of_lt (by omega)]
      omega
  · rename_i h
    rw [show x + BB - y - b = (x - y - b) + BB by omega, Nat.add_mod_right, Nat.mod_eq_of_lt (by omega)]
    omega

/-- Where a sum under way stands. -/
structure ACar (w wr : World) (g : Nat) (zs zs' : List Nat) (i cy T : Nat) : Prop where
  blk : Blk wr g 64 (limbV zs')
  limb : Limb zs'
  len : zs'.length = zs.length
  cyle : cy ≤ 1
  val_ : val zs' + BB ^ i * cy = T
  only : Only [g] w wr
theorem ACar.step {w wr : World} {g : Nat} {zs zs' : List Nat} {i cy T v : Nat} (h : ACar w wr g zs zs' i cy T) (hi : i < zs.length) (hv : v < BB) {T' : Nat} (hT : T' = T + BB ^ i * v) :
    ACar w (wr.setCell ⟨g, i, none⟩ (.int .u64 ((aLo (zs'[i]?.getD 0) v cy : Nat) : Int))) g zs (zs'.set i (aLo (zs'[i]?.getD 0) v cy)) (i + 1) (aHi (zs'[i]?.getD 0) v cy) T' := by
  refine ⟨?_, h.limb.set _ _ (aLo_lt _ _ _), by rw [List.length_set, h.len], aHi_le (h.limb.get i) hv h.cyle, ?_, h.only.trans ((Only.refl [g] wr).setCell (.inl (by simp)) _) (by simp)⟩
  · rw [← limbV_set]
    exact h.blk.set_ i _
  · rw [add_step (by rw [h.len]; exact hi) (add64_law _ _ _), hT, ← h.val_]
    omega

/-- What addAt leaves. -/
def AddPost (g : Nat) (zs : List Nat) (T : Nat) (w : World) (e : Ending) (w' : World) : Prop :=
  e = .returned (.tuple #[]) ∧ ∃ zs', Blk w' g 64 (limbV zs') ∧ Limb zs' ∧ zs'.length = zs.length ∧ val zs' = T ∧ Only [g] w w'

set_option maxHeartbeats 1600000 in
theorem addAt_any (g c : Nat) (zs : List Nat) (A : Option Addr) (d : Nat) (xs : List Nat) (p : Nat) (w : World) (hz : Hid (Blk w g 64 (limbV zs))) (hzl : Hid (Limb zs)) (hA : Hid (Arg w A xs)) (hag : Hid (0 < xs.length → ∀ a, A = some a → a.block ≠ g))
    (hlen : (zs.length : Int) ≤ 16000000) (hfit : (p : Int) + xs.length ≤ zs.length) (hval : Hid (val zs + BB ^ p * val xs < BB ^ zs.length)) :
    Calls Tryd.prog 78 #[.slice (some ⟨g, 0, none⟩) zs.length c, .slice A xs.length d, .int .i64 (p : Int)] w (AddPost g zs (val zs + BB ^ p * val xs) w) := by
  have HStart : Hid (ACar w w g zs zs p 0 (val zs)) := ⟨hz.out, hzl.out, rfl, by omega, by omega, Only.refl _ _⟩
  go_enter Tryd.func78, Tryd.ntmps78
  go_wp2_with fail
  go_loopw [6, 7, 13] (fun cv iv kv wr => ∃ (k cy : Nat) (zs' : List Nat), k ≤ xs.length ∧ kv = .int .i64 (k : Int) ∧ iv = .int .i64 ((p : Int) + k) ∧ cv = .int .u64 (cy : Int) ∧ ACar w wr g zs zs' (p + k) cy (val zs + BB ^ p * val (xs.take k))) (fun _ _ kv _ => xs.length - (intOf kv).toNat)
  case atStart => exact ⟨0, 0, zs, Nat.zero_le _, rfl, by simp, rfl, by simpa [val] using HStart.out⟩
  case round =>
    obtain ⟨k, cy, zs', hk, rfl, rfl, rfl, hR⟩ := hrel
    have HR := Lib.hid hR
    clear hR HStart
    by_cases hlt : k < xs.length
    · obtain ⟨b, o, rfl, hc⟩ := hA.out.read k hlt
      have hbg : b ≠ g := hag.out (by omega) _ rfl
      have c1 := HR.out.only.cell hc (by simpa using hbg)
      have c2 := HR.out.blk.cell (p + k)
      rw [limbV_get _ _ (by rw [HR.out.len]; omega)] at c2
      have f2 := HR.out.blk.frozen (p + k)
      have hvk := hA.out.limb.get k
      have ha := fun wx => add64_run (zs'[p + k]?.getD 0) (xs[k]?.getD 0) cy (HR.out.limb.get _) hvk HR.out.cyle wx
      have HS := Lib.hid (HR.out.step (T' := val zs + BB ^ p * val (xs.take (k + 1))) (by omega) hvk (by rw [val_take_succ xs k hlt, Nat.mul_add, ← Nat.mul_assoc, ← Nat.pow_add, ← Nat.add_assoc]))
      generalize zs'[p + k]?.getD 0 = z at c2 ha HS
      generalize xs[k]?.getD 0 = v at c1 ha HS
      have hk' : (k : Int) < (xs.length : Int) := by omega
      have hi' : (p : Int) + k < (zs.length : Int) := by omega
      clear hc hvk hlt
      go_wp2_with fail
      go_roundw
      case rel => exact ⟨k + 1, _, _, by omega, by go_num, by congr 1 <;> omega, rfl, HS.out⟩
      case measure => simp [intOf]; omega
    · have hnl : ¬ (k : Int) < (xs.length : Int) := by omega
      have e : k = xs.length := by omega
      have HR2 : Hid (ACar w wr g zs zs' (p + xs.length) cy (val zs + BB ^ p * val xs)) := by
        have := HR.out
        rw [e, val_take_all] at this
        exact this
      have e2 : (p : Int) + k = ((p + xs.length : Nat) : Int) := by omega
      rw [e2]
      clear e HR hlt e2
      go_wp2_with fail
      go_loopw [6, 7] (fun cv iv wq => ∃ (i cy : Nat) (zq : List Nat), i ≤ zs.length ∧ iv = .int .i64 (i : Int) ∧ cv = .int .u64 (cy : Int) ∧ ACar w wq g zs zq i cy (val zs + BB ^ p * val xs)) (fun _ iv _ => zs.length - (intOf iv).toNat)
      case atStart => exact ⟨_, cy, zs', by omega, rfl, rfl, HR2.out⟩
      case round =>
        obtain ⟨i, cy', zq, hi, rfl, rfl, hR⟩ := hrel
        have HR := Lib.hid hR
        have hcy := hR.cyle
        clear hR HR2
        by_cases h0 : cy' = 0
        · have g0 : ((cy' : Int) != 0) = false := by simp [h0]
          have HV : Hid (val zq = val zs + BB ^ p * val xs) := by
            have := HR.out.val_
            rw [h0, Nat.mul_zero] at this
            exact this
          clear h0 hcy
          go_wp2_with fail
          go_returns
          exact ⟨rfl, zq, HR.out.blk, HR.out.limb, HR.out.len, HV.out, HR.out.only⟩
        · have e1 : cy' = 1 := by omega
          by_cases hlt : i < zs.length
          · have g0 : ((cy' : Int) != 0) = true := by simp [e1]
            have c2 := HR.out.blk.cell i
            rw [limbV_get _ _ (by rw [HR.out.len]; omega)] at c2
            have f2 := HR.out.blk.frozen i
            have ha : ∀ wx, (callFunc 98 #[.int .u64 ((zq[i]?.getD 0 : Nat) : Int), .int .u64 0, .int .u64 (cy' : Int)]).run Tryd.prog wx = .ok (.value (.tuple #[.int .u64 ((aLo (zq[i]?.getD 0) 0 cy' : Nat) : Int), .int .u64 ((aHi (zq[i]?.getD 0) 0 cy' : Nat) : Int)])) wx :=
              fun wx => add64_run (zq[i]?.getD 0) 0 cy' (HR.out.limb.get _) BB_pos hcy wx
            have HS := Lib.hid (HR.out.step (T' := val zs + BB ^ p * val xs) hlt BB_pos (by omega))
            generalize zq[i]?.getD 0 = z at c2 ha HS
            have hi' : (i : Int) < (zs.length : Int) := by omega
            clear h0 e1 hlt hcy
            go_wp2_with fail
            go_roundw
            case rel => exact ⟨i + 1, _, _, by omega, by go_num, rfl, HS.out⟩
            case measure => simp [intOf]; omega
          · exfalso
            have h1 := HR.out.val_
            have h2 := hval.out
            have e2 : i = zs.length := by omega
            rw [e1, Nat.mul_one, e2] at h1
            omega

theorem Arg.lt {w : World} {A : Option Addr} {xs : List Nat} (h : Arg w A xs) : 0 < xs.length → ∀ a, A = some a → a.block < w.heap.size := fun h0 a ha => by
  obtain ⟨b, o, e, hc⟩ := h.read 0 h0
  rw [ha] at e
  injection e with e
  subst e
  exact World.block_lt_of_cell? w _ hc
theorem wpList_copy_limbs {w : World} {ops : Array Oper} {rest : List Oper} {o : Oper} {a : Act} {Q : Exit → Act → World → Prop} (hgd : o.guard = none) (s x : Operand)
    (ho : o.op = .call { callee := .builtin .copy, args := #[s, x], argTypes := #[25, 25] }) (g : Nat) (zs : List Nat) (n d : Nat) (hs : a.eval s = .slice (some ⟨g, 0, none⟩) n d) (hn : n = zs.length) (hb : Blk w g 64 (limbV zs)) (A : Option Addr) (xs : List Nat) (m c : Nat) (hx : a.eval x = .slice A m c) (hm : m = xs.length) (hr : LRead w A xs) (hl : xs.length ≤ zs.length)
    (h : ∀ w', Blk w' g 64 (limbV (xs ++ zs.drop xs.length)) → Only [g] w w' → w'.heap.size = w.heap.size → wpList Tryd.prog ops Q rest (a.put o.dst (goInt xs.length)) w') : wpList Tryd.prog ops Q (o :: rest) a w := by
  subst hn hm
  refine wpList_plain hgd fun K hK => ?_
  obtain ⟨w', hrun, h1, h2, h3⟩ := copy_nat w g zs A xs c d o.type hb hr hl
  unfold Oper.wp execOp
  simp only [ho, resolve, invoke, builtin, Sem.run_bind, Sem.run_pure, Result.andThen_ok, List.map_toArray, List.map_cons, List.map_nil, hs, hx, hrun]
  exact hK _ _ (h w' h1 h2 h3)

/-- A row that has been cut to its number. -/
theorem res_of_blk {w0 w : World} {g : Nat} {zs : List Nat} (hb : Blk w g 64 (limbV zs)) (hz : Limb zs) (hg : w0.heap.size ≤ g) (hl : (zs.length : Int) ≤ 16000000) : Res w0 w (.slice (some ⟨g, 0, none⟩) (limbsOf (val zs)).length zs.length) (val zs) := by
  have e := limbsOf_take hz
  refine ⟨?_, fun q hq => ?_⟩
  · have := LimbsAt.of_blk hb rfl (by simp only [maxLen]; omega) _ e.2
    rwa [e.1] at this
  · have : g = q := by simpa [Value.ownBlock] using hq
    omega

set_option maxHeartbeats 1600000 in
theorem add_le (A B : Option Addr) (c d : Nat) (xs ys : List Nat) (w : World) (hA : Hid (Arg w A xs)) (hB : Hid (Arg w B ys)) (hl : (ys.length : Int) ≤ xs.length) (hlm : (xs.length : Int) ≤ 3999999) :
    Calls Tryd.prog 64 #[.slice A xs.length c, .slice B ys.length d] w (NPost (val xs + val ys) w) := by
  obtain ⟨w1, hmk, hb1, ho1, hs1⟩ := make_nat w (xs.length + 1) (by omega)
  have hcast : ((xs.length + 1 : Nat) : Int) = (xs.length : Int) + 1 := by omega
  rw [hcast] at hmk
  have HB1 := Lib.hid hb1
  have HO1 := Lib.hid ho1
  have HAlt := Lib.hid hA.out.lt
  have HBlt := Lib.hid hB.out.lt
  clear hb1 ho1 hs1 hcast
  have hnl : ¬ (xs.length : Int) < (ys.length : Int) := by omega
  generalize hg : w.heap.size = g at HB1 hmk HAlt HBlt
  have HG : Hid (w.heap.size ≤ g) := by show _ ≤ _; omega
  clear hg
  go_enter Tryd.func64, Tryd.ntmps64
  go_wp2_with (with_reducible refine wpList_copy_limbs rfl _ _ rfl g (List.replicate (xs.length + 1) 0) _ _ rfl (by simp) HB1.out A xs _ _ rfl rfl (hA.out.read.only HO1.out) (by simp) ?_; intro w2 hb2 ho2 hs2)
  have e0 : xs ++ (List.replicate (xs.length + 1) 0).drop xs.length = xs ++ [0] := by simp
  rw [e0] at hb2
  have HB2 := Lib.hid hb2
  have HO2 : Hid (Only [] w w2) := HO1.out.trans ho2 (fun k hk => .inr (by simp at hk; rw [hk]; exact HG.out))
  have HL2 : Hid (Limb (xs ++ [0])) := hA.out.limb.append (limb_one BB_pos)
  have hv2 : val (xs ++ [0]) = val xs := by rw [val_append]; simp [val]
  have HV2 := Lib.hid hv2
  have HFit : Hid (val (xs ++ [0]) + BB ^ 0 * val ys < BB ^ (xs ++ [0]).length) := by
    show _ < _
    rw [hv2, List.length_append, List.length_singleton, Nat.pow_succ, Nat.pow_zero, Nat.one_mul]
    have h1 := val_lt hA.out.limb
    have h2 := val_lt hB.out.limb
    have h3 : BB ^ ys.length ≤ BB ^ xs.length := pow_le (by omega)
    have h4 : BB ^ xs.length * 2 ≤ BB ^ xs.length * BB := Nat.mul_le_mul_left _ BB_two
    omega
  clear hb2 ho2 hs2 e0 hv2 hmk
  have HAdd := Lib.hid (addAt_any g (xs.length + 1) (xs ++ [0]) B d ys 0 w2 HB2 HL2 (hB.out.only HO2.out) (fun h0 a ha => by have := HBlt.out h0 a ha; omega) (by simp; omega) (by simp; omega) HFit)
  rw [List.length_append, List.length_singleton] at HAdd
  refine HAdd.out.mono ?_
  rintro e w3 ⟨rfl, zs', hb3, hl3, hlen3, hv3, ho3⟩
  rw [List.length_append, List.length_singleton] at hlen3
  rw [HV2.out, Nat.pow_zero, Nat.one_mul] at hv3
  have HB3 := Lib.hid hb3
  have HL3 := Lib.hid hl3
  have HLen3 := Lib.hid hlen3
  have HV3 := Lib.hid hv3
  have HO3 : Hid (Only [] w w3) := HO2.out.trans ho3 (fun k hk => .inr (by simp at hk; rw [hk]; exact HG.out))
  clear hb3 hl3 hlen3 hv3 ho3 HAdd
  go_wp2_with fail
  (with_reducible refine (trim_row g _ _ zs' w3 HB3.out HL3.out HLen3.out.symm (Nat.le_refl _) (by omega)).mono ?_)
  rintro e w4 ⟨rfl, rfl⟩
  go_wp2_with fail
  go_ret
  have hr := res_of_blk (w0 := w) HB3.out HL3.out HG.out (by have := HLen3.out; omega)
  rw [HLen3.out] at hr
  exact ⟨_, rfl, HV3.out ▸ hr, HO3.out⟩

set_option maxHeartbeats 1600000 in
theorem add_gt (A B : Option Addr) (c d : Nat) (xs ys : List Nat) (w : World) (hA : Hid (Arg w A xs)) (hB : Hid (Arg w B ys)) (hl : (ys.length : Int) < xs.length) (hlm : (xs.length : Int) ≤ 3999999) :
    Calls Tryd.prog 64 #[.slice B ys.length d, .slice A xs.length c] w (NPost (val xs + val ys) w) := by
  obtain ⟨w1, hmk, hb1, ho1, hs1⟩ := make_nat w (xs.length + 1) (by omega)
  have hcast : ((xs.length + 1 : Nat) : Int) = (xs.length : Int) + 1 := by omega
  rw [hcast] at hmk
  have HB1 := Lib.hid hb1
  have HO1 := Lib.hid ho1
  have HAlt := Lib.hid hA.out.lt
  have HBlt := Lib.hid hB.out.lt
  clear hb1 ho1 hs1 hcast
  generalize hg : w.heap.size = g at HB1 hmk HAlt HBlt
  have HG : Hid (w.heap.size ≤ g) := by show _ ≤ _; omega
  clear hg
  go_enter Tryd.func64, Tryd.ntmps64
  go_wp2_with (with_reducible refine wpList_copy_limbs rfl _ _ rfl g (List.replicate (xs.length + 1) 0) _ _ rfl (by simp) HB1.out A xs _ _ rfl rfl (hA.out.read.only HO1.out) (by simp) ?_; intro w2 hb2 ho2 hs2)
  have e0 : xs ++ (List.replicate (xs.length + 1) 0).drop xs.length = xs ++ [0] := by simp
  rw [e0] at hb2
  have HB2 := Lib.hid hb2
  have HO2 : Hid (Only [] w w2) := HO1.out.trans ho2 (fun k hk => .inr (by simp at hk; rw [hk]; exact HG.out))
  have HL2 : Hid (Limb (xs ++ [0])) := hA.out.limb.append (limb_one BB_pos)
  have hv2 : val (xs ++ [0]) = val xs := by rw [val_append]; simp [val]
  have HV2 := Lib.hid hv2
  have HFit : Hid (val (xs ++ [0]) + BB ^ 0 * val ys < BB ^ (xs ++ [0]).length) := by
    show _ < _
    rw [hv2, List.length_append, List.length_singleton, Nat.pow_succ, Nat.pow_zero, Nat.one_mul]
    have h1 := val_lt hA.out.limb
    have h2 := val_lt hB.out.limb
    have h3 : BB ^ ys.length ≤ BB ^ xs.length := pow_le (by omega)
    have h4 : BB ^ xs.length * 2 ≤ BB ^ xs.length * BB := Nat.mul_le_mul_left _ BB_two
    omega
  clear hb2 ho2 hs2 e0 hv2 hmk
  have HAdd := Lib.hid (addAt_any g (xs.length + 1) (xs ++ [0]) B d ys 0 w2 HB2 HL2 (hB.out.only HO2.out) (fun h0 a ha => by have := HBlt.out h0 a ha; omega) (by simp; omega) (by simp; omega) HFit)
  rw [List.length_append, List.length_singleton] at HAdd
  refine HAdd.out.mono ?_
  rintro e w3 ⟨rfl, zs', hb3, hl3, hlen3, hv3, ho3⟩
  rw [List.length_append, List.length_singleton] at hlen3
  rw [HV2.out, Nat.pow_zero, Nat.one_mul] at hv3
  have HB3 := Lib.hid hb3
  have HL3 := Lib.hid hl3
  have HLen3 := Lib.hid hlen3
  have HV3 := Lib.hid hv3
  have HO3 : Hid (Only [] w w3) := HO2.out.trans ho3 (fun k hk => .inr (by simp at hk; rw [hk]; exact HG.out))
  clear hb3 hl3 hlen3 hv3 ho3 HAdd
  go_wp2_with fail
  (with_reducible refine (trim_row g _ _ zs' w3 HB3.out HL3.out HLen3.out.symm (Nat.le_refl _) (by omega)).mono ?_)
  rintro e w4 ⟨rfl, rfl⟩
  go_wp2_with fail
  go_ret
  have hr := res_of_blk (w0 := w) HB3.out HL3.out HG.out (by have := HLen3.out; omega)
  rw [HLen3.out] at hr
  exact ⟨_, rfl, HV3.out ▸ hr, HO3.out⟩

/-- add: the sum, in new memory. -/
theorem nadd_any (A B : Option Addr) (c d : Nat) (xs ys : List Nat) (w : World) (hA : Hid (Arg w A xs)) (hB : Hid (Arg w B ys)) (h1 : (xs.length : Int) ≤ 3999999) (h2 : (ys.length : Int) ≤ 3999999) :
    Calls Tryd.prog 64 #[.slice A xs.length c, .slice B ys.length d] w (NPost (val xs + val ys) w) := by
  by_cases hl : (ys.length : Int) ≤ xs.length
  · exact add_le A B c d xs ys w hA hB hl h1
  · rw [Nat.add_comm]
    exact add_gt B A d c ys xs w hB hA (by omega) h2
end Go.Proofs.YtphjcphcgnjogaaDoor
