/-
  compasslaw10.Tree: nodes of any kinds, made right.
-/
import Derived.Test.YtljeaomdcednlaaTaWalkL
namespace Go.Proofs.Ytljeaomdcednlaa
open Go.RowKit
attribute [local go_sem] run_store_float

theorem emod_of (x m : Int) : (x.tmod m + m) % m = x % m := by
  rw [Int.add_emod_right, Int.tmod_def, Int.sub_mul_emod_self_left]
theorem tmod_bd (x m : Int) (hm : 0 < m) : -m < x.tmod m ∧ x.tmod m < m := ⟨Int.lt_tmod_of_pos x hm, Int.tmod_lt_of_pos x hm⟩

def treeN (kinds refs : List Int) (i : Nat) : Nd :=
  if i = 0 ∨ (kinds[i]?.getD 0) % 6 = 0 then ndOne
  else ⟨(kinds[i]?.getD 0) % 6, 0, if 2 * i < refs.length then (refs[2 * i]?.getD 0) % (i : Int) else 0, if 2 * i + 1 < refs.length ∧ (kinds[i]?.getD 0) % 6 ≠ 5 then (refs[2 * i + 1]?.getD 0) % (i : Int) else 0⟩
def treeL (kinds refs : List Int) (k : Nat) : List Nd := (List.range k).map (treeN kinds refs)
theorem treeL_succ (kinds refs : List Int) (k : Nat) : treeL kinds refs (k + 1) = treeL kinds refs k ++ [treeN kinds refs k] := by simp [treeL, List.range_succ]
theorem treeL_len (kinds refs : List Int) (k : Nat) : (treeL kinds refs k).length = k := by simp [treeL]
theorem treeL_get (kinds refs : List Int) (k i : Nat) (h : i < k) : (treeL kinds refs k)[i]?.getD nd0 = treeN kinds refs i := by simp [treeL, h]
theorem treeN_bits (kinds refs : List Int) (i : Nat) : (treeN kinds refs i).f < 2 ^ 64 := by
  unfold treeN
  split
  · decide
  · simp
theorem treeN_takes (kinds refs : List Int) (i : Nat) (hi : i ≤ 65535) : takesB i (treeN kinds refs i).k (treeN kinds refs i).f (treeN kinds refs i).a (treeN kinds refs i).b = true := by
  unfold treeN
  split
  · exact takes_one i
  · rename_i h
    have h0 : i ≠ 0 := fun e => h (.inl e)
    have h6 : (kinds[i]?.getD 0) % 6 ≠ 0 := fun e => h (.inr e)
    have b1 := Int.emod_nonneg (kinds[i]?.getD 0) (b := 6) (by omega)
    have b2 := Int.emod_lt_of_pos (kinds[i]?.getD 0) (b := 6) (by omega)
    have c1 := Int.emod_nonneg (refs[2 * i]?.getD 0) (b := (i : Int)) (by omega)
    have c2 := Int.emod_lt_of_pos (refs[2 * i]?.getD 0) (b := (i : Int)) (by omega)
    have d1 := Int.emod_nonneg (refs[2 * i + 1]?.getD 0) (b := (i : Int)) (by omega)
    have d2 := Int.emod_lt_of_pos (refs[2 * i + 1]?.getD 0) (b := (i : Int)) (by omega)
    have ha : 0 ≤ (if 2 * i < refs.length then (refs[2 * i]?.getD 0) % (i : Int) else 0) ∧ (if 2 * i < refs.length then (refs[2 * i]?.getD 0) % (i : Int) else 0) < i := by split <;> omega
    have hb : 0 ≤ (if 2 * i + 1 < refs.length ∧ (kinds[i]?.getD 0) % 6 ≠ 5 then (refs[2 * i + 1]?.getD 0) % (i : Int) else 0) ∧ (if 2 * i + 1 < refs.length ∧ (kinds[i]?.getD 0) % 6 ≠ 5 then (refs[2 * i + 1]?.getD 0) % (i : Int) else 0) < i ∧ ((kinds[i]?.getD 0) % 6 = 5 → (if 2 * i + 1 < refs.length ∧ (kinds[i]?.getD 0) % 6 ≠ 5 then (refs[2 * i + 1]?.getD 0) % (i : Int) else 0) = 0) := by
      split
      · rename_i h; exact ⟨by omega, by omega, fun e => absurd e h.2⟩
      · exact ⟨by omega, by omega, fun _ => rfl⟩
    generalize (if 2 * i < refs.length then (refs[2 * i]?.getD 0) % (i : Int) else 0) = a at ha
    generalize (if 2 * i + 1 < refs.length ∧ (kinds[i]?.getD 0) % 6 ≠ 5 then (refs[2 * i + 1]?.getD 0) % (i : Int) else 0) = b at hb
    generalize (kinds[i]?.getD 0) % 6 = x at h6 b1 b2 hb
    simp only [takesB, validB, hasB]
    by_cases h5 : x = 5
    · have := hb.2.2 h5
      subst this h5
      simp
      omega
    · simp [h6, h5]
      omega
theorem treeL_ok (kinds refs : List Int) (k : Nat) (hk : k ≤ 65535) : AllOk (treeL kinds refs k) := by
  intro j hj
  rw [treeL_len] at hj
  unfold okB
  rw [treeL_get _ _ _ _ hj]
  exact treeN_takes kinds refs j (by omega)

theorem treeN_leaf {kinds refs : List Int} {i : Nat} {x : Int} (hx : kinds[i]?.getD 0 = x) (h : i = 0 ∨ x % 6 = 0) : (⟨0, 4607182418800017408, 0, 0⟩ : Nd) = treeN kinds refs i := by
  unfold treeN
  rw [hx, if_pos h]
  rfl
theorem treeN_mid {kinds refs : List Int} {i : Nat} {x X a b : Int} (hx : kinds[i]?.getD 0 = x) (hX : x % 6 = X) (h0 : i ≠ 0) (h6 : X ≠ 0)
    (ha : a = if 2 * i < refs.length then (refs[2 * i]?.getD 0) % (i : Int) else 0) (hb : b = if 2 * i + 1 < refs.length ∧ X ≠ 5 then (refs[2 * i + 1]?.getD 0) % (i : Int) else 0) : (⟨X, 0, a, b⟩ : Nd) = treeN kinds refs i := by
  unfold treeN
  rw [hx, hX, if_neg (by omega), ha, hb]

/-- Where Tree's loop stands. -/
def TrRel (w0 : World) (kinds refs : List Int) (k : Nat) (u : Value) (wr : World) : Prop :=
  NodesAt wr u (treeL kinds refs k) ∧ (∀ g, u.ownBlock = some g → w0.heap.size ≤ g) ∧ Only [] w0 wr
theorem TrRel.push {w0 wr w1 w' : World} {kinds refs : List Int} {k : Nat} {u : Value} {g cap : Nat} (h : TrRel w0 kinds refs k u wr) (hW : Only [] wr w1) (n : Nd) (hn : n = treeN kinds refs k)
    (hown : w'.ownsRow 0 45 4 (.slice (some ⟨g, 0, none⟩) (k + 1) cap) (k + 1) (flat (treeL kinds refs k) ++ n.cells)) (hgr : w1.grownBy w' u.ownBlock) (hat : u.ownBlock = some g ∨ wr.heap.size ≤ g) : TrRel w0 kinds refs (k + 1) (.slice (some ⟨g, 0, none⟩) (k + 1) cap) w' := by
  subst hn
  obtain ⟨h1, h2, h3⟩ := h
  have ho : Only u.ownBlock.toList wr w' := (hW.mono (by simp)).trans (Only.of_grown (S := u.ownBlock.toList) hgr (by simp)) (fun k hk => .inl hk)
  refine ⟨?_, ?_, h3.trans ho (fun k hk => .inr (h2 k (by simpa using hk)))⟩
  · unfold NodesAt
    rw [treeL_succ, flat_snoc, List.length_append, treeL_len]
    exact hown
  · intro q hq
    have e : g = q := by simpa [Value.ownBlock] using hq
    subst e
    rcases hat with e | e
    · exact h2 g e
    · have := h3.size
      omega

theorem news4_two (w : World) (o : Obj) (x0 x1 x2 x3 : Value) (t : TypeId) : ∀ j u, [x0, x1, x2, x3][j]? = some u → ((w.alloc o).alloc (.cells #[x0, x1, x2, x3] t)).cell? ((⟨w.heap.size + 1, 0, none⟩ : Addr).add j) = some u := by
  have h := heap_alloc_new (w.alloc o) (.cells #[x0, x1, x2, x3] t)
  rw [World.size_alloc] at h
  exact news4 h

set_option maxHeartbeats 3200000 in
set_option maxRecDepth 100000 in
theorem tree_any (A B : Option Addr) (c c' : Nat) (kinds refs : List Int) (w : World) (hA : Hid (IRead w A kinds)) (hB : Hid (IRead w B refs)) (hk : (kinds.length : Int) ≤ 100) (hr : (refs.length : Int) ≤ 300) :
    Calls Try.prog 5 #[.slice A kinds.length c, .slice B refs.length c', .slice none 0 0] w fun e w' => ∃ u, e = .returned u ∧ TrRel w kinds refs kinds.length u w' := by
  obtain ⟨i0, hi, hz0, hz1, hz2⟩ := info_parts Try.nodeInfo
  go_enter Try.func5, Try.ntmps5
  go_wp2_with fail
  go_loopw [7, 8] (fun u i wr => ∃ k : Nat, k ≤ kinds.length ∧ i = .int .i64 (k : Int) ∧ TrRel w kinds refs k u wr) (fun _ i _ => kinds.length - (intOf i).toNat)
  case atStart => exact ⟨0, Nat.zero_le _, rfl, World.ownsRow_nil _ _ _ _, by simp [Value.ownBlock], Only.refl _ _⟩
  case round =>
    obtain ⟨k, hkl, rfl, hT⟩ := hrel
    have HT := Lib.hid hT
    have hsh := hT.1.shape
    obtain ⟨Au, uc, rfl, -, -, -⟩ := hsh
    have HRow : Hid (∀ {w' : World}, Only [] wr w' → w'.ownsRow 0 45 4 (.slice Au k uc) k (flat (treeL kinds refs k))) := fun {w'} ho => by
      have h := hT.1
      unfold NodesAt at h
      rw [treeL_len] at h
      exact ownsRow_only h ho (by simp)
    rw [treeL_len] at *
    clear hT
    by_cases hlt : k < kinds.length
    · obtain ⟨b, o, rfl, h1⟩ := hA.out k hlt
      have p0 := HT.out.2.2.cell h1 (by simp)
      have hlt' : (k : Int) < (kinds.length : Int) := by omega
      obtain ⟨x, hx⟩ : ∃ x, kinds[k]?.getD 0 = x := ⟨_, rfl⟩
      rw [hx] at p0
      have HX := Lib.hid hx
      have e6 := emod_of x 6
      rw [Int.add_emod_right] at e6
      obtain ⟨t1, t2⟩ := tmod_bd x 6 (by omega)
      have b1 := Int.emod_nonneg x (b := 6) (by omega)
      have b2 := Int.emod_lt_of_pos x (b := 6) (by omega)
      obtain ⟨X, hX⟩ : ∃ X, x % 6 = X := ⟨_, rfl⟩
      have HX6 := Lib.hid hX
      rw [hX] at e6 b1 b2
      clear h1 hx hX hlt
      by_cases h0 : k = 0
      · have HE : Hid ((⟨0, 4607182418800017408, 0, 0⟩ : Nd) = treeN kinds refs k) := treeN_leaf HX.out (.inl h0)
        have g0 : ((k : Int) == 0) = true := by simp [h0]
        have g1 : decide ((k : Int) < 0) = false := by simp
        clear h0
        go_wp2_with fail
        go_quiet (fail)
        go_wp2_with (at_builtin; refine wpList_append_lies _ rfl _ _ _ rfl 0 45 i0 _ 4 32 Try.underlying24 hi hz0 hz1 hz2 rfl (by decide) (.slice Au k uc) k (flat (treeL kinds refs k)) rfl (by exact HRow.out (((Only.refl [] wr).drewN _).alloc _)) ⟨wr.heap.size, 0, none⟩ 1 1 [.int .i64 0, .float .f64 4607182418800017408, .int .i64 0, .int .i64 0] rfl rfl (by exact news4 (heap_alloc_new _ _)) (by simp [Value.oneCell']) (by decide) (by simp only [maxLen]; omega) (by omega) (Nat.zero_le _) (wr.heap.size + 1) (by simp) ?_; intro g cap w3 hown3 hgr3 hat3 hlt3; have HT3 := Lib.hid (HT.out.push (((Only.refl [] wr).drewN _).alloc _) ⟨0, 4607182418800017408, 0, 0⟩ HE.out hown3 hgr3 (hat3.imp id (fun e => by omega))); clear hown3 hgr3 hat3 hlt3)
        go_roundw
        case rel => exact ⟨k + 1, by omega, by go_num, HT3.out⟩
        case measure => simp [intOf]; omega
      · have g0 : ((k : Int) == 0) = false := by simp; omega
        have hk1 : 1 ≤ (k : Int) := by omega
        by_cases hX0 : X = 0
        · have HE : Hid ((⟨0, 4607182418800017408, 0, 0⟩ : Nd) = treeN kinds refs k) := treeN_leaf HX.out (.inr (HX6.out.trans hX0))
          have g1 : decide ((k : Int) < 0) = false := by simp
          subst hX0
          clear h0
          go_wp2_with fail
          go_quiet (fail)
          go_wp2_with (at_builtin; refine wpList_append_lies _ rfl _ _ _ rfl 0 45 i0 _ 4 32 Try.underlying24 hi hz0 hz1 hz2 rfl (by decide) (.slice Au k uc) k (flat (treeL kinds refs k)) rfl (by exact HRow.out (((Only.refl [] wr).drewN _).alloc _)) ⟨wr.heap.size, 0, none⟩ 1 1 [.int .i64 0, .float .f64 4607182418800017408, .int .i64 0, .int .i64 0] rfl rfl (by exact news4 (heap_alloc_new _ _)) (by simp [Value.oneCell']) (by decide) (by simp only [maxLen]; omega) (by omega) (Nat.zero_le _) (wr.heap.size + 1) (by simp) ?_; intro g cap w3 hown3 hgr3 hat3 hlt3; have HT3 := Lib.hid (HT.out.push (((Only.refl [] wr).drewN _).alloc _) ⟨0, 4607182418800017408, 0, 0⟩ HE.out hown3 hgr3 (hat3.imp id (fun e => by omega))); clear hown3 hgr3 hat3 hlt3)
          go_roundw
          case rel => exact ⟨k + 1, by omega, by go_num, HT3.out⟩
          case measure => simp [intOf]; omega
        · have HMid : Hid (∀ {a b : Int}, a = (if 2 * k < refs.length then (refs[2 * k]?.getD 0) % (k : Int) else 0) → b = (if 2 * k + 1 < refs.length ∧ X ≠ 5 then (refs[2 * k + 1]?.getD 0) % (k : Int) else 0) → (⟨X, 0, a, b⟩ : Nd) = treeN kinds refs k) := fun ha hb => treeN_mid HX.out HX6.out h0 hX0 ha hb
          have gX : (X == 0) = false := by simpa using hX0
          clear h0 hX0
          by_cases hr1 : 2 * k < refs.length
          · obtain ⟨b', o', rfl, c1⟩ := hB.out (2 * k) hr1
            have p1 := HT.out.2.2.cell c1 (by simp)
            have f1 := emod_of (refs[2 * k]?.getD 0) (k : Int)
            rw [Int.add_emod_right] at f1
            obtain ⟨t3, t4⟩ := tmod_bd (refs[2 * k]?.getD 0) (k : Int) (by omega)
            have hr1' : 2 * (k : Int) < (refs.length : Int) := by omega
            generalize refs[2 * k]?.getD 0 = y at p1 f1 t3 t4 HMid
            have p1' := ((Only.refl [] wr).alloc (.cells #[.int .i64 X, .float .f64 0, .int .i64 0, .int .i64 0] 45)).cell p1 (by simp)
            clear p1
            obtain ⟨ya, hya⟩ : ∃ ya, y % (k : Int) = ya := ⟨_, rfl⟩
            rw [hya] at f1 HMid
            clear c1 hya
            by_cases hr2 : 2 * k + 1 < refs.length
            · obtain ⟨b2', o2', e2, c2⟩ := hB.out (2 * k + 1) hr2
              injection e2 with e2
              injection e2 with e2 e3
              subst e2 e3
              have p2 := HT.out.2.2.cell c2 (by simp)
              have f2 := emod_of (refs[2 * k + 1]?.getD 0) (k : Int)
              rw [Int.add_emod_right] at f2
              obtain ⟨t5, t6⟩ := tmod_bd (refs[2 * k + 1]?.getD 0) (k : Int) (by omega)
              have hr2' : 2 * (k : Int) + 1 < (refs.length : Int) := by omega
              generalize refs[2 * k + 1]?.getD 0 = z at p2 f2 t5 t6 HMid
              obtain ⟨za, hza⟩ : ∃ za, z % (k : Int) = za := ⟨_, rfl⟩
              rw [hza] at f2 HMid
              clear c2 hza
              by_cases h5 : X = 5
              · have HE : Hid ((⟨X, 0, ya, 0⟩ : Nd) = treeN kinds refs k) := HMid.out (by rw [if_pos hr1]) (by rw [if_neg (by simp [h5])])
                have g5 : (X == 5) = true := by simpa using h5
                clear h5 HMid hr1 hr2 p2
                go_wp2_with (at_builtin; refine wpList_append_lies _ rfl _ _ _ rfl 0 45 i0 _ 4 32 Try.underlying24 hi hz0 hz1 hz2 rfl (by decide) (.slice Au k uc) k (flat (treeL kinds refs k)) rfl (by exact HRow.out (((Only.refl [] wr).alloc _).alloc _)) ⟨(wr.heap.size + 1), 0, none⟩ 1 1 [.int .i64 X, .float .f64 0, .int .i64 ya, .int .i64 0] rfl rfl (by exact news4_two _ _ _ _ _ _ _) (by simp [Value.oneCell']) (by decide) (by simp only [maxLen]; omega) (by omega) (Nat.zero_le _) ((wr.heap.size + 1) + 1) (by simp) ?_; intro g cap w3 hown3 hgr3 hat3 hlt3; have HT3 := Lib.hid (HT.out.push (((Only.refl [] wr).alloc _).alloc _) ⟨X, 0, ya, 0⟩ HE.out hown3 hgr3 (hat3.imp id (fun e => by omega))); clear hown3 hgr3 hat3 hlt3)
                go_roundw
                case rel => exact ⟨k + 1, by omega, by go_num, HT3.out⟩
                case measure => simp [intOf]; omega
              · have HE : Hid ((⟨X, 0, ya, za⟩ : Nd) = treeN kinds refs k) := HMid.out (by rw [if_pos hr1]) (by rw [if_pos ⟨hr2, h5⟩])
                have g5 : (X == 5) = false := by simpa using h5
                have p2' := ((Only.refl [] wr).alloc (.cells #[.int .i64 X, .float .f64 0, .int .i64 ya, .int .i64 0] 45)).cell p2 (by simp)
                clear h5 HMid hr1 hr2 p2
                go_wp2_with (at_builtin; refine wpList_append_lies _ rfl _ _ _ rfl 0 45 i0 _ 4 32 Try.underlying24 hi hz0 hz1 hz2 rfl (by decide) (.slice Au k uc) k (flat (treeL kinds refs k)) rfl (by exact HRow.out (((Only.refl [] wr).alloc _).alloc _)) ⟨(wr.heap.size + 1), 0, none⟩ 1 1 [.int .i64 X, .float .f64 0, .int .i64 ya, .int .i64 za] rfl rfl (by exact news4_two _ _ _ _ _ _ _) (by simp [Value.oneCell']) (by decide) (by simp only [maxLen]; omega) (by omega) (Nat.zero_le _) ((wr.heap.size + 1) + 1) (by simp) ?_; intro g cap w3 hown3 hgr3 hat3 hlt3; have HT3 := Lib.hid (HT.out.push (((Only.refl [] wr).alloc _).alloc _) ⟨X, 0, ya, za⟩ HE.out hown3 hgr3 (hat3.imp id (fun e => by omega))); clear hown3 hgr3 hat3 hlt3)
                go_roundw
                case rel => exact ⟨k + 1, by omega, by go_num, HT3.out⟩
                case measure => simp [intOf]; omega
            · have HE : Hid ((⟨X, 0, ya, 0⟩ : Nd) = treeN kinds refs k) := HMid.out (by rw [if_pos hr1]) (by rw [if_neg (by simp [hr2])])
              have hr2' : ¬ 2 * (k : Int) + 1 < (refs.length : Int) := by omega
              clear HMid hr1 hr2
              go_wp2_with (at_builtin; refine wpList_append_lies _ rfl _ _ _ rfl 0 45 i0 _ 4 32 Try.underlying24 hi hz0 hz1 hz2 rfl (by decide) (.slice Au k uc) k (flat (treeL kinds refs k)) rfl (by exact HRow.out (((Only.refl [] wr).alloc _).alloc _)) ⟨(wr.heap.size + 1), 0, none⟩ 1 1 [.int .i64 X, .float .f64 0, .int .i64 ya, .int .i64 0] rfl rfl (by exact news4_two _ _ _ _ _ _ _) (by simp [Value.oneCell']) (by decide) (by simp only [maxLen]; omega) (by omega) (Nat.zero_le _) ((wr.heap.size + 1) + 1) (by simp) ?_; intro g cap w3 hown3 hgr3 hat3 hlt3; have HT3 := Lib.hid (HT.out.push (((Only.refl [] wr).alloc _).alloc _) ⟨X, 0, ya, 0⟩ HE.out hown3 hgr3 (hat3.imp id (fun e => by omega))); clear hown3 hgr3 hat3 hlt3)
              go_roundw
              case rel => exact ⟨k + 1, by omega, by go_num, HT3.out⟩
              case measure => simp [intOf]; omega
          · have HE : Hid ((⟨X, 0, 0, 0⟩ : Nd) = treeN kinds refs k) := HMid.out (by rw [if_neg hr1]) (by rw [if_neg (by omega)])
            have hr1' : ¬ 2 * (k : Int) < (refs.length : Int) := by omega
            have hr2' : ¬ 2 * (k : Int) + 1 < (refs.length : Int) := by omega
            clear HMid hr1
            go_wp2_with (at_builtin; refine wpList_append_lies _ rfl _ _ _ rfl 0 45 i0 _ 4 32 Try.underlying24 hi hz0 hz1 hz2 rfl (by decide) (.slice Au k uc) k (flat (treeL kinds refs k)) rfl (by exact HRow.out (((Only.refl [] wr).alloc _).alloc _)) ⟨(wr.heap.size + 1), 0, none⟩ 1 1 [.int .i64 X, .float .f64 0, .int .i64 0, .int .i64 0] rfl rfl (by exact news4_two _ _ _ _ _ _ _) (by simp [Value.oneCell']) (by decide) (by simp only [maxLen]; omega) (by omega) (Nat.zero_le _) ((wr.heap.size + 1) + 1) (by simp) ?_; intro g cap w3 hown3 hgr3 hat3 hlt3; have HT3 := Lib.hid (HT.out.push (((Only.refl [] wr).alloc _).alloc _) ⟨X, 0, 0, 0⟩ HE.out hown3 hgr3 (hat3.imp id (fun e => by omega))); clear hown3 hgr3 hat3 hlt3)
            go_roundw
            case rel => exact ⟨k + 1, by omega, by go_num, HT3.out⟩
            case measure => simp [intOf]; omega
    · have e : k = kinds.length := by omega
      have hnl : ¬ (k : Int) < (kinds.length : Int) := by omega
      have HK := Lib.hid e
      clear e
      go_wp2_with fail
      go_ret
      exact ⟨_, rfl, HK.out ▸ HT.out⟩
end Go.Proofs.Ytljeaomdcednlaa
