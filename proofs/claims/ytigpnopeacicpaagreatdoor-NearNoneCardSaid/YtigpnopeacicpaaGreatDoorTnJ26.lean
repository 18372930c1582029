/-
  Joined texts.
-/
import Derived.Test.YtigpnopeacicpaaGreatDoorTnJ21
import Derived.Test.YtigpnopeacicpaaGreatDoorTnJ25
import Derived.Test.YtigpnopeacicpaaGreatDoorTnJ15
import Derived.Test.YtigpnopeacicpaaGreatDoorTnJ17
import Derived.Test.YtigpnopeacicpaaGreatDoorTnJ20
/-
  near.drop and near.fits; the state of near.eval, plain.
-/
namespace Go.Proofs.YtigpnopeacicpaaGreatDoor
set_option linter.unusedSimpArgs false
open Go.RowKit
attribute [local go_sem] run_store_float

def fitsP (x : Dy) : Bool := decide (x.z = 0) || (decide (-4194304 ≤ topD x) && decide (topD x ≤ 4194304))
abbrev NSt := (Int → Option (Dy × Dy)) × (Int → Option Int)
def leftN (U : Int → Option Int) (k : Int) : Int := (U k).getD 0 - 1
def dropN (k : Int) (s : NSt) : NSt := (if leftN s.2 k = 0 then delB s.1 k else s.1, setF s.2 k (leftN s.2 k))
def stepN (ns : List Nd) (g : Int → Dy × Dy) (s : NSt) (x : Int) : NSt :=
  if (nodeAt ns x).k = 0 then (putB s.1 x (g x), s.2)
  else if (nodeAt ns x).k = 5 then dropN (nodeAt ns x).a (putB s.1 x (g x), s.2)
  else dropN (nodeAt ns x).a (dropN (nodeAt ns x).b (putB s.1 x (g x), s.2))
def runN (ns : List Nd) (g : Int → Dy × Dy) (U : Int → Option Int) (L : List Int) : NSt := L.foldl (stepN ns g) (fun _ => none, U)
theorem runN_snoc (ns : List Nd) (g : Int → Dy × Dy) (U : Int → Option Int) {L P : List Int} {x : Int} (h : L = P ++ [x]) : runN ns g U L = stepN ns g (runN ns g U P) x := by
  subst h
  simp [runN, List.foldl_append]
/-- How often each is still to be used: n entries at most. -/
def LeftAt (w : World) (u n : Nat) (U : Int → Option Int) : Prop := ∃ n', n' ≤ n ∧ MapX w u n' U
section
variable {w w' : World} {u n : Nat} {U : Int → Option Int} {k v : Int}
theorem LeftAt.lt (h : LeftAt w u n U) : u < w.heap.size := by
  obtain ⟨n', h0, h1⟩ := h
  exact h1.lt
theorem LeftAt.obj (h : LeftAt w u n U) : ∃ es clock, w.heap[u]? = some (.map es clock) := by
  obtain ⟨n', h0, D, ⟨es, clock, h1, _⟩, _⟩ := h
  exact ⟨es, clock, h1⟩
theorem LeftAt.only {S : List Nat} (h : LeftAt w u n U) (ho : Only S w w') (hb : u ∉ S) : LeftAt w' u n U := by
  obtain ⟨n', h0, h1⟩ := h
  exact ⟨n', h0, h1.only ho hb⟩
theorem LeftAt.look (h : LeftAt w u n U) (hk : Small k) : (Instr.lookup 147 (.map (some u)) (.int .i64 k) false).run Tryz.prog w = .ok (.int .i64 ((U k).getD 0)) w := by
  obtain ⟨n', h0, h1⟩ := h
  exact h1.look hk
theorem LeftAt.store (h : LeftAt w u n U) (hn : n < 1000000) (hk : Small k) (hv : Small v) :
    ∃ w', (Instr.mapUpdate 147 (.map (some u)) (.int .i64 k) (.int .i64 v)).run Tryz.prog w = .ok () w' ∧ LeftAt w' u (n + 1) (setF U k v) ∧ Only [u] w w' := by
  obtain ⟨n', h0, h1⟩ := h
  obtain ⟨w', hr, h2, ho⟩ := h1.store (by omega) hk hv
  exact ⟨w', hr, ⟨_, by split <;> omega, h2⟩, ho⟩
end
/-- The values that stay small. -/
def LeftOk (c : Int) (U : Int → Option Int) : Prop := ∀ y z, U y = some z → -c ≤ z ∧ z ≤ 100000
theorem LeftOk.at {c : Int} {U : Int → Option Int} (h : LeftOk c U) (hc : 0 ≤ c) (k : Int) : -(c + 1) ≤ leftN U k ∧ leftN U k ≤ 100000 := by
  unfold leftN
  cases e : U k with
  | none => simp; omega
  | some z =>
    have := h k z e
    simp
    omega
theorem LeftOk.drop {c : Int} {U : Int → Option Int} (h : LeftOk c U) (hc : 0 ≤ c) (k : Int) : LeftOk (c + 1) (setF U k (leftN U k)) := by
  intro y z hy
  unfold setF at hy
  split at hy
  · injection hy with hy
    subst hy
    exact h.at hc k
  · have := h y z hy
    omega

set_option maxHeartbeats 1600000 in
set_option maxRecDepth 100000 in
theorem drop_any {w : World} {m u n nu : Nat} {B : Int → Option (Dy × Dy)} {U : Int → Option Int} (k : Int) (c : Int) (hB : Hid (BallsAt w m n B)) (hU : Hid (LeftAt w u nu U)) (hmu : Hid (m ≠ u)) (hk : Hid (Small k)) (hc : Hid (LeftOk c U)) (hc0 : 0 ≤ c) (hc1 : c ≤ 100000) (hnu : nu < 999999) :
    Calls Tryz.prog 119 #[.map (some m), .map (some u), .int .i64 k] w fun e w' => e = .returned (.tuple #[]) ∧ BallsAt w' m n (dropN k (B, U)).1 ∧ LeftAt w' u (nu + 1) (dropN k (B, U)).2 ∧ Only [m, u] w w' := by
  have hr := hc.out.at hc0 k
  obtain ⟨z, hz⟩ : ∃ z, leftN U k = z := ⟨_, rfl⟩
  have hzz : (U k).getD 0 - 1 = z := hz
  rw [hz] at hr
  have hzs : Hid (Small z) := by show Small _; unfold Small; omega
  have hl := hU.out.look hk.out
  obtain ⟨x, hx⟩ : ∃ x, (U k).getD 0 = x := ⟨_, rfl⟩
  rw [hx] at hl hzz
  have hw1 : IntKind.i64.wrap (x - 1) = z := by rw [hzz]; exact wrap_i64 (by omega)
  obtain ⟨w1, hr1, hU1, ho1⟩ := hU.out.store (by omega) hk.out hzs.out
  have hl2 := hU1.look hk.out
  have e2 : (setF U k z k).getD 0 = z := by unfold setF; rw [if_pos rfl]; rfl
  rw [e2] at hl2
  have HB1 := Lib.hid (hB.out.far ho1 hU.out.obj hmu.out)
  have HU1 := Lib.hid hU1
  have HO1 := Lib.hid ho1
  have HE : Hid (dropN k (B, U) = (if z = 0 then delB B k else B, setF U k z)) := by
    show _ = _
    unfold dropN
    simp only
    rw [hz]
  rw [HE.out]
  clear hB hU hU1 ho1 hzz hz e2 hx hr HE hc hc0 hc1 hnu hzs
  by_cases h0 : z = 0
  · subst h0
    rw [if_pos rfl]
    obtain ⟨w2, hr2, hB2, ho2⟩ := HB1.out.drop hk.out 0
    have HB2 := Lib.hid hB2
    have HU2 := Lib.hid (HU1.out.only ho2 (by simp; exact fun h => hmu.out h.symm))
    have HO2 : Hid (Only [m, u] w w2) := (HO1.out.mono (by simp)).trans ho2 (by simp)
    clear HB1 HU1 HO1 hB2 ho2
    go_enter Tryz.func119, Tryz.ntmps119
    go_wp2_with fail
    go_returns
    exact ⟨rfl, HB2.out, HU2.out, HO2.out⟩
  · have hne : (z == 0) = false := by simpa using h0
    rw [if_neg h0]
    clear h0
    go_enter Tryz.func119, Tryz.ntmps119
    go_wp2_with fail
    go_returns
    exact ⟨rfl, HB1.out, HU1.out, HO1.out.mono (by simp)⟩
end Go.Proofs.YtigpnopeacicpaaGreatDoor

/-
  near.combine, of each kind of node.
-/
namespace Go.Proofs.YtigpnopeacicpaaGreatDoor
set_option linter.unusedSimpArgs false
open Go.RowKit
attribute [local go_sem] run_store_float

theorem noLimbNd (k : Int) (f : Nat) (a b : Int) : NoLimb [.int .i64 k, .float .f64 f, .int .i64 a, .int .i64 b] := fun o n h => by
  rcases o with _ | _ | _ | _ | o <;> simp at h
set_option maxHeartbeats 8000000 in
set_option maxRecDepth 100000 in
theorem ncomb_leaf {w : World} {a b : Value} {x y u v z : Dy} {N : Nat} (nf : Nat) (na nb p : Int) (r : Dy) (hr : nrm z.z z.e = r) (hf : Hid (∀ W : World, Tab6 W → Calls Tryz.prog 144 #[.float .f64 nf] W (QDPost z true W))) (bz : Hid (Bnd N z)) (hN : N ≤ 8000000)
    (ha : Hid (BV w a x y)) (hb : Hid (BV w b u v)) (hT : Hid (Tab6 w)) :
    Calls Tryz.prog 117 #[.agg #[.int .i64 0, .float .f64 nf, .int .i64 na, .int .i64 nb], a, b, .int .i64 p] w (QBPost r r true w) := by
  obtain ⟨s1, A1, k1, c1, t1, B1, m1, d1, rfl, hx1, hy1⟩ := ha.out
  obtain ⟨s2, A2, k2, c2, t2, B2, m2, d2, rfl, hx2, hy2⟩ := hb.out
  have hk := ((((GB.start w).new 95 [.int .i64 0, .float .f64 nf, .int .i64 na, .int .i64 nb] (noLimbNd _ _ _ _)).new 34 [.bool s1, .slice A1 k1 c1, .int .i64 x.e, .bool t1, .slice B1 m1 d1, .int .i64 y.e] (noLimb6 _ _ _ _ _ _ _ _ _ _)).new 34 [.bool s2, .slice A2 k2 c2, .int .i64 u.e, .bool t2, .slice B2 m2 d2, .int .i64 v.e] (noLimb6 _ _ _ _ _ _ _ _ _ _)).new 34 [.bool false, .slice none 0 0, .int .i64 0, .bool false, .slice none 0 0, .int .i64 0] (noLimb6 _ _ _ _ _ _ _ _ _ _)
  simp only [World.size_alloc] at hk
  have hi := ((((WL.nil w).cons (Lib.hid hy2)).cons (Lib.hid hx2)).cons (Lib.hid hy1)).cons (Lib.hid hx1)
  have HI := Lib.hid (hi.step hk.only)
  have HK := Lib.hid hk
  clear hk hi hx1 hy1 hx2 hy2 ha hb
  have hnb := GB.blk HK 3 rfl
  have n0 := hnb.cell 0
  have n1 := hnb.cell 1
  simp only [List.getElem?_cons_zero, List.getElem?_cons_succ] at n0 n1
  clear hnb
  go_enter Tryz.func117, Tryz.ntmps117
  go_wp2_with fail
  (with_reducible refine (hf.out _ (hT.out.keep HK.out.only)).mono ?_)
  rintro e w2 ⟨s4, A4, k4, c4, rfl, hs4, hk4, hv4, ho⟩
  replace HK := Lib.hid ((HK.out.step ho).new 32 [.bool s4, .slice A4 k4 c4, .int .i64 z.e] (noLimb3 _ _ _ _ _))
  have HV4 := Lib.hid (hv4.only ((Only.refl [] w2).alloc (.cells #[.bool s4, .slice A4 k4 c4, .int .i64 z.e] 32)))
  clear ho n0 n1 hs4 hk4 hv4 HI
  obtain ⟨e0, e1, e2⟩ := GB.c3 HK 0 rfl
  go_upto_region 8 with fail
  generalize w2.heap.size = g4 at *
  generalize w2.alloc _ = w3 at *
  go_wp2_with fail
  (with_reducible refine (atV_b (x := z) r hr (DV.of HV4) bz hN (Lib.hid (hT.out.keep HK.out.only))).mono ?_)
  rintro e w5 ⟨s5, A5, k5, c5, s6, A6, k6, c6, rfl, hc5, hv5, hc6, hv6, ho⟩
  have HC5 := Lib.hid hc5
  have HV5 := Lib.hid hv5
  have HC6 := Lib.hid hc6
  have HV6 := Lib.hid hv6
  replace HK := Lib.hid (HK.out.step ho)
  clear ho hc5 hv5 hc6 hv6
  clear e0 e1 e2 HV4
  replace HK := Lib.hid HK.out.tail
  obtain ⟨q0, q1, q2, q3, q4, q5⟩ := GB.c6 HK 0 rfl
  obtain ⟨f0, f1, f2, f3, f4, f5⟩ := GB.f6 HK 0 rfl
  go_wp2_with fail
  refine bodyPost_ret (v := .tuple #[.agg #[.bool s5, .slice A5 k5 c5, .int .i64 (r.e), .bool s6, .slice A6 k6 c6, .int .i64 (r.e)], .bool true]) (by simp [results, Tryz.results117, go_sem, q0, q1, q2, q3, q4, q5]) rfl ?_
  exact qbfin HC5 HV5 HC6 HV6 (by omega) (GB.blk HK 0 rfl) (noLimb6 _ _ _ _ _ _ _ _ _ _) HK.out.only (only_set6 _ _ _ _ _ _ _ _)
set_option maxHeartbeats 8000000 in
set_option maxRecDepth 100000 in
theorem ncomb_sub {w : World} {a b : Value} {x y u v : Dy} {N : Nat} (nf : Nat) (na nb p : Int) (nu nv lo hi : Dy) (hnv : dNot v = nv) (hnu : dNot u = nu) (hlo : rndD (widthP p) false (dAdd x nv) = lo) (hhi : rndD (widthP p) true (dAdd y nu) = hi) (ha : Hid (BV w a x y)) (hb : Hid (BV w b u v)) (bx : Hid (Bnd N x)) (by_ : Hid (Bnd N y)) (bu : Hid (Bnd N u)) (bv : Hid (Bnd N v)) (bnu : Hid (Bnd N nu)) (bnv : Hid (Bnd N nv)) (hN : N ≤ 100000) (hT : Hid (Tab6 w)) :
    Calls Tryz.prog 117 #[.agg #[.int .i64 2, .float .f64 nf, .int .i64 na, .int .i64 nb], a, b, .int .i64 p] w (QBPost lo hi true w) := by
  obtain ⟨s1, A1, k1, c1, t1, B1, m1, d1, rfl, hx1, hy1⟩ := ha.out
  obtain ⟨s2, A2, k2, c2, t2, B2, m2, d2, rfl, hx2, hy2⟩ := hb.out
  have hk := ((((GB.start w).new 95 [.int .i64 2, .float .f64 nf, .int .i64 na, .int .i64 nb] (noLimbNd _ _ _ _)).new 34 [.bool s1, .slice A1 k1 c1, .int .i64 x.e, .bool t1, .slice B1 m1 d1, .int .i64 y.e] (noLimb6 _ _ _ _ _ _ _ _ _ _)).new 34 [.bool s2, .slice A2 k2 c2, .int .i64 u.e, .bool t2, .slice B2 m2 d2, .int .i64 v.e] (noLimb6 _ _ _ _ _ _ _ _ _ _)).new 34 [.bool false, .slice none 0 0, .int .i64 0, .bool false, .slice none 0 0, .int .i64 0] (noLimb6 _ _ _ _ _ _ _ _ _ _)
  simp only [World.size_alloc] at hk
  have hi := ((((WL.nil w).cons (Lib.hid hy2)).cons (Lib.hid hx2)).cons (Lib.hid hy1)).cons (Lib.hid hx1)
  have HI := Lib.hid (hi.step hk.only)
  have HK := Lib.hid hk
  clear hk hi hx1 hy1 hx2 hy2 ha hb
  have hnb := GB.blk HK 3 rfl
  have n0 := hnb.cell 0
  have n1 := hnb.cell 1
  simp only [List.getElem?_cons_zero, List.getElem?_cons_succ] at n0 n1
  clear hnb
  obtain ⟨l0, l1, l2, l3, l4, l5⟩ := GB.c6 HK 1 rfl
  obtain ⟨f0, f1, f2, f3, f4, f5⟩ := GB.f6 HK 1 rfl
  go_enter Tryz.func117, Tryz.ntmps117
  go_wp2_with fail
  subst hnv hnu
  (with_reducible refine (not_b (BV.of (x := u) (y := v) (WL.at (z := u.z) HI 2 rfl) (WL.at (z := v.z) HI 3 rfl)) bu bv (by omega) (Lib.hid (hT.out.keep HK.out.only))).mono ?_)
  rintro e w5 ⟨s3, A3, k3, c3, s4, A4, k4, c4, rfl, hc5, hv5, hc6, hv6, ho⟩
  have HV5 := Lib.hid hv5
  have HV6 := Lib.hid hv6
  replace HK := Lib.hid (HK.out.step ho)
  replace HI := Lib.hid (((HI.out.step ho).cons HV6).cons HV5)
  clear ho hc5 hv5 hc6 hv6 HV5 HV6 n0 n1 l0 l1 l2 l3 l4 l5 f0 f1 f2 f3 f4 f5
  have hkp := HK.out.put 1 rfl (only_set6g w5 _ (.bool s3) (.slice A3 k3 c3) (.int .i64 (dNot v).e) (.bool s4) (.slice A4 k4 c4) (.int .i64 (dNot u).e)) (GB.blk HK 1 rfl).to6 (noLimb6 _ _ _ _ _ _ _ _ _ _)
  have hip := HI.out.far (only_set6g w5 _ (.bool s3) (.slice A3 k3 c3) (.int .i64 (dNot v).e) (.bool s4) (.slice A4 k4 c4) (.int .i64 (dNot u).e)) (GB.blk HK 1 rfl) (GB.nolimb HK 1 rfl)
  obtain ⟨l0, l1, l2, l3, l4, l5⟩ := GB.c6 HK 1 rfl
  obtain ⟨f0, f1, f2, f3, f4, f5⟩ := GB.f6 HK 1 rfl
  go_upto_region 10 with fail
  simp only [List.set_cons_zero, List.set_cons_succ] at hkp
  clear HK HI l0 l1 l2 l3 l4 l5 f0 f1 f2 f3 f4 f5
  have HK := Lib.hid hkp
  have HI := Lib.hid hip
  clear hkp hip
  generalize (((((w5.setCell _ _).setCell _ _).setCell _ _).setCell _ _).setCell _ _).setCell _ _ = w6 at *
  obtain ⟨j0, j1, j2, j3, j4, j5⟩ := GB.c6 HK 2 rfl
  obtain ⟨l0, l1, l2, l3, l4, l5⟩ := GB.c6 HK 1 rfl
  go_wp2_with fail
  (with_reducible refine (add_b p lo hi hlo hhi (BV.of (x := x) (y := y) (WL.at (z := x.z) HI 2 rfl) (WL.at (z := y.z) HI 3 rfl)) (BV.of (x := dNot v) (y := dNot u) (WL.at (z := (dNot v).z) HI 0 rfl) (WL.at (z := (dNot u).z) HI 1 rfl)) bx by_ bnv bnu hN (Lib.hid (hT.out.keep HK.out.only))).mono ?_)
  rintro e w7 ⟨s5, A5, k5, c5, s6, A6, k6, c6, rfl, hc5, hv5, hc6, hv6, ho⟩
  have HC5 := Lib.hid hc5
  have HV5 := Lib.hid hv5
  have HC6 := Lib.hid hc6
  have HV6 := Lib.hid hv6
  replace HK := Lib.hid (HK.out.step ho)
  clear ho hc5 hv5 hc6 hv6
  clear j0 j1 j2 j3 j4 j5 l0 l1 l2 l3 l4 l5 HI
  obtain ⟨q0, q1, q2, q3, q4, q5⟩ := GB.c6 HK 0 rfl
  obtain ⟨f0, f1, f2, f3, f4, f5⟩ := GB.f6 HK 0 rfl
  go_wp2_with fail
  refine bodyPost_ret (v := .tuple #[.agg #[.bool s5, .slice A5 k5 c5, .int .i64 (lo.e), .bool s6, .slice A6 k6 c6, .int .i64 (hi.e)], .bool true]) (by simp [results, Tryz.results117, go_sem, q0, q1, q2, q3, q4, q5]) rfl ?_
  exact qbfin HC5 HV5 HC6 HV6 (by omega) (GB.blk HK 0 rfl) (noLimb6 _ _ _ _ _ _ _ _ _ _) HK.out.only (only_set6 _ _ _ _ _ _ _ _)
set_option maxHeartbeats 8000000 in
set_option maxRecDepth 100000 in
theorem ncomb_divno {w : World} {a b : Value} {x y u v : Dy} (nf : Nat) (na nb p : Int) (h : u.z.sign = v.z.sign → u.z.sign = 0) (ha : Hid (BV w a x y)) (hb : Hid (BV w b u v)) :
    Calls Tryz.prog 117 #[.agg #[.int .i64 4, .float .f64 nf, .int .i64 na, .int .i64 nb], a, b, .int .i64 p] w (QBPost ⟨0, 0⟩ ⟨0, 0⟩ false w) := by
  obtain ⟨s1, A1, k1, c1, t1, B1, m1, d1, rfl, hx1, hy1⟩ := ha.out
  obtain ⟨s2, A2, k2, c2, t2, B2, m2, d2, rfl, hx2, hy2⟩ := hb.out
  have hk := ((((GB.start w).new 95 [.int .i64 4, .float .f64 nf, .int .i64 na, .int .i64 nb] (noLimbNd _ _ _ _)).new 34 [.bool s1, .slice A1 k1 c1, .int .i64 x.e, .bool t1, .slice B1 m1 d1, .int .i64 y.e] (noLimb6 _ _ _ _ _ _ _ _ _ _)).new 34 [.bool s2, .slice A2 k2 c2, .int .i64 u.e, .bool t2, .slice B2 m2 d2, .int .i64 v.e] (noLimb6 _ _ _ _ _ _ _ _ _ _)).new 34 [.bool false, .slice none 0 0, .int .i64 0, .bool false, .slice none 0 0, .int .i64 0] (noLimb6 _ _ _ _ _ _ _ _ _ _)
  simp only [World.size_alloc] at hk
  have hi := ((((WL.nil w).cons (Lib.hid hy2)).cons (Lib.hid hx2)).cons (Lib.hid hy1)).cons (Lib.hid hx1)
  have HI := Lib.hid (hi.step hk.only)
  have HK := Lib.hid hk
  clear hk hi hx1 hy1 hx2 hy2 ha hb
  have hnb := GB.blk HK 3 rfl
  have n0 := hnb.cell 0
  have n1 := hnb.cell 1
  simp only [List.getElem?_cons_zero, List.getElem?_cons_succ] at n0 n1
  clear hnb
  obtain ⟨j0, j1, j2, j3, j4, j5⟩ := GB.c6 HK 2 rfl
  obtain ⟨l0, l1, l2, l3, l4, l5⟩ := GB.c6 HK 1 rfl
  go_enter Tryz.func117, Tryz.ntmps117
  go_wp2_with fail
  (with_reducible refine (bquo_no p h (BV.of (x := x) (y := y) (WL.at (z := x.z) HI 0 rfl) (WL.at (z := y.z) HI 1 rfl)) (BV.of (x := u) (y := v) (WL.at (z := u.z) HI 2 rfl) (WL.at (z := v.z) HI 3 rfl)) ).mono ?_)
  rintro e w5 ⟨s5, A5, k5, c5, s6, A6, k6, c6, rfl, hc5, hv5, hc6, hv6, ho⟩
  have HC5 := Lib.hid hc5
  have HV5 := Lib.hid hv5
  have HC6 := Lib.hid hc6
  have HV6 := Lib.hid hv6
  replace HK := Lib.hid (HK.out.step ho)
  clear ho hc5 hv5 hc6 hv6
  clear n0 n1 j0 j1 j2 j3 j4 j5 l0 l1 l2 l3 l4 l5 HI h
  obtain ⟨q0, q1, q2, q3, q4, q5⟩ := GB.c6 HK 0 rfl
  obtain ⟨f0, f1, f2, f3, f4, f5⟩ := GB.f6 HK 0 rfl
  go_wp2_with fail
  refine bodyPost_ret (v := .tuple #[.agg #[.bool s5, .slice A5 k5 c5, .int .i64 (0), .bool s6, .slice A6 k6 c6, .int .i64 (0)], .bool false]) (by simp [results, Tryz.results117, go_sem, q0, q1, q2, q3, q4, q5]) rfl ?_
  exact qbfin HC5 HV5 HC6 HV6 (by omega) (GB.blk HK 0 rfl) (noLimb6 _ _ _ _ _ _ _ _ _ _) HK.out.only (only_set6 _ _ _ _ _ _ _ _)
set_option maxHeartbeats 8000000 in
set_option maxRecDepth 100000 in
theorem ncomb_rootno {w : World} {a b : Value} {x y u v : Dy} (nf : Nat) (na nb p sy : Int) (hs : Hid (y.z.sign = sy)) (hn : sy < 0) (ha : Hid (BV w a x y)) (hb : Hid (BV w b u v)) :
    Calls Tryz.prog 117 #[.agg #[.int .i64 5, .float .f64 nf, .int .i64 na, .int .i64 nb], a, b, .int .i64 p] w (QBPost ⟨0, 0⟩ ⟨0, 0⟩ false w) := by
  obtain ⟨s1, A1, k1, c1, t1, B1, m1, d1, rfl, hx1, hy1⟩ := ha.out
  obtain ⟨s2, A2, k2, c2, t2, B2, m2, d2, rfl, hx2, hy2⟩ := hb.out
  have hk := ((((GB.start w).new 95 [.int .i64 5, .float .f64 nf, .int .i64 na, .int .i64 nb] (noLimbNd _ _ _ _)).new 34 [.bool s1, .slice A1 k1 c1, .int .i64 x.e, .bool t1, .slice B1 m1 d1, .int .i64 y.e] (noLimb6 _ _ _ _ _ _ _ _ _ _)).new 34 [.bool s2, .slice A2 k2 c2, .int .i64 u.e, .bool t2, .slice B2 m2 d2, .int .i64 v.e] (noLimb6 _ _ _ _ _ _ _ _ _ _)).new 34 [.bool false, .slice none 0 0, .int .i64 0, .bool false, .slice none 0 0, .int .i64 0] (noLimb6 _ _ _ _ _ _ _ _ _ _)
  simp only [World.size_alloc] at hk
  have hi := ((((WL.nil w).cons (Lib.hid hy2)).cons (Lib.hid hx2)).cons (Lib.hid hy1)).cons (Lib.hid hx1)
  have HI := Lib.hid (hi.step hk.only)
  have HK := Lib.hid hk
  clear hk hi hx1 hy1 hx2 hy2 ha hb
  have hnb := GB.blk HK 3 rfl
  have n0 := hnb.cell 0
  have n1 := hnb.cell 1
  simp only [List.getElem?_cons_zero, List.getElem?_cons_succ] at n0 n1
  clear hnb
  obtain ⟨j0, j1, j2, j3, j4, j5⟩ := GB.c6 HK 2 rfl
  go_enter Tryz.func117, Tryz.ntmps117
  go_wp2_with fail
  (with_reducible refine (bsqrt_no p sy hs hn (BV.of (x := x) (y := y) (WL.at (z := x.z) HI 0 rfl) (WL.at (z := y.z) HI 1 rfl)) ).mono ?_)
  rintro e w5 ⟨s5, A5, k5, c5, s6, A6, k6, c6, rfl, hc5, hv5, hc6, hv6, ho⟩
  have HC5 := Lib.hid hc5
  have HV5 := Lib.hid hv5
  have HC6 := Lib.hid hc6
  have HV6 := Lib.hid hv6
  replace HK := Lib.hid (HK.out.step ho)
  clear ho hc5 hv5 hc6 hv6
  clear n0 n1 j0 j1 j2 j3 j4 j5 HI hn
  obtain ⟨q0, q1, q2, q3, q4, q5⟩ := GB.c6 HK 0 rfl
  obtain ⟨f0, f1, f2, f3, f4, f5⟩ := GB.f6 HK 0 rfl
  go_wp2_with fail
  refine bodyPost_ret (v := .tuple #[.agg #[.bool s5, .slice A5 k5 c5, .int .i64 (0), .bool s6, .slice A6 k6 c6, .int .i64 (0)], .bool false]) (by simp [results, Tryz.results117, go_sem, q0, q1, q2, q3, q4, q5]) rfl ?_
  exact qbfin HC5 HV5 HC6 HV6 (by omega) (GB.blk HK 0 rfl) (noLimb6 _ _ _ _ _ _ _ _ _ _) HK.out.only (only_set6 _ _ _ _ _ _ _ _)
set_option maxHeartbeats 8000000 in
set_option maxRecDepth 100000 in
theorem ncomb_root {w : World} {a b : Value} {x y u v lo hi : Dy} {N : Nat} (nf : Nat) (na nb p : Int) (hy0 : 0 ≤ y.z) (hlo : sqrtQ (widthP p) false (if x.z < 0 then ⟨0, 0⟩ else x) = lo) (hhi : sqrtQ (widthP p) true y = hi) (bx : Hid (Bnd N x)) (by_ : Hid (Bnd N y)) (hN : N ≤ 100000) (hT : Hid (Tab6 w)) (ha : Hid (BV w a x y)) (hb : Hid (BV w b u v)) :
    Calls Tryz.prog 117 #[.agg #[.int .i64 5, .float .f64 nf, .int .i64 na, .int .i64 nb], a, b, .int .i64 p] w (QBPost lo hi true w) := by
  obtain ⟨s1, A1, k1, c1, t1, B1, m1, d1, rfl, hx1, hy1⟩ := ha.out
  obtain ⟨s2, A2, k2, c2, t2, B2, m2, d2, rfl, hx2, hy2⟩ := hb.out
  have hk := ((((GB.start w).new 95 [.int .i64 5, .float .f64 nf, .int .i64 na, .int .i64 nb] (noLimbNd _ _ _ _)).new 34 [.bool s1, .slice A1 k1 c1, .int .i64 x.e, .bool t1, .slice B1 m1 d1, .int .i64 y.e] (noLimb6 _ _ _ _ _ _ _ _ _ _)).new 34 [.bool s2, .slice A2 k2 c2, .int .i64 u.e, .bool t2, .slice B2 m2 d2, .int .i64 v.e] (noLimb6 _ _ _ _ _ _ _ _ _ _)).new 34 [.bool false, .slice none 0 0, .int .i64 0, .bool false, .slice none 0 0, .int .i64 0] (noLimb6 _ _ _ _ _ _ _ _ _ _)
  simp only [World.size_alloc] at hk
  have hi := ((((WL.nil w).cons (Lib.hid hy2)).cons (Lib.hid hx2)).cons (Lib.hid hy1)).cons (Lib.hid hx1)
  have HI := Lib.hid (hi.step hk.only)
  have HK := Lib.hid hk
  clear hk hi hx1 hy1 hx2 hy2 ha hb
  have hnb := GB.blk HK 3 rfl
  have n0 := hnb.cell 0
  have n1 := hnb.cell 1
  simp only [List.getElem?_cons_zero, List.getElem?_cons_succ] at n0 n1
  clear hnb
  obtain ⟨j0, j1, j2, j3, j4, j5⟩ := GB.c6 HK 2 rfl
  go_enter Tryz.func117, Tryz.ntmps117
  go_wp2_with fail
  (with_reducible refine (bsqrt_b p hy0 hlo hhi (BV.of (x := x) (y := y) (WL.at (z := x.z) HI 0 rfl) (WL.at (z := y.z) HI 1 rfl)) bx by_ hN (Lib.hid (hT.out.keep HK.out.only))).mono ?_)
  rintro e w5 ⟨s5, A5, k5, c5, s6, A6, k6, c6, rfl, hc5, hv5, hc6, hv6, ho⟩
  have HC5 := Lib.hid hc5
  have HV5 := Lib.hid hv5
  have HC6 := Lib.hid hc6
  have HV6 := Lib.hid hv6
  replace HK := Lib.hid (HK.out.step ho)
  clear ho hc5 hv5 hc6 hv6
  clear n0 n1 j0 j1 j2 j3 j4 j5 HI hy0
  obtain ⟨q0, q1, q2, q3, q4, q5⟩ := GB.c6 HK 0 rfl
  obtain ⟨f0, f1, f2, f3, f4, f5⟩ := GB.f6 HK 0 rfl
  go_wp2_with fail
  refine bodyPost_ret (v := .tuple #[.agg #[.bool s5, .slice A5 k5 c5, .int .i64 (lo.e), .bool s6, .slice A6 k6 c6, .int .i64 (hi.e)], .bool true]) (by simp [results, Tryz.results117, go_sem, q0, q1, q2, q3, q4, q5]) rfl ?_
  exact qbfin HC5 HV5 HC6 HV6 (by omega) (GB.blk HK 0 rfl) (noLimb6 _ _ _ _ _ _ _ _ _ _) HK.out.only (only_set6 _ _ _ _ _ _ _ _)
end Go.Proofs.YtigpnopeacicpaaGreatDoor

/-
  near.eval: the balls of what a number is made of, as far as combine tells them.
-/
namespace Go.Proofs.YtigpnopeacicpaaGreatDoor
set_option linter.unusedSimpArgs false
open Go.RowKit
attribute [local go_sem] run_store_float

/-- The state of eval: two maps that the call has made; nb balls at most, nl entries left. -/
structure NAt (w0 w : World) (m u nb nl : Nat) (c : Int) (s : NSt) : Prop where
  only : Only [] w0 w
  balls : BallsAt w m nb s.1
  left : LeftAt w u nl s.2
  ok : LeftOk c s.2
section
variable {w0 w w' : World} {m u nb nl : Nat} {c : Int} {s : NSt}
theorem NAt.step (h : NAt w0 w m u nb nl c s) (ho : Only [] w w') : NAt w0 w' m u nb nl c s := ⟨h.only.nil_trans ho, h.balls.only ho, h.left.only ho (by simp), h.ok⟩
theorem NAt.mono {nl' : Nat} {c' : Int} (h : NAt w0 w m u nb nl c s) (h1 : nl ≤ nl') (h2 : c ≤ c') : NAt w0 w m u nb nl' c' s := by
  obtain ⟨n', h3, h4⟩ := h.left
  exact ⟨h.only, h.balls, ⟨n', by omega, h4⟩, fun y z hy => by have := h.ok y z hy; omega⟩
theorem NAt.put {x : Int} {b : Dy × Dy} (h : NAt w0 w m u nb nl c s) (hB : BallsAt w' m (nb + 1) (putB s.1 x b)) (ho : Only [m] w w') (hmu : m ≠ u) (hm : w0.heap.size ≤ m) : NAt w0 w' m u (nb + 1) nl c (putB s.1 x b, s.2) :=
  ⟨h.only.trans ho (fun k hk => .inr (by simp at hk; omega)), hB, h.left.only ho (by simp; exact fun e => hmu e.symm), h.ok⟩
theorem ndrop_at (k : Int) (h : Hid (NAt w0 w m u nb nl c s)) (hk : Hid (Small k)) (hmu : Hid (m ≠ u)) (hm : w0.heap.size ≤ m) (hu : w0.heap.size ≤ u) (hc0 : 0 ≤ c) (hc1 : c ≤ 100000) (hnl : nl < 999999) :
    Calls Tryz.prog 119 #[.map (some m), .map (some u), .int .i64 k] w fun e w' => e = .returned (.tuple #[]) ∧ NAt w0 w' m u nb (nl + 1) (c + 1) (dropN k s) ∧ Only [m, u] w w' :=
  (drop_any k c (Lib.hid h.out.balls) (Lib.hid h.out.left) hmu hk (Lib.hid h.out.ok) hc0 hc1 hnl).mono fun e w' ⟨he, h1, h2, ho⟩ =>
    ⟨he, ⟨h.out.only.trans ho (fun k hk => .inr (by simp at hk; omega)), h1, h2, h.out.ok.drop hc0 k⟩, ho⟩
end
theorem useF_ok (ns : List Nd) (L : List Int) (h : L.length ≤ 20000) : LeftOk 0 (useF ns L) := by
  intro y z hy
  unfold useF at hy
  split at hy
  · injection hy with hy
    have := cnt_le ns L y
    omega
  · cases hy
/-- What combine is asked and tells at the k-th number: of balls at hand. -/
def CombN (ns : List Nd) (L : List Int) (g : Int → Dy × Dy) (p : Int) (k : Nat) (lo hi : Dy) (ok : Bool) : Prop := ∀ (W : World) (va vb : Value), Tab6 W →
  BV W va (getB (runN ns g (useF ns L) (L.take k)).1 (nodeAt ns (L[k]?.getD 0)).a).1 (getB (runN ns g (useF ns L) (L.take k)).1 (nodeAt ns (L[k]?.getD 0)).a).2 →
  BV W vb (getB (runN ns g (useF ns L) (L.take k)).1 (nodeAt ns (L[k]?.getD 0)).b).1 (getB (runN ns g (useF ns L) (L.take k)).1 (nodeAt ns (L[k]?.getD 0)).b).2 →
  Calls Tryz.prog 117 #[(nodeAt ns (L[k]?.getD 0)).val, va, vb, .int .i64 p] W (QBPost lo hi ok W)
def NFits (x : Dy × Dy) : Prop := fitsP x.1 = true ∧ fitsP x.2 = true ∧ Bnd 8000000 x.1 ∧ Bnd 8000000 x.2

set_option maxHeartbeats 1600000 in
theorem fits_yes {w : World} {a : Value} {x : Dy} (ha : Hid (DV w a x)) (hx : Hid (Bnd 8000000 x)) (hf : Hid (fitsP x = true)) : Calls Tryz.prog 118 #[a] w fun e w' => e = .returned (.bool true) ∧ Only [] w w' := by
  obtain ⟨s, A, k, c, rfl, hv⟩ := ha.out
  have hk := (GB.start w).new 32 [.bool s, .slice A k c, .int .i64 x.e] (noLimb3 _ _ _ _ _)
  have HK := Lib.hid hk
  have HV := Lib.hid (hv.only hk.only)
  clear hk hv ha
  obtain ⟨c0, c1, c2⟩ := GB.c3 HK 0 rfl
  obtain ⟨q, hq⟩ : ∃ q, x.z.sign = q := ⟨_, rfl⟩
  go_enter Tryz.func118, Tryz.ntmps118
  go_wp2_with fail
  (with_reducible refine (signV_d q (DV.of HV) hq).mono ?_)
  rintro e w2 ⟨rfl, ho⟩
  replace HK := Lib.hid (HK.out.step ho)
  replace HV := Lib.hid (HV.out.only ho)
  clear ho c0 c1 c2
  obtain ⟨c0, c1, c2⟩ := GB.c3 HK 0 rfl
  by_cases h0 : q = 0
  · subst h0
    go_wp2_with fail
    go_returns
    exact ⟨rfl, HK.out.only⟩
  · have hne : (q == 0) = false := by simpa using h0
    obtain ⟨t, ht⟩ : ∃ t, topD x = t := ⟨_, rfl⟩
    have hr : -4194304 ≤ t ∧ t ≤ 4194304 := by
      have h := hf.out
      unfold fitsP at h
      rw [ht] at h
      have hz : decide (x.z = 0) = false := by
        rw [decide_eq_false_iff_not]
        intro hc
        rw [hc] at hq
        exact h0 hq.symm
      rw [hz] at h
      simpa using h
    have g1 := hr.1
    have g2 := hr.2
    have HTp := Lib.hid ht
    clear hr hq h0 ht
    go_wp2_with fail
    (with_reducible refine (top_d (DV.of HV) hx (by omega)).mono ?_)
    rw [HTp.out]
    rintro e w3 ⟨rfl, ho⟩
    replace HK := Lib.hid (HK.out.step ho)
    clear ho c0 c1 c2
    go_wp2_with fail
    all_goals (first | (go_returns; exact ⟨rfl, HK.out.only⟩) | (exfalso; omega))

set_option maxHeartbeats 16000000 in
set_option maxRecDepth 100000 in
theorem neval_any (d : Nat) (v : Value) (r : Option Nat) (ns : List Nd) (root : Nat) (p : Int) (w : World) (L : List Int) (g : Int → Dy × Dy) (K : Nat) (hd : DagIs w d v r ns) (ok : OkDag ns) (hns : ns.length ≤ 20000) (hroot : root < ns.length) (hp1 : decide (p < 1) = false) (hp2 : decide (65536 < p) = false)
    (hL : belowOf ns (root : Int) = L) (hK : K ≤ L.length) (hsm : Hid (∀ x : Nat, x < ns.length → Small (nodeAt ns (x : Int)).a ∧ Small (nodeAt ns (x : Int)).b)) (hkd : Hid (∀ x : Nat, x < ns.length → 0 ≤ (nodeAt ns (x : Int)).k ∧ (nodeAt ns (x : Int)).k ≤ 5))
    (HC : Hid (∀ k, k < K → CombN ns L g p k (g (L[k]?.getD 0)).1 (g (L[k]?.getD 0)).2 true ∧ NFits (g (L[k]?.getD 0)))) (HX : Hid (K < L.length → CombN ns L g p K ⟨0, 0⟩ ⟨0, 0⟩ false)) (hT : Hid (Tab6 w)) :
    Calls Tryz.prog 74 #[.pointer (some ⟨d, 0, none⟩), .int .i64 (root : Int), .int .i64 p, .bool false] w fun e w' => ∃ m, e = .returned (.tuple #[if K = L.length then .map (some m) else .map none, .bool (decide (K = L.length))]) ∧ (K = L.length → BallsAt w' m L.length (runN ns g (useF ns L) L).1) ∧ Only [] w w' := by
  have hmm := @run_makeMap Tryz.prog
  have HD := Lib.hid hd
  have HNs := Lib.hid hns
  have HOk := Lib.hid ok
  have HKl := Lib.hid hK
  have HLr := Lib.hid hL
  have HRo := Lib.hid hroot
  clear hd hns ok hK hL hroot
  go_enter Tryz.func74, Tryz.ntmps74
  go_wp2_with fail
  refine (dnode_in d v r ns root w HD.out HRo.out).mono ?_
  rintro e w1 ⟨rfl, ho1⟩
  obtain ⟨nk, nf, na, nb⟩ := ns[root]?.getD nd0
  simp only [Nd.val]
  go_upto_region 2 with fail
  have HO2 : Hid (Only [] w (w1.alloc (.cells #[.int .i64 nk, .float .f64 nf, .int .i64 na, .int .i64 nb] 95))) := ho1.alloc _
  clear ho1
  generalize w1.alloc (.cells #[.int .i64 nk, .float .f64 nf, .int .i64 na, .int .i64 nb] 95) = w2 at *
  generalize w1.heap.size = b1 at *
  go_upto_region 4 with fail
  go_wp2_with fail
  refine (uses_any d v r ns (root : Int) w2 (HD.out.only HO2.out (by simp)) HOk.out HNs.out).mono ?_
  rintro e w3 ⟨u, rfl, hus, hU, ho3⟩
  rw [HLr.out] at hU
  have hmu : u < w3.heap.size := hU.lt
  have HO3 := Lib.hid (HO2.out.nil_trans ho3)
  have HUs : Hid (w.heap.size ≤ u) := by have := HO2.out.size; show _ ≤ _; omega
  have HU3 := Lib.hid hU
  clear hU ho3 hus
  go_wp2_with fail
  have HA : Hid (IRead ((w3.alloc (.map #[] 0)).alloc (.cells #[.int .i64 (root : Int)] 3)) (some ⟨w3.heap.size + 1, 0, none⟩) [(root : Int)]) := fun k hk => ⟨w3.heap.size + 1, 0, rfl, by
    have e : k = 0 := by simpa using hk
    subst e
    have := (Blk.new (w3.alloc (.map #[] 0)) 3 [.int .i64 (root : Int)]).cell 0
    rw [World.size_alloc] at this
    exact this⟩
  have HO5 : Hid (Only [] w ((w3.alloc (.map #[] 0)).alloc (.cells #[.int .i64 (root : Int)] 3))) := (HO3.out.alloc _).alloc _
  refine (below_any d v r ns [(root : Int)] (some ⟨w3.heap.size + 1, 0, none⟩) 1 _ (HD.out.only HO5.out (by simp)) HOk.out HNs.out HA (by simp)).mono ?_
  rintro e w6 ⟨q, rfl, hLq, hfr, ho6⟩
  have HIds : Hid (Ids ns L) := HLr.out ▸ belowL_ids HOk.out (· ∈ [(root : Int)])
  have HAsc : Hid (L.Pairwise (· < ·)) := by
    show List.Pairwise _ _
    rw [← HLr.out]
    exact belowL_asc ns (· ∈ [(root : Int)])
  replace hLq : IntsAt w6 q L := HLr.out ▸ hLq
  obtain ⟨Au, cu, rfl, hread⟩ := hLq.shape
  have hlen : (L.length : Int) ≤ 20000 := by have := HIds.out.len; have := HNs.out; omega
  have HS0 : Hid (NAt w w6 w3.heap.size u 0 (L.length + 2 * 0) (2 * (0 : Nat) : Int) (runN ns g (useF ns L) (L.take 0))) := ⟨HO5.out.nil_trans ho6,
    ((BallsAt.made w3).only ((Only.refl [] _).alloc _)).only ho6,
    ⟨L.length, by omega, ((HU3.out.only ((Only.refl [] w3).alloc _) (by simp)).only ((Only.refl [] _).alloc _) (by simp)).only ho6 (by simp)⟩,
    by simpa [runN] using useF_ok ns L (by omega)⟩
  have HR := Lib.hid hread
  have HFr : Hid (∀ b o, Au = some ⟨b, o, none⟩ → b ≠ w3.heap.size ∧ b ≠ u) := by
    rintro b o rfl
    have := hfr b rfl
    rw [World.size_alloc, World.size_alloc] at this
    omega
  have HMu : Hid (w3.heap.size ≠ u) := by show _ ≠ _; omega
  have HSz : Hid (w.heap.size ≤ w3.heap.size) := HO3.out.size
  clear hLq hread ho6 HO5 HA hfr hmm HU3 HO3 HO2 hmu
  generalize w3.heap.size = m at HS0 HFr HMu HSz ⊢
  go_wp2_with fail
  go_loopw [45] (fun i wr => ∃ k : Nat, k ≤ L.length ∧ k ≤ K ∧ i = .int .i64 (k : Int) ∧ Only [m, u] w6 wr ∧ NAt w wr m u k (L.length + 2 * k) (2 * (k : Int)) (runN ns g (useF ns L) (L.take k))) (fun i _ => L.length - (intOf i).toNat)
  case atStart => exact ⟨0, Nat.zero_le _, Nat.zero_le _, rfl, Only.refl _ _, HS0.out⟩
  case round =>
    obtain ⟨k, hk, hkK, rfl, ho, hS⟩ := hrel
    have HO := Lib.hid ho
    have HS := Lib.hid hS
    clear ho hS HS0
    by_cases hlt : k < L.length
    · obtain ⟨a, ha, han⟩ := HIds.out.mem k hlt
      obtain ⟨b, o, rfl, hcell0⟩ := HR.out k hlt
      have hbm := HFr.out b o rfl
      have hcell := HO.out.cell hcell0 (by simp; omega)
      rw [ha] at hcell
      have hlt' : (k : Int) < (L.length : Int) := by omega
      have hsa : Small (a : Int) := by have := HNs.out; unfold Small; omega
      have HSa := Lib.hid hsa
      have hkn : k ≤ 20000 := by omega
      have HTake : Hid (L.take (k + 1) = L.take k ++ [(a : Int)]) := by
        show _ = _
        rw [List.take_succ_eq_append_getElem hlt, ← ha, List.getElem?_eq_getElem hlt]
        rfl
      have HCk : Hid ((k < K → CombN ns L g p k (g (a : Int)).1 (g (a : Int)).2 true ∧ NFits (g (a : Int))) ∧ (k = K → CombN ns L g p k ⟨0, 0⟩ ⟨0, 0⟩ false)) := by
        refine ⟨fun h => ?_, fun h => ?_⟩
        · have := HC.out k h
          rw [ha] at this
          exact this
        · subst h
          exact HX.out hlt
      have HSm := Lib.hid (hsm.out a han)
      have HKd := Lib.hid (hkd.out a han)
      clear hsa hcell0 hbm
      go_wp2_with fail
      refine (dnode_in d v r ns a wr (HD.out.only HS.out.only (by simp)) han).mono ?_
      rintro e w7 ⟨rfl, ho7⟩
      have HN : Hid (nodeAt ns (a : Int) = ns[a]?.getD nd0) := rfl
      have HRun : Hid (runN ns g (useF ns L) (L.take (k + 1)) = stepN ns g (runN ns g (useF ns L) (L.take k)) (a : Int)) := runN_snoc ns g _ HTake.out
      unfold CombN at HCk
      unfold stepN at HRun
      rw [ha, HN.out] at HCk
      rw [HN.out] at HSm HKd HRun
      generalize ns[a]?.getD nd0 = nd at HCk HSm HKd HRun ⊢
      obtain ⟨nk, nf, na, nb⟩ := nd
      simp only [Nd.val] at HCk ⊢
      simp only at HSm HKd HRun
      replace HS := Lib.hid (HS.out.step ho7)
      have HO7 := Lib.hid (HO.out.nil_trans ho7)
      clear ho7 HO hcell HN ha HC HX
      go_upto_region 10 with fail
      have hbx := Blk.new w7 95 [.int .i64 nk, .float .f64 nf, .int .i64 na, .int .i64 nb]
      have hoa : Only [] w7 (w7.alloc (.cells #[.int .i64 nk, .float .f64 nf, .int .i64 na, .int .i64 nb] 95)) := (Only.refl _ _).alloc _
      have hmlt := HS.out.balls.lt
      have hult := HS.out.left.lt
      have hbase := HS.out.only.size
      generalize w7.alloc (.cells #[.int .i64 nk, .float .f64 nf, .int .i64 na, .int .i64 nb] 95) = w8 at *
      generalize w7.heap.size = bx at *
      replace HS := Lib.hid (HS.out.step hoa)
      have HO8 := Lib.hid (HO7.out.nil_trans hoa)
      have HBx := Lib.hid hbx
      have HNe : Hid (bx ≠ m ∧ bx ≠ u ∧ w.heap.size ≤ bx) := by show _ ∧ _; omega
      have b0 := hbx.cell 0
      have b1_ := hbx.cell 1
      have b2 := hbx.cell 2
      have b3 := hbx.cell 3
      simp only [List.getElem?_cons_zero, List.getElem?_cons_succ] at b0 b1_ b2 b3
      obtain ⟨va, hlA, hva⟩ := HS.out.balls.look HSm.out.1
      obtain ⟨vb, hlB, hvb⟩ := HS.out.balls.look HSm.out.2
      have HVa := Lib.hid hva
      have HVb := Lib.hid hvb
      have HT8 := Lib.hid (hT.out.keep HS.out.only)
      clear hbx hoa HO7 hva hvb hmlt hult hbase
      obtain ⟨s, hs_⟩ : ∃ s, runN ns g (useF ns L) (L.take k) = s := ⟨_, rfl⟩
      rw [hs_] at HS HCk HVa HVb HRun
      by_cases hkK2 : k < K
      · obtain ⟨hcm, hfit⟩ := HCk.out.1 hkK2
        have HCm := Lib.hid (hcm w8 va vb HT8.out HVa.out.bv HVb.out.bv)
        have HFt := Lib.hid hfit
        obtain ⟨gg, hgg⟩ : ∃ gg, g (a : Int) = gg := ⟨_, rfl⟩
        rw [hgg] at HCm HFt HRun
        obtain ⟨lo, hi⟩ := gg
        obtain ⟨hf1, hf2, hb1, hb2⟩ := HFt.out
        have HF1 := Lib.hid hf1
        have HF2 := Lib.hid hf2
        have HB1 := Lib.hid hb1
        have HB2 := Lib.hid hb2
        simp only at HCm HF1 HF2 HB1 HB2
        clear hcm hfit HCk HVa HVb HFt hf1 hf2 hb1 hb2 hgg hs_ HT8
        go_upto_region 11 with (go_at_call 117; (with_reducible refine HCm.out.mono ?_); rintro e w9 ⟨s5, A5, k5, c5, s6, A6, k6, c6, rfl, hc5, hv5, hc6, hv6, ho9⟩)
        have hbl := Blk.new w9 34 [.bool s5, .slice A5 k5 c5, .int .i64 lo.e, .bool s6, .slice A6 k6 c6, .int .i64 hi.e]
        have hoa : Only [] w9 (w9.alloc (.cells #[.bool s5, .slice A5 k5 c5, .int .i64 lo.e, .bool s6, .slice A6 k6 c6, .int .i64 hi.e] 34)) := (Only.refl _ _).alloc _
        have hoc := ho9.nil_trans hoa
        have HC5 := Lib.hid hc5
        have HC6 := Lib.hid hc6
        have HV5 := Lib.hid (hv5.only hoa)
        have HV6 := Lib.hid (hv6.only hoa)
        generalize w9.alloc _ = w10 at *
        generalize w9.heap.size = bb at *
        replace HS := Lib.hid (HS.out.step hoc)
        have HO10 := Lib.hid (HO8.out.nil_trans hoc)
        replace HBx := Lib.hid (HBx.out.only hoc (by simp))
        have HBb := Lib.hid hbl
        clear hbl hoa hoc ho9 HO8 b0 b1_ b2 b3 hlA hlB hc5 hc6 hv5 hv6 HCm
        have q0 := HBb.out.cell 0
        have q1 := HBb.out.cell 1
        have q2 := HBb.out.cell 2
        have q3 := HBb.out.cell 3
        have q4 := HBb.out.cell 4
        have q5 := HBb.out.cell 5
        simp only [List.getElem?_cons_zero, List.getElem?_cons_succ] at q0 q1 q2 q3 q4 q5
        go_wp2_with fail
        (with_reducible refine (fits_yes (x := lo) (DV.of HV5) HB1 HF1).mono ?_)
        rintro e w11 ⟨rfl, ho11⟩
        replace HS := Lib.hid (HS.out.step ho11)
        have HO11 := Lib.hid (HO10.out.nil_trans ho11)
        replace HBx := Lib.hid (HBx.out.only ho11 (by simp))
        replace HBb := Lib.hid (HBb.out.only ho11 (by simp))
        replace HV5 := Lib.hid (HV5.out.only ho11)
        replace HV6 := Lib.hid (HV6.out.only ho11)
        clear ho11 HO10 q0 q1 q2 q3 q4 q5
        have q0 := HBb.out.cell 0
        have q1 := HBb.out.cell 1
        have q2 := HBb.out.cell 2
        have q3 := HBb.out.cell 3
        have q4 := HBb.out.cell 4
        have q5 := HBb.out.cell 5
        simp only [List.getElem?_cons_zero, List.getElem?_cons_succ] at q0 q1 q2 q3 q4 q5
        go_wp2_with fail
        (with_reducible refine (fits_yes (x := hi) (DV.of HV6) HB2 HF2).mono ?_)
        rintro e w12 ⟨rfl, ho12⟩
        replace HS := Lib.hid (HS.out.step ho12)
        have HO12 := Lib.hid (HO11.out.nil_trans ho12)
        replace HBx := Lib.hid (HBx.out.only ho12 (by simp))
        replace HBb := Lib.hid (HBb.out.only ho12 (by simp))
        replace HV5 := Lib.hid (HV5.out.only ho12)
        replace HV6 := Lib.hid (HV6.out.only ho12)
        clear ho12 HO11 q0 q1 q2 q3 q4 q5
        have q0 := HBb.out.cell 0
        have q1 := HBb.out.cell 1
        have q2 := HBb.out.cell 2
        have q3 := HBb.out.cell 3
        have q4 := HBb.out.cell 4
        have q5 := HBb.out.cell 5
        simp only [List.getElem?_cons_zero, List.getElem?_cons_succ] at q0 q1 q2 q3 q4 q5
        obtain ⟨w13, hup, hM13, ho13⟩ := HS.out.balls.store (b := (lo, hi)) (by omega) HSa.out (show NBV w12 (.agg #[.bool s5, .slice A5 k5 c5, .int .i64 lo.e, .bool s6, .slice A6 k6 c6, .int .i64 hi.e]) lo hi from ⟨s5, A5, k5, c5, s6, A6, k6, c6, rfl, HC5.out, HV5.out, HC6.out, HV6.out⟩)
        have HS13 := Lib.hid (HS.out.put hM13 ho13 HMu.out HSz.out)
        have HO13 : Hid (Only [m, u] w6 w13) := HO12.out.trans ho13 (fun y hy => .inl (by simp at hy; simp [hy]))
        have HBx13 := Lib.hid (HBx.out.only ho13 (by simp; exact HNe.out.1))
        clear hM13 ho13 HO12 HBx HV5 HV6
        have n0 := HBx13.out.cell 0
        have n2 := HBx13.out.cell 2
        have n3 := HBx13.out.cell 3
        simp only [List.getElem?_cons_zero, List.getElem?_cons_succ] at n0 n2 n3
        go_upto_region 15 with fail
        clear q0 q1 q2 q3 q4 q5 hup HS HBb
        have HNxt : Hid (∀ W, NAt w W m u (k + 1) (L.length + 2 * k + 2) (2 * (k : Int) + 2) (runN ns g (useF ns L) (L.take (k + 1))) → Only [m, u] w6 W → ∃ k' : Nat, k' ≤ L.length ∧ k' ≤ K ∧ (.int .i64 ((k : Int) + 1) : Value) = .int .i64 (k' : Int) ∧ Only [m, u] w6 W ∧ NAt w W m u k' (L.length + 2 * k') (2 * (k' : Int)) (runN ns g (useF ns L) (L.take k'))) := fun W hN hO =>
          ⟨k + 1, by omega, by omega, by congr 1, hO, hN.mono (by omega) (by omega)⟩
        have hk1 : IntKind.i64.wrap ((k : Int) + 1) = (k : Int) + 1 := wrap_i64 (by omega)
        rcases (by have := HKd.out; omega : nk = 0 ∨ nk = 5 ∨ nk = 1 ∨ nk = 2 ∨ nk = 3 ∨ nk = 4) with rfl | rfl | rfl | rfl | rfl | rfl
        · rw [if_pos rfl] at HRun
          go_wp2_with fail
          go_roundw
          case rel => exact HNxt.out _ (HRun.out ▸ HS13.out.mono (by omega) (by omega)) HO13.out
          case measure => simp [intOf] <;> omega
        · rw [if_neg (by decide), if_pos rfl] at HRun
          go_wp2_with fail
          (with_reducible refine (ndrop_at na HS13 (Lib.hid HSm.out.1) HMu HSz.out HUs.out (by omega) (by omega) (by omega)).mono ?_)
          rintro e w14 ⟨rfl, hN, ho14⟩
          have HS14 := Lib.hid hN
          have HO14 : Hid (Only [m, u] w6 w14) := HO13.out.trans ho14 (fun y hy => .inl hy)
          clear hN ho14 n0 n2 n3
          go_wp2_with fail
          go_roundw
          case rel => exact HNxt.out _ (HRun.out ▸ HS14.out.mono (by omega) (by omega)) HO14.out
          case measure => simp [intOf] <;> omega
        all_goals
          rw [if_neg (by decide), if_neg (by decide)] at HRun
          go_wp2_with fail
          (with_reducible refine (ndrop_at nb HS13 (Lib.hid HSm.out.2) HMu HSz.out HUs.out (by omega) (by omega) (by omega)).mono ?_)
          rintro e w14 ⟨rfl, hN, ho14⟩
          have HS14 := Lib.hid hN
          have HO14 : Hid (Only [m, u] w6 w14) := HO13.out.trans ho14 (fun y hy => .inl hy)
          have HBx14 := Lib.hid (HBx13.out.only ho14 (by have := HNe.out; simp; omega))
          clear hN ho14 n0 n2 n3
          have n2 := HBx14.out.cell 2
          simp only [List.getElem?_cons_zero, List.getElem?_cons_succ] at n2
          go_wp2_with fail
          (with_reducible refine (ndrop_at na HS14 (Lib.hid HSm.out.1) HMu HSz.out HUs.out (by omega) (by omega) (by omega)).mono ?_)
          rintro e w15 ⟨rfl, hN, ho15⟩
          have HS15 := Lib.hid hN
          have HO15 : Hid (Only [m, u] w6 w15) := HO14.out.trans ho15 (fun y hy => .inl hy)
          clear hN ho15 n2
          go_wp2_with fail
          go_roundw
          case rel => exact HNxt.out _ (HRun.out ▸ HS15.out.mono (by omega) (by omega)) HO15.out
          case measure => simp [intOf] <;> omega
      · have HCm := Lib.hid (HCk.out.2 (by omega) w8 va vb HT8.out HVa.out.bv HVb.out.bv)
        have HNk : Hid (¬ K = L.length) := by show ¬ _; omega
        clear HCk HVa HVb hs_ HRun HT8
        go_upto_region 11 with (go_at_call 117; (with_reducible refine HCm.out.mono ?_); rintro e w9 ⟨s5, A5, k5, c5, s6, A6, k6, c6, rfl, hc5, hv5, hc6, hv6, ho9⟩)
        have HE9 : Hid (Only [] w w9) := HS.out.only.nil_trans ho9
        clear hc5 hc6 hv5 hv6 ho9 HCm b0 b1_ b2 b3 hlA hlB
        go_wp2_with fail
        go_returns
        exact ⟨rfl, HE9.out.alloc _⟩
    · have hnl : ¬ (k : Int) < (L.length : Int) := by omega
      obtain rfl : k = L.length := by omega
      have HKe : Hid (K = L.length) := by have := HKl.out; show _ = _; omega
      go_wp2_with fail
      go_returns
      have h := HS.out
      rw [List.take_length] at h
      exact ⟨m, rfl, h.balls, h.only⟩
end Go.Proofs.YtigpnopeacicpaaGreatDoor
