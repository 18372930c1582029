/-
  BallHolds: the walk.
-/
import Derived.Test.YtgiejjpemhceiaaDoorTdBlT
import Derived.Test.YtgiejjpemhceiaaDoorTdBlM
import Derived.Test.YtgiejjpemhceiaaDoorTdBlP
import Derived.Test.YtgiejjpemhceiaaDoorTdBlS
import Derived.Test.YtgiejjpemhceiaaDoorTdGB
namespace Go.Proofs.YtgiejjpemhceiaaDoor
set_option linter.unusedSimpArgs false
open Go.RowKit
theorem noLimb12 (n1 n2 n3 n4 : Bool) (A1 A2 A3 A4 : Option Addr) (k1 k2 k3 k4 c1 c2 c3 c4 : Nat) (e1 e2 e3 e4 : Int) : NoLimb [.bool n1, .slice A1 k1 c1, .int .i64 e1, .bool n2, .slice A2 k2 c2, .int .i64 e2, .bool n3, .slice A3 k3 c3, .int .i64 e3, .bool n4, .slice A4 k4 c4, .int .i64 e4] := fun o n h => by
  rcases o with _ | _ | _ | _ | _ | _ | _ | _ | _ | _ | _ | _ | o <;> simp at h
theorem bquo_v {w : World} {a b : Value} {x y u v : Dy} {N : Nat} (p : Int) (ok : Bool) (lo hi : Dy) (hno : Hid (ok = false → (u.z.sign = v.z.sign → u.z.sign = 0) ∧ lo = ⟨0, 0⟩ ∧ hi = ⟨0, 0⟩)) (hyes : Hid (ok = true → u.z.sign = v.z.sign ∧ u.z ≠ 0 ∧ qLo (widthP p) x y u v = lo ∧ qHi (widthP p) x y u v = hi)) (ha : Hid (BV w a x y)) (hb : Hid (BV w b u v)) (bx : Hid (Bnd N x)) (by_ : Hid (Bnd N y)) (bu : Hid (Bnd N u)) (bv : Hid (Bnd N v)) (hN : N ≤ 100000) (hT : Hid (Tab6 w)) : Calls Tryd.prog 42 #[a, b, .int .i64 p] w (QBPost lo hi ok w) := by
  cases ok
  · obtain ⟨h1, h2, h3⟩ := hno.out rfl
    subst h2 h3
    exact bquo_no p h1 ha hb
  · obtain ⟨h1, h2, h3, h4⟩ := hyes.out rfl
    exact bquo_b p lo hi h3 h4 h1 h2 ha hb bx by_ bu bv hN hT
theorem subV_d {w : World} {a b : Value} {x y : Dy} {N : Nat} (r : Dy) (hr : dSub x y = r) (ha : Hid (DV w a x)) (hb : Hid (DV w b y)) (hx : Hid (Bnd N x)) (hy : Hid (Bnd N y)) (hN : N ≤ 1000000) (hT : Hid (Tab6 w)) : Calls Tryd.prog 55 #[a, b] w (DPost r w) := hr ▸ sub_d ha hb hx hy hN hT
theorem makeV_d {w : World} {m : Value} {z e : Int} (r : Dy) (hr : nrm z e = r) (ha : Hid (IV w m z)) (hb : Hid (bitsN z.natAbs ≤ 16777216)) (h1 : -4000000000000000000 ≤ e) (h2 : e ≤ 4000000000000000000) (hT : Hid (Tab6 w)) : Calls Tryd.prog 53 #[m, .int .i64 e] w (DPost r w) := hr ▸ make_d ha hb h1 h2 hT
set_option maxHeartbeats 8000000 in
set_option maxRecDepth 100000 in
theorem bhol_out1 (n1 n2 n3 n4 : Bool) (A1 A2 A3 A4 : Option Addr) (L1 L2 L3 L4 : List Nat) (c1 c2 c3 c4 : Nat) (e1 e2 e3 e4 : Int) (p k : Int) (w : World) (hT : Hid (Tab6 w)) (hl : lightN [⟨n1, A1, L1.length, c1, e1⟩, ⟨n2, A2, L2.length, c2, e2⟩, ⟨n3, A3, L3.length, c3, e3⟩, ⟨n4, A4, L4.length, c4, e4⟩] = false) :
    Calls Tryd.prog 7 #[.agg #[.bool n1, .slice A1 L1.length c1, .int .i64 e1, .bool n2, .slice A2 L2.length c2, .int .i64 e2, .bool n3, .slice A3 L3.length c3, .int .i64 e3, .bool n4, .slice A4 L4.length c4, .int .i64 e4], .int .i64 p, .int .i64 k] w fun e w' => e = .returned (.bool true) ∧ Only [] w w' := by
  have HL := Lib.hid hl
  clear hl
  have hlv := light3_v (w := w.alloc (.cells #[.bool n1, .slice A1 L1.length c1, .int .i64 e1, .bool n2, .slice A2 L2.length c2, .int .i64 e2, .bool n3, .slice A3 L3.length c3, .int .i64 e3, .bool n4, .slice A4 L4.length c4, .int .i64 e4] 58)) [⟨n1, A1, L1.length, c1, e1⟩, ⟨n2, A2, L2.length, c2, e2⟩, ⟨n3, A3, L3.length, c3, e3⟩, ⟨n4, A4, L4.length, c4, e4⟩] 4 (Lib.hid rfl) (by omega)
  rw [HL.out] at hlv
  simp only [flatN, List.flatMap_cons, List.flatMap_nil, List.cons_append, List.nil_append, World.size_alloc] at hlv
  have hk := (GB.start w).new 58 [.bool n1, .slice A1 L1.length c1, .int .i64 e1, .bool n2, .slice A2 L2.length c2, .int .i64 e2, .bool n3, .slice A3 L3.length c3, .int .i64 e3, .bool n4, .slice A4 L4.length c4, .int .i64 e4] (noLimb12 _ _ _ _ _ _ _ _ _ _ _ _ _ _ _ _ _ _ _ _)
  have HG := Lib.hid hk
  have HLV := Lib.hid hlv
  obtain ⟨i0, i1, i2, i3, i4, i5, i6, i7, i8, i9, i10, i11⟩ := GB.c12 HG 0 rfl
  clear hlv hk HL
  go_enter Tryd.func7, Tryd.ntmps7
  go_wp2_with fail
  (with_reducible refine HLV.out.mono ?_)
  rintro e w1 ⟨rfl, ho⟩
  replace HG := Lib.hid (HG.out.step ho)
  clear ho
  clear i0 i1 i2 i3 i4 i5 i6 i7 i8 i9 i10 i11
  go_wp2_with fail
  (with_reducible refine (alive5_any _ (Lib.hid (hT.out.keep HG.out.only))).mono ?_)
  rintro e w2 ⟨rfl, ho⟩
  replace HG := Lib.hid (HG.out.step ho)
  clear ho
  go_wp2_with fail
  go_ret
  exact ⟨rfl, HG.out.only⟩
set_option maxHeartbeats 8000000 in
set_option maxRecDepth 100000 in
theorem bhol_out2 (n1 n2 n3 n4 : Bool) (A1 A2 A3 A4 : Option Addr) (L1 L2 L3 L4 : List Nat) (c1 c2 c3 c4 : Nat) (e1 e2 e3 e4 : Int) (p k : Int) (w : World) (hT : Hid (Tab6 w)) (hl : lightN [⟨n1, A1, L1.length, c1, e1⟩, ⟨n2, A2, L2.length, c2, e2⟩, ⟨n3, A3, L3.length, c3, e3⟩, ⟨n4, A4, L4.length, c4, e4⟩] = true) (hp : p < 1) :
    Calls Tryd.prog 7 #[.agg #[.bool n1, .slice A1 L1.length c1, .int .i64 e1, .bool n2, .slice A2 L2.length c2, .int .i64 e2, .bool n3, .slice A3 L3.length c3, .int .i64 e3, .bool n4, .slice A4 L4.length c4, .int .i64 e4], .int .i64 p, .int .i64 k] w fun e w' => e = .returned (.bool true) ∧ Only [] w w' := by
  have HL := Lib.hid hl
  clear hl
  have hlv := light3_v (w := w.alloc (.cells #[.bool n1, .slice A1 L1.length c1, .int .i64 e1, .bool n2, .slice A2 L2.length c2, .int .i64 e2, .bool n3, .slice A3 L3.length c3, .int .i64 e3, .bool n4, .slice A4 L4.length c4, .int .i64 e4] 58)) [⟨n1, A1, L1.length, c1, e1⟩, ⟨n2, A2, L2.length, c2, e2⟩, ⟨n3, A3, L3.length, c3, e3⟩, ⟨n4, A4, L4.length, c4, e4⟩] 4 (Lib.hid rfl) (by omega)
  rw [HL.out] at hlv
  simp only [flatN, List.flatMap_cons, List.flatMap_nil, List.cons_append, List.nil_append, World.size_alloc] at hlv
  have hk := (GB.start w).new 58 [.bool n1, .slice A1 L1.length c1, .int .i64 e1, .bool n2, .slice A2 L2.length c2, .int .i64 e2, .bool n3, .slice A3 L3.length c3, .int .i64 e3, .bool n4, .slice A4 L4.length c4, .int .i64 e4] (noLimb12 _ _ _ _ _ _ _ _ _ _ _ _ _ _ _ _ _ _ _ _)
  have HG := Lib.hid hk
  have HLV := Lib.hid hlv
  obtain ⟨i0, i1, i2, i3, i4, i5, i6, i7, i8, i9, i10, i11⟩ := GB.c12 HG 0 rfl
  clear hlv hk HL
  go_enter Tryd.func7, Tryd.ntmps7
  go_wp2_with fail
  (with_reducible refine HLV.out.mono ?_)
  rintro e w1 ⟨rfl, ho⟩
  replace HG := Lib.hid (HG.out.step ho)
  clear ho
  clear i0 i1 i2 i3 i4 i5 i6 i7 i8 i9 i10 i11
  go_wp2_with fail
  (with_reducible refine (alive5_any _ (Lib.hid (hT.out.keep HG.out.only))).mono ?_)
  rintro e w2 ⟨rfl, ho⟩
  replace HG := Lib.hid (HG.out.step ho)
  clear ho
  go_wp2_with fail
  go_ret
  exact ⟨rfl, HG.out.only⟩
set_option maxHeartbeats 8000000 in
set_option maxRecDepth 100000 in
theorem bhol_out3 (n1 n2 n3 n4 : Bool) (A1 A2 A3 A4 : Option Addr) (L1 L2 L3 L4 : List Nat) (c1 c2 c3 c4 : Nat) (e1 e2 e3 e4 : Int) (p k : Int) (w : World) (hT : Hid (Tab6 w)) (hl : lightN [⟨n1, A1, L1.length, c1, e1⟩, ⟨n2, A2, L2.length, c2, e2⟩, ⟨n3, A3, L3.length, c3, e3⟩, ⟨n4, A4, L4.length, c4, e4⟩] = true) (hp : ¬ p < 1) (hp2 : 200 < p) :
    Calls Tryd.prog 7 #[.agg #[.bool n1, .slice A1 L1.length c1, .int .i64 e1, .bool n2, .slice A2 L2.length c2, .int .i64 e2, .bool n3, .slice A3 L3.length c3, .int .i64 e3, .bool n4, .slice A4 L4.length c4, .int .i64 e4], .int .i64 p, .int .i64 k] w fun e w' => e = .returned (.bool true) ∧ Only [] w w' := by
  have HL := Lib.hid hl
  clear hl
  have hlv := light3_v (w := w.alloc (.cells #[.bool n1, .slice A1 L1.length c1, .int .i64 e1, .bool n2, .slice A2 L2.length c2, .int .i64 e2, .bool n3, .slice A3 L3.length c3, .int .i64 e3, .bool n4, .slice A4 L4.length c4, .int .i64 e4] 58)) [⟨n1, A1, L1.length, c1, e1⟩, ⟨n2, A2, L2.length, c2, e2⟩, ⟨n3, A3, L3.length, c3, e3⟩, ⟨n4, A4, L4.length, c4, e4⟩] 4 (Lib.hid rfl) (by omega)
  rw [HL.out] at hlv
  simp only [flatN, List.flatMap_cons, List.flatMap_nil, List.cons_append, List.nil_append, World.size_alloc] at hlv
  have hk := (GB.start w).new 58 [.bool n1, .slice A1 L1.length c1, .int .i64 e1, .bool n2, .slice A2 L2.length c2, .int .i64 e2, .bool n3, .slice A3 L3.length c3, .int .i64 e3, .bool n4, .slice A4 L4.length c4, .int .i64 e4] (noLimb12 _ _ _ _ _ _ _ _ _ _ _ _ _ _ _ _ _ _ _ _)
  have HG := Lib.hid hk
  have HLV := Lib.hid hlv
  obtain ⟨i0, i1, i2, i3, i4, i5, i6, i7, i8, i9, i10, i11⟩ := GB.c12 HG 0 rfl
  clear hlv hk HL
  go_enter Tryd.func7, Tryd.ntmps7
  go_wp2_with fail
  (with_reducible refine HLV.out.mono ?_)
  rintro e w1 ⟨rfl, ho⟩
  replace HG := Lib.hid (HG.out.step ho)
  clear ho
  clear i0 i1 i2 i3 i4 i5 i6 i7 i8 i9 i10 i11
  go_wp2_with fail
  (with_reducible refine (alive5_any _ (Lib.hid (hT.out.keep HG.out.only))).mono ?_)
  rintro e w2 ⟨rfl, ho⟩
  replace HG := Lib.hid (HG.out.step ho)
  clear ho
  go_wp2_with fail
  go_ret
  exact ⟨rfl, HG.out.only⟩
set_option maxHeartbeats 8000000 in
set_option maxRecDepth 100000 in
theorem bhol_in00 (n1 n2 n3 n4 : Bool) (A1 A2 A3 A4 : Option Addr) (L1 L2 L3 L4 : List Nat) (c1 c2 c3 c4 : Nat) (x1 x2 x3 x4 la ha lb hb ma sa mb sb xx yy AAl AAh ASl ASh AMl AMh zs zd zm ql qh dl dh sl sr ml mr : Dy) (p k cm1 cm2 cq1 cq2 sh sgx sgl cl cr sae sbe : Int) (w : World) (N M : Nat) (hN : N ≤ 25000) (hM : M ≤ 900000) (hNM : N ≤ M) (hp1 : 1 ≤ p) (hp2 : p ≤ 200)
    (HZ1 : Hid (sg n1 (val L1) = x1.z)) (H1 : Hid (LimbsIn w A1 L1)) (hl1 : (L1.length : Int) ≤ 40) (he1 : -3000 ≤ x1.e ∧ x1.e ≤ 3000) (BX1 : Hid (Bnd N x1)) (HZ2 : Hid (sg n2 (val L2) = x2.z)) (H2 : Hid (LimbsIn w A2 L2)) (hl2 : (L2.length : Int) ≤ 40) (he2 : -3000 ≤ x2.e ∧ x2.e ≤ 3000) (BX2 : Hid (Bnd N x2)) (HZ3 : Hid (sg n3 (val L3) = x3.z)) (H3 : Hid (LimbsIn w A3 L3)) (hl3 : (L3.length : Int) ≤ 40) (he3 : -3000 ≤ x3.e ∧ x3.e ≤ 3000) (BX3 : Hid (Bnd N x3)) (HZ4 : Hid (sg n4 (val L4) = x4.z)) (H4 : Hid (LimbsIn w A4 L4)) (hl4 : (L4.length : Int) ≤ 40) (he4 : -3000 ≤ x4.e ∧ x4.e ≤ 3000) (BX4 : Hid (Bnd N x4))
    (Hcm1 : Hid (cmpQ x1.q x2.q = cm1)) (Hcm1L : Hid ((0 < cm1 → x2 = la ∧ x1 = ha) ∧ (¬ 0 < cm1 → x1 = la ∧ x2 = ha))) (Hcm2 : Hid (cmpQ x3.q x4.q = cm2)) (Hcm2L : Hid ((0 < cm2 → x4 = lb ∧ x3 = hb) ∧ (¬ 0 < cm2 → x3 = lb ∧ x4 = hb)))
    (Bla : Hid (Bnd N la)) (Bha : Hid (Bnd N ha)) (Blb : Hid (Bnd N lb)) (Bhb : Hid (Bnd N hb))
    (HAAl : Hid (rndD (widthP p) false (dAdd la lb) = AAl)) (HAAh : Hid (rndD (widthP p) true (dAdd ha hb) = AAh)) (HASl : Hid (rndD (widthP p) false (dSub la hb) = ASl)) (HASh : Hid (rndD (widthP p) true (dSub ha lb) = ASh)) (HAMl : Hid (rndD (widthP p) false (mulLo la ha lb hb) = AMl)) (HAMh : Hid (rndD (widthP p) true (mulHi la ha lb hb) = AMh))
    (BAAl : Hid (Bnd M AAl)) (BAAh : Hid (Bnd M AAh)) (BASl : Hid (Bnd M ASl)) (BASh : Hid (Bnd M ASh)) (BAMl : Hid (Bnd M AMl)) (BAMh : Hid (Bnd M AMh)) (Bzs : Hid (Bnd M zs)) (Bzd : Hid (Bnd M zd)) (Bzm : Hid (Bnd M zm)) (Bql : Hid (Bnd M ql)) (Bqh : Hid (Bnd M qh)) (Bdl : Hid (Bnd M dl)) (Bdh : Hid (Bnd M dh)) (Bsl : Hid (Bnd M sl)) (Bsr : Hid (Bnd M sr)) (Bml : Hid (Bnd M ml)) (Bmr : Hid (Bnd M mr))
    (Hzs : Hid (dAdd xx yy = zs)) (Hzd : Hid (dSub xx yy = zd)) (Hzm : Hid (dMul xx yy = zm))
    (Kax : Hid ((decide (la.q ≤ xx.q) && decide (xx.q ≤ ha.q)) = true)) (Kby : Hid ((decide (lb.q ≤ yy.q) && decide (yy.q ≤ hb.q)) = true)) (KA : Hid ((decide (AAl.q ≤ zs.q) && decide (zs.q ≤ AAh.q)) = true)) (KS : Hid ((decide (ASl.q ≤ zd.q) && decide (zd.q ≤ ASh.q)) = true)) (KM : Hid ((decide (AMl.q ≤ zm.q) && decide (zm.q ≤ AMh.q)) = true))
    (Hdl : Hid (quoQ (widthP 400) (decide ((0 : Int) ≤ -1)) xx yy = dl)) (Hdh : Hid (quoQ (widthP 400) (decide ((0 : Int) ≤ 1)) xx yy = dh)) (Hcq1 : Hid (cmpQ ql.q dh.q = cq1)) (Hcq2 : Hid (cmpQ qh.q dl.q = cq2))
    (okq : Bool) (HNB : Hid (okq = false → (lb.z.sign = hb.z.sign → lb.z.sign = 0) ∧ ql = ⟨0, 0⟩ ∧ qh = ⟨0, 0⟩)) (HYQ : Hid (okq = true → lb.z.sign = hb.z.sign ∧ lb.z ≠ 0 ∧ qLo (widthP p) la ha lb hb = ql ∧ qHi (widthP p) la ha lb hb = qh)) (HYB : Hid (okq = true → yy.z ≠ 0 ∧ cq1 ≤ 0 ∧ 0 ≤ cq2))
    (Hsh : Hid (ha.z.sign = sh)) (Hsgx : Hid (xx.z.sign = sgx)) (Hsl : Hid (sqrtQ (widthP p) false (if la.z < 0 then ⟨0, 0⟩ else la) = sl)) (Hsr : Hid (sqrtQ (widthP p) true ha = sr)) (Hsgl : Hid (sl.z.sign = sgl)) (Hml : Hid (dMul sl sl = ml)) (Hmr : Hid (dMul sr sr = mr)) (Hcl : Hid (cmpQ ml.q xx.q = cl)) (Hcr : Hid (cmpQ mr.q xx.q = cr))
    (HSQ : Hid ((sh < 0 ∧ True) ∨ (sh = sh ∧ 0 ≤ ha.z ∧ sgx < 0) ∨ (0 ≤ sgx ∧ 0 ≤ ha.z ∧ 0 ≤ sgl ∧ cl ≤ 0 ∧ 0 ≤ cr)))
    (Bxx : Hid (Bnd N xx)) (Byy : Hid (Bnd N yy)) (b1 b2 : Bool) (HXX : Hid ((b1 = true → ma = xx) ∧ (b1 = false → la = xx))) (HYY : Hid ((b2 = true → mb = yy) ∧ (b2 = false → hb = yy)))
    (Hsa : Hid (dAdd la ha = sa)) (hwsa : IntKind.i64.wrap (sa.e - 1) = sae) (Hma : Hid (nrm sa.z sae = ma)) (HBsa : Hid (bitsN sa.z.natAbs ≤ 16777216)) (hbsa1 : -4000000000000000000 ≤ sae) (hbsa2 : sae ≤ 4000000000000000000) (hk1 : (bits BinOp.and IntKind.i64 k 1 == 1) = b1)
    (Hsb : Hid (dAdd lb hb = sb)) (hwsb : IntKind.i64.wrap (sb.e - 1) = sbe) (Hmb : Hid (nrm sb.z sbe = mb)) (HBsb : Hid (bitsN sb.z.natAbs ≤ 16777216)) (hbsb1 : -4000000000000000000 ≤ sbe) (hbsb2 : sbe ≤ 4000000000000000000) (hk2 : (bits BinOp.and IntKind.i64 k 2 == 2) = b2) (hT : Hid (Tab6 w)) :
    Calls Tryd.prog 7 #[.agg #[.bool n1, .slice A1 L1.length c1, .int .i64 x1.e, .bool n2, .slice A2 L2.length c2, .int .i64 x2.e, .bool n3, .slice A3 L3.length c3, .int .i64 x3.e, .bool n4, .slice A4 L4.length c4, .int .i64 x4.e], .int .i64 p, .int .i64 k] w fun e w' => e = .returned (.bool true) ∧ Only [] w w' := by
  have HL : Hid (lightN [⟨n1, A1, L1.length, c1, x1.e⟩, ⟨n2, A2, L2.length, c2, x2.e⟩, ⟨n3, A3, L3.length, c3, x3.e⟩, ⟨n4, A4, L4.length, c4, x4.e⟩] = true) := by
    show _ = _
    simp only [lightN, List.all_cons, List.all_nil, NR.ok, Bool.and_true, Bool.and_eq_true, decide_eq_true_eq]
    omega
  have hlv := light3_v (w := w.alloc (.cells #[.bool n1, .slice A1 L1.length c1, .int .i64 x1.e, .bool n2, .slice A2 L2.length c2, .int .i64 x2.e, .bool n3, .slice A3 L3.length c3, .int .i64 x3.e, .bool n4, .slice A4 L4.length c4, .int .i64 x4.e] 58)) [⟨n1, A1, L1.length, c1, x1.e⟩, ⟨n2, A2, L2.length, c2, x2.e⟩, ⟨n3, A3, L3.length, c3, x3.e⟩, ⟨n4, A4, L4.length, c4, x4.e⟩] 4 (Lib.hid rfl) (by omega)
  rw [HL.out] at hlv
  simp only [flatN, List.flatMap_cons, List.flatMap_nil, List.cons_append, List.nil_append, World.size_alloc] at hlv
  have hk := (GB.start w).new 58 [.bool n1, .slice A1 L1.length c1, .int .i64 x1.e, .bool n2, .slice A2 L2.length c2, .int .i64 x2.e, .bool n3, .slice A3 L3.length c3, .int .i64 x3.e, .bool n4, .slice A4 L4.length c4, .int .i64 x4.e] (noLimb12 _ _ _ _ _ _ _ _ _ _ _ _ _ _ _ _ _ _ _ _)
  have HG := Lib.hid hk
  have HLV := Lib.hid hlv
  obtain ⟨i0, i1, i2, i3, i4, i5, i6, i7, i8, i9, i10, i11⟩ := GB.c12 HG 0 rfl
  replace H1 := Lib.hid (H1.out.only hk.only)
  replace H2 := Lib.hid (H2.out.only hk.only)
  replace H3 := Lib.hid (H3.out.only hk.only)
  replace H4 := Lib.hid (H4.out.only hk.only)
  clear hlv hk HL he1 he2 he3 he4
  have q1 : ¬ p < 1 := by omega
  have q2 : ¬ 200 < p := by omega
  go_enter Tryd.func7, Tryd.ntmps7
  go_wp2_with fail
  (with_reducible refine HLV.out.mono ?_)
  rintro e w1 ⟨rfl, ho⟩
  replace HG := Lib.hid (HG.out.step ho)
  replace H1 := Lib.hid (H1.out.only ho)
  replace H2 := Lib.hid (H2.out.only ho)
  replace H3 := Lib.hid (H3.out.only ho)
  replace H4 := Lib.hid (H4.out.only ho)
  clear ho
  clear i0 i1 i2 i3 i4 i5 i6 i7 i8 i9 i10 i11
  go_wp2_with fail
  (with_reducible refine (alive5_any _ (Lib.hid (hT.out.keep HG.out.only))).mono ?_)
  rintro e w2 ⟨rfl, ho⟩
  replace HG := Lib.hid (HG.out.step ho)
  replace H1 := Lib.hid (H1.out.only ho)
  replace H2 := Lib.hid (H2.out.only ho)
  replace H3 := Lib.hid (H3.out.only ho)
  replace H4 := Lib.hid (H4.out.only ho)
  clear ho
  have hal : ∀ w : World, (Instr.alloc 51 true (.tuple #[])).run Tryd.prog w = .ok (.pointer (some ⟨w.heap.size, 0, none⟩)) (w.alloc (.cells #[.bool false, .slice none 0 0, .int .i64 0, .bool false, .slice none 0 0, .int .i64 0] 51)) := fun _ => by kernel_rfl
  have hald : ∀ w : World, (Instr.alloc 37 true (.tuple #[])).run Tryd.prog w = .ok (.pointer (some ⟨w.heap.size, 0, none⟩)) (w.alloc (.cells #[.bool false, .slice none 0 0, .int .i64 0] 37)) := fun _ => by kernel_rfl
  have HI := Lib.hid (WL.nil w2)
  obtain ⟨x1_0, x1_1, x1_2, x1_3, x1_4, x1_5, x1_6, x1_7, x1_8, x1_9, x1_10, x1_11⟩ := GB.c12 HG 0 rfl
  go_upto_region 3 with fail
  clear q1 q2
  clear x1_0 x1_1 x1_2 x1_3 x1_4 x1_5 x1_6 x1_7 x1_8 x1_9 x1_10 x1_11
  apply wp_region_typed_tail3 12 [10, 11] 51 #[.bool false, .slice none 0 0, .int .i64 0, .bool false, .slice none 0 0, .int .i64 0] (by kernel_rfl) (by kernel_rfl) hal (by kernel_rfl) [isV _, isV _, isV _, isV _, isB la ha, isV _, isV _, isV _, isV _, isB lb hb, isPtr w2 51 [.bool false, .slice none 0 0, .int .i64 0, .bool false, .slice none 0 0, .int .i64 0], isPtr w2 51 [.bool false, .slice none 0 0, .int .i64 0, .bool false, .slice none 0 0, .int .i64 0]] [[], [0], [], [2], [1, 3], [], [5], [], [7], [6, 8], [], []] (by kernel_rfl) (by kernel_rfl) (by kernel_rfl)
  case ho =>
    simp only [List.take_succ_cons, List.take_zero]
    refine owes2_cons (fun wx hox => ?_) ?_
    · skip
      refine withs_plain rfl ?_
      simp only [withs, List.getElem?_cons_zero, List.getElem?_cons_succ, Option.bind, Option.getD]
      repeat (first | (with_reducible refine all_isV ?_) | (with_reducible refine all_isB ?_; intro sx Ax kx cx tx Bx mx dx hvx hwx))
      go_simp
      exact ⟨Only.refl _ _, isV.self _ _⟩
    refine owes2_cons (fun wx hox => ?_) ?_
    · skip
      have hg := Lib.hid (HG.out.step hox)
      have hi := Lib.hid (HI.out.step hox)
      obtain ⟨x2_0, x2_1, x2_2, x2_3, x2_4, x2_5, x2_6, x2_7, x2_8, x2_9, x2_10, x2_11⟩ := GB.c12 hg 0 rfl
      clear hg hi
      refine withs_plain rfl ?_
      simp only [withs, List.getElem?_cons_zero, List.getElem?_cons_succ, Option.bind, Option.getD]
      repeat (first | (with_reducible refine all_isV ?_) | (with_reducible refine all_isB ?_; intro sx Ax kx cx tx Bx mx dx hvx hwx))
      go_simp
      exact ⟨Only.refl _ _, isV.self _ _⟩
    refine owes2_cons (fun wx hox => ?_) ?_
    · skip
      refine withs_plain rfl ?_
      simp only [withs, List.getElem?_cons_zero, List.getElem?_cons_succ, Option.bind, Option.getD]
      repeat (first | (with_reducible refine all_isV ?_) | (with_reducible refine all_isB ?_; intro sx Ax kx cx tx Bx mx dx hvx hwx))
      go_simp
      exact ⟨Only.refl _ _, isV.self _ _⟩
    refine owes2_cons (fun wx hox => ?_) ?_
    · skip
      have hg := Lib.hid (HG.out.step hox)
      have hi := Lib.hid (HI.out.step hox)
      obtain ⟨x3_0, x3_1, x3_2, x3_3, x3_4, x3_5, x3_6, x3_7, x3_8, x3_9, x3_10, x3_11⟩ := GB.c12 hg 0 rfl
      clear hg hi
      refine withs_plain rfl ?_
      simp only [withs, List.getElem?_cons_zero, List.getElem?_cons_succ, Option.bind, Option.getD]
      repeat (first | (with_reducible refine all_isV ?_) | (with_reducible refine all_isB ?_; intro sx Ax kx cx tx Bx mx dx hvx hwx))
      go_simp
      exact ⟨Only.refl _ _, isV.self _ _⟩
    refine owes2_cons (fun wx hox => ?_) ?_
    · skip
      refine withs_plain rfl ?_
      simp only [withs, List.getElem?_cons_zero, List.getElem?_cons_succ, Option.bind, Option.getD]
      repeat (first | (with_reducible refine all_isV ?_) | (with_reducible refine all_isB ?_; intro sx Ax kx cx tx Bx mx dx hvx hwx))
      go_simp
      (with_reducible exact grow_bv (of_b n1 n2 A1 A2 L1 L2 c1 c2 x1 x2 la ha _ N HZ1 HZ2 (Lib.hid (H1.out.only hox)) (Lib.hid (H2.out.only hox)) hl1 hl2 BX1 BX2 (by omega) cm1 Hcm1.out (Lib.hid ⟨Hcm1L.out.1, fun h => Hcm1L.out.2 (by omega)⟩)))
    refine owes2_cons (fun wx hox => ?_) ?_
    · skip
      refine withs_plain rfl ?_
      simp only [withs, List.getElem?_cons_zero, List.getElem?_cons_succ, Option.bind, Option.getD]
      repeat (first | (with_reducible refine all_isV ?_) | (with_reducible refine all_isB ?_; intro sx Ax kx cx tx Bx mx dx hvx hwx))
      go_simp
      exact ⟨Only.refl _ _, isV.self _ _⟩
    refine owes2_cons (fun wx hox => ?_) ?_
    · skip
      have hg := Lib.hid (HG.out.step hox)
      have hi := Lib.hid (HI.out.step hox)
      obtain ⟨x4_0, x4_1, x4_2, x4_3, x4_4, x4_5, x4_6, x4_7, x4_8, x4_9, x4_10, x4_11⟩ := GB.c12 hg 0 rfl
      clear hg hi
      refine withs_plain rfl ?_
      simp only [withs, List.getElem?_cons_zero, List.getElem?_cons_succ, Option.bind, Option.getD]
      repeat (first | (with_reducible refine all_isV ?_) | (with_reducible refine all_isB ?_; intro sx Ax kx cx tx Bx mx dx hvx hwx))
      go_simp
      exact ⟨Only.refl _ _, isV.self _ _⟩
    refine owes2_cons (fun wx hox => ?_) ?_
    · skip
      refine withs_plain rfl ?_
      simp only [withs, List.getElem?_cons_zero, List.getElem?_cons_succ, Option.bind, Option.getD]
      repeat (first | (with_reducible refine all_isV ?_) | (with_reducible refine all_isB ?_; intro sx Ax kx cx tx Bx mx dx hvx hwx))
      go_simp
      exact ⟨Only.refl _ _, isV.self _ _⟩
    refine owes2_cons (fun wx hox => ?_) ?_
    · skip
      have hg := Lib.hid (HG.out.step hox)
      have hi := Lib.hid (HI.out.step hox)
      obtain ⟨x5_0, x5_1, x5_2, x5_3, x5_4, x5_5, x5_6, x5_7, x5_8, x5_9, x5_10, x5_11⟩ := GB.c12 hg 0 rfl
      clear hg hi
      refine withs_plain rfl ?_
      simp only [withs, List.getElem?_cons_zero, List.getElem?_cons_succ, Option.bind, Option.getD]
      repeat (first | (with_reducible refine all_isV ?_) | (with_reducible refine all_isB ?_; intro sx Ax kx cx tx Bx mx dx hvx hwx))
      go_simp
      exact ⟨Only.refl _ _, isV.self _ _⟩
    refine owes2_cons (fun wx hox => ?_) ?_
    · skip
      refine withs_plain rfl ?_
      simp only [withs, List.getElem?_cons_zero, List.getElem?_cons_succ, Option.bind, Option.getD]
      repeat (first | (with_reducible refine all_isV ?_) | (with_reducible refine all_isB ?_; intro sx Ax kx cx tx Bx mx dx hvx hwx))
      go_simp
      (with_reducible exact grow_bv (of_b n3 n4 A3 A4 L3 L4 c3 c4 x3 x4 lb hb _ N HZ3 HZ4 (Lib.hid (H3.out.only hox)) (Lib.hid (H4.out.only hox)) hl3 hl4 BX3 BX4 (by omega) cm2 Hcm2.out (Lib.hid ⟨Hcm2L.out.1, fun h => Hcm2L.out.2 (by omega)⟩)))
    iterate 2
      refine owes2_cons (fun wx hox => ?_) ?_
      · skip
        refine withs_plain rfl ?_
        simp only [withs, List.getElem?_cons_zero, List.getElem?_cons_succ, Option.bind, Option.getD]
        repeat (first | (with_reducible refine all_isV ?_) | (with_reducible refine all_isB ?_; intro sx Ax kx cx tx Bx mx dx hvx hwx))
        go_simp
        (exact isPtr.new hox _ _)
    exact owes2_nil
  case hl =>
    repeat (refine List.forall_mem_cons.2 ⟨?_, ?_⟩; first | exact isV.lasts _ | exact isB.lasts _ _ | exact isPtr.lasts _ _ _)
    exact fun _ h => (by cases h)
  simp only [List.drop_succ_cons, List.drop_zero]
  intro wx hox
  refine withs_of (by simp only [List.length, List.range, List.range.loop]; exact rfl) ?_
  simp only [withs, List.getElem?_cons_zero, List.getElem?_cons_succ, Option.bind, Option.getD]
  with_reducible refine all_isV ?_
  with_reducible refine all_isV ?_
  with_reducible refine all_isV ?_
  with_reducible refine all_isV ?_
  with_reducible refine all_isB ?_
  intro s4q A4q k4q c4q t4q B4q m4q d4q hv4 hw4
  with_reducible refine all_isV ?_
  with_reducible refine all_isV ?_
  with_reducible refine all_isV ?_
  with_reducible refine all_isV ?_
  with_reducible refine all_isB ?_
  intro s9q A9q k9q c9q t9q B9q m9q d9q hv9 hw9
  with_reducible refine all_isPtr ?_
  intro g10 hb10 hg10
  with_reducible refine all_isPtr ?_
  intro g11 hb11 hg11
  go_simp
  intro hap
  have nab : ¬ g10 = g11 := fun hc => hap 10 (by decide) 11 (by decide) (by decide) 7 8 rfl rfl (by rw [hc]; rfl)
  have mab : ¬ g11 = g10 := fun hc => nab hc.symm
  clear hap
  have bla := hb10.out
  have blb := hb11.out
  have qa0 := bla.cell 0
  have qaf0 := bla.frozen 0
  have qa1 := bla.cell 1
  have qaf1 := bla.frozen 1
  have qa2 := bla.cell 2
  have qaf2 := bla.frozen 2
  have qa3 := bla.cell 3
  have qaf3 := bla.frozen 3
  have qa4 := bla.cell 4
  have qaf4 := bla.frozen 4
  have qa5 := bla.cell 5
  have qaf5 := bla.frozen 5
  have qb0 := blb.cell 0
  have qbf0 := blb.frozen 0
  have qb1 := blb.cell 1
  have qbf1 := blb.frozen 1
  have qb2 := blb.cell 2
  have qbf2 := blb.frozen 2
  have qb3 := blb.cell 3
  have qbf3 := blb.frozen 3
  have qb4 := blb.cell 4
  have qbf4 := blb.frozen 4
  have qb5 := blb.cell 5
  have qbf5 := blb.frozen 5
  simp only [List.getElem?_cons_zero, List.getElem?_cons_succ] at qa0 qb0 qa1 qb1 qa2 qb2 qa3 qb3 qa4 qb4 qa5 qb5
  have nea := GB.apart HG.out hg10.out
  have neb := GB.apart HG.out hg11.out
  have hsz := HG.out.only.size
  have hga := hg10.out
  have hgb := hg11.out
  have h1_ := (HG.out.step hox).adopt6 (u0 := .bool s4q) (u1 := .slice A4q k4q c4q) (u2 := .int .i64 la.e) (u3 := .bool t4q) (u4 := .slice B4q m4q d4q) (u5 := .int .i64 ha.e) bla (noLimb6 _ _ _ _ _ _ _ _ _ _) (by omega) nea
  have blb1 := Blk.farX blb (only_set6 wx g10 (.bool s4q) (.slice A4q k4q c4q) (.int .i64 la.e) (.bool t4q) (.slice B4q m4q d4q) (.int .i64 ha.e)) mab
  have h2_ := h1_.adopt6 (u0 := .bool s9q) (u1 := .slice A9q k9q c9q) (u2 := .int .i64 lb.e) (u3 := .bool t9q) (u4 := .slice B9q m9q d9q) (u5 := .int .i64 hb.e) blb1 (noLimb6 _ _ _ _ _ _ _ _ _ _) (by omega) (GB.apart1 neb nab)
  have i1_ := WL.far (((((HI.out.step hox).cons hw9).cons hv9).cons hw4).cons hv4) (only_set6 wx g10 (.bool s4q) (.slice A4q k4q c4q) (.int .i64 la.e) (.bool t4q) (.slice B4q m4q d4q) (.int .i64 ha.e)) bla (noLimb6 _ _ _ _ _ _ _ _ _ _)
  have i2_ := WL.far i1_ (only_set6 _ g11 (.bool s9q) (.slice A9q k9q c9q) (.int .i64 lb.e) (.bool t9q) (.slice B9q m9q d9q) (.int .i64 hb.e)) blb1 (noLimb6 _ _ _ _ _ _ _ _ _ _)
  go_upto_region 4 with fail
  replace HG := Lib.hid h2_
  replace HI := Lib.hid i2_
  clear h1_ h2_ i1_ i2_ blb1 bla blb nea neb hsz hga hgb nab mab hox hb10 hb11 hg10 hg11
  clear qa0 qaf0 qb0 qbf0 qa1 qaf1 qb1 qbf1 qa2 qaf2 qb2 qbf2 qa3 qaf3 qb3 qbf3 qa4 qaf4 qb4 qbf4 qa5 qaf5 qb5 qbf5
  generalize (((((((((((wx.setCell _ _).setCell _ _).setCell _ _).setCell _ _).setCell _ _).setCell _ _).setCell _ _).setCell _ _).setCell _ _).setCell _ _).setCell _ _).setCell _ _ = wv at *
  go_cut [9, 10] from 53 to 56 (fun lv hv wx => ∃ g4 g5 : Nat, lv = .pointer (some ⟨g4, 0, none⟩) ∧ hv = .pointer (some ⟨g5, 0, none⟩) ∧ Hid (GB w wx (⟨g5, 37, [.bool t9q, .slice B9q m9q d9q, .int .i64 hb.e]⟩ :: ⟨g4, 37, [.bool s4q, .slice A4q k4q c4q, .int .i64 la.e]⟩ :: [⟨g11, 51, [.bool s9q, .slice A9q k9q c9q, .int .i64 lb.e, .bool t9q, .slice B9q m9q d9q, .int .i64 hb.e]⟩, ⟨g10, 51, [.bool s4q, .slice A4q k4q c4q, .int .i64 la.e, .bool t4q, .slice B4q m4q d4q, .int .i64 ha.e]⟩, ⟨w.heap.size, 58, [.bool n1, .slice A1 L1.length c1, .int .i64 x1.e, .bool n2, .slice A2 L2.length c2, .int .i64 x2.e, .bool n3, .slice A3 L3.length c3, .int .i64 x3.e, .bool n4, .slice A4 L4.length c4, .int .i64 x4.e]⟩])) ∧ Hid (WL wx [⟨s4q, A4q, k4q, c4q, la.z⟩, ⟨t4q, B4q, m4q, d4q, ha.z⟩, ⟨s9q, A9q, k9q, c9q, lb.z⟩, ⟨t9q, B9q, m9q, d9q, hb.z⟩]))
  case first =>
    rename_i JJ KK hJ hK
    have HJJ := Lib.hid hJ
    have HKK := Lib.hid hK
    clear hJ hK
    obtain ⟨x1_0, x1_1, x1_2, x1_3, x1_4, x1_5⟩ := GB.c6 HG 1 rfl
    obtain ⟨x2_0, x2_1, x2_2, x2_3, x2_4, x2_5⟩ := GB.c6 HG 0 rfl
    have oz := ((Only.refl [] wv).alloc (.cells #[.bool false, .slice none 0 0, .int .i64 0] 37))
    have zx1_0_ := oz.cell x1_0 (by simp)
    have zx1_1_ := oz.cell x1_1 (by simp)
    have zx1_2_ := oz.cell x1_2 (by simp)
    have zx2_3_ := oz.cell x2_3 (by simp)
    have zx2_4_ := oz.cell x2_4 (by simp)
    have zx2_5_ := oz.cell x2_5 (by simp)
    clear oz
    have oX := ((Only.refl [] wv).alloc (.cells #[.bool s4q, .slice A4q k4q c4q, .int .i64 la.e] 37))
    have Xx1_0_ := oX.cell x1_0 (by simp)
    have Xx1_1_ := oX.cell x1_1 (by simp)
    have Xx1_2_ := oX.cell x1_2 (by simp)
    have Xx2_3_ := oX.cell x2_3 (by simp)
    have Xx2_4_ := oX.cell x2_4 (by simp)
    have Xx2_5_ := oX.cell x2_5 (by simp)
    clear oX
    have oY := ((Only.refl [] wv).alloc (.cells #[.bool t9q, .slice B9q m9q d9q, .int .i64 hb.e] 37))
    have Yx1_0_ := oY.cell x1_0 (by simp)
    have Yx1_1_ := oY.cell x1_1 (by simp)
    have Yx1_2_ := oY.cell x1_2 (by simp)
    have Yx2_3_ := oY.cell x2_3 (by simp)
    have Yx2_4_ := oY.cell x2_4 (by simp)
    have Yx2_5_ := oY.cell x2_5 (by simp)
    clear oY
    have ozz := (((Only.refl [] wv).alloc (.cells #[.bool false, .slice none 0 0, .int .i64 0] 37)).alloc (.cells #[.bool false, .slice none 0 0, .int .i64 0] 37))
    have zzx1_0_ := ozz.cell x1_0 (by simp)
    have zzx1_1_ := ozz.cell x1_1 (by simp)
    have zzx1_2_ := ozz.cell x1_2 (by simp)
    have zzx2_3_ := ozz.cell x2_3 (by simp)
    have zzx2_4_ := ozz.cell x2_4 (by simp)
    have zzx2_5_ := ozz.cell x2_5 (by simp)
    clear ozz
    have oXz := (((Only.refl [] wv).alloc (.cells #[.bool s4q, .slice A4q k4q c4q, .int .i64 la.e] 37)).alloc (.cells #[.bool false, .slice none 0 0, .int .i64 0] 37))
    have Xzx1_0_ := oXz.cell x1_0 (by simp)
    have Xzx1_1_ := oXz.cell x1_1 (by simp)
    have Xzx1_2_ := oXz.cell x1_2 (by simp)
    have Xzx2_3_ := oXz.cell x2_3 (by simp)
    have Xzx2_4_ := oXz.cell x2_4 (by simp)
    have Xzx2_5_ := oXz.cell x2_5 (by simp)
    clear oXz
    have ozX := (((Only.refl [] wv).alloc (.cells #[.bool false, .slice none 0 0, .int .i64 0] 37)).alloc (.cells #[.bool s4q, .slice A4q k4q c4q, .int .i64 la.e] 37))
    have zXx1_0_ := ozX.cell x1_0 (by simp)
    have zXx1_1_ := ozX.cell x1_1 (by simp)
    have zXx1_2_ := ozX.cell x1_2 (by simp)
    have zXx2_3_ := ozX.cell x2_3 (by simp)
    have zXx2_4_ := ozX.cell x2_4 (by simp)
    have zXx2_5_ := ozX.cell x2_5 (by simp)
    clear ozX
    have oYz := (((Only.refl [] wv).alloc (.cells #[.bool t9q, .slice B9q m9q d9q, .int .i64 hb.e] 37)).alloc (.cells #[.bool false, .slice none 0 0, .int .i64 0] 37))
    have Yzx1_0_ := oYz.cell x1_0 (by simp)
    have Yzx1_1_ := oYz.cell x1_1 (by simp)
    have Yzx1_2_ := oYz.cell x1_2 (by simp)
    have Yzx2_3_ := oYz.cell x2_3 (by simp)
    have Yzx2_4_ := oYz.cell x2_4 (by simp)
    have Yzx2_5_ := oYz.cell x2_5 (by simp)
    clear oYz
    have ozY := (((Only.refl [] wv).alloc (.cells #[.bool false, .slice none 0 0, .int .i64 0] 37)).alloc (.cells #[.bool t9q, .slice B9q m9q d9q, .int .i64 hb.e] 37))
    have zYx1_0_ := ozY.cell x1_0 (by simp)
    have zYx1_1_ := ozY.cell x1_1 (by simp)
    have zYx1_2_ := ozY.cell x1_2 (by simp)
    have zYx2_3_ := ozY.cell x2_3 (by simp)
    have zYx2_4_ := ozY.cell x2_4 (by simp)
    have zYx2_5_ := ozY.cell x2_5 (by simp)
    clear ozY
    have hszX : (wv.alloc (.cells #[.bool s4q, .slice A4q k4q c4q, .int .i64 la.e] 37)).heap.size = wv.heap.size + 1 := World.size_alloc _ _
    have hszY : (wv.alloc (.cells #[.bool t9q, .slice B9q m9q d9q, .int .i64 hb.e] 37)).heap.size = wv.heap.size + 1 := World.size_alloc _ _
    have gXY := ((HG.out.new 37 [.bool s4q, .slice A4q k4q c4q, .int .i64 la.e] (noLimb3 _ _ _ _ _)).new 37 [.bool t9q, .slice B9q m9q d9q, .int .i64 hb.e] (noLimb3 _ _ _ _ _)).step ((Only.refl [] _).drew)
    have gYX := (((HG.out.new 37 [.bool t9q, .slice B9q m9q d9q, .int .i64 hb.e] (noLimb3 _ _ _ _ _)).new 37 [.bool s4q, .slice A4q k4q c4q, .int .i64 la.e] (noLimb3 _ _ _ _ _)).step ((Only.refl [] _).drew)).swap
    rw [hszX] at gXY
    rw [hszY] at gYX
    have HXY := Lib.hid gXY
    have HYX := Lib.hid gYX
    have IXY := Lib.hid (HI.out.step ((((Only.refl [] wv).alloc (.cells #[.bool s4q, .slice A4q k4q c4q, .int .i64 la.e] 37)).alloc (.cells #[.bool t9q, .slice B9q m9q d9q, .int .i64 hb.e] 37)).drew))
    have IYX := Lib.hid (HI.out.step ((((Only.refl [] wv).alloc (.cells #[.bool t9q, .slice B9q m9q d9q, .int .i64 hb.e] 37)).alloc (.cells #[.bool s4q, .slice A4q k4q c4q, .int .i64 la.e] 37)).drew))
    clear gXY gYX hszX hszY
    go_region
    all_goals refine HKK.out _ _ (Met.intro (HJJ.out _ _ ?_))
    all_goals first
      | exact ⟨_, _, _, _, _, _, ⟨_, _, rfl, rfl, HXY, IXY⟩, rfl⟩
      | exact ⟨_, _, _, _, _, _, ⟨_, _, rfl, rfl, HYX, IYX⟩, rfl⟩
  obtain ⟨g4, g5, rfl, rfl, HG2, HI2⟩ := hcut
  clear HG HI hald
  have HG := HG2
  have HI := HI2
  clear HG2 HI2
  go_upto_if 59 with fail
  go_cut [60] from 60 to 73 (fun _ wx => ∃ (sXX : Bool) (AXX : Option Addr) (kXX cXX : Nat), Hid (GB w wx [⟨g5, 37, [.bool t9q, .slice B9q m9q d9q, .int .i64 hb.e]⟩, ⟨g4, 37, [.bool sXX, .slice AXX kXX cXX, .int .i64 xx.e]⟩, ⟨g11, 51, [.bool s9q, .slice A9q k9q c9q, .int .i64 lb.e, .bool t9q, .slice B9q m9q d9q, .int .i64 hb.e]⟩, ⟨g10, 51, [.bool s4q, .slice A4q k4q c4q, .int .i64 la.e, .bool t4q, .slice B4q m4q d4q, .int .i64 ha.e]⟩, ⟨w.heap.size, 58, [.bool n1, .slice A1 L1.length c1, .int .i64 x1.e, .bool n2, .slice A2 L2.length c2, .int .i64 x2.e, .bool n3, .slice A3 L3.length c3, .int .i64 x3.e, .bool n4, .slice A4 L4.length c4, .int .i64 x4.e]⟩]) ∧ Hid (WL wx [⟨sXX, AXX, kXX, cXX, xx.z⟩, ⟨s4q, A4q, k4q, c4q, la.z⟩, ⟨t4q, B4q, m4q, d4q, ha.z⟩, ⟨s9q, A9q, k9q, c9q, lb.z⟩, ⟨t9q, B9q, m9q, d9q, hb.z⟩]))
  case first =>
    cases b1
    · skip
      have hxx := HXX.out.2 rfl
      subst hxx
      have hi_ := HI.out.cons (WL.at (z := la.z) HI 0 rfl)
      go_wp2_with fail
      go_meet
      exact ⟨_, _, _, _, HG, Lib.hid hi_⟩
    · skip
      have hxx := HXX.out.1 rfl
      subst hxx
      go_upto_region 6 with fail
      apply wp_region_typed_tail2 14 (by kernel_rfl) [isV _, isV _, isV _, isV _, isD sa, isWV sa.z, isV _, isV _, isV _, isV _, isD sa, isV _, isV _, isD ma] [[], [0], [], [2], [1, 3], [4], [], [6], [], [8], [7, 9], [10], [11], [5, 12]] (by kernel_rfl) (by kernel_rfl) (by kernel_rfl)
      case ho =>
        simp only [List.take_succ_cons, List.take_zero]
        refine owes2_cons (fun wx hox => ?_) ?_
        · skip
          refine withs_plain rfl ?_
          simp only [withs, List.getElem?_cons_zero, List.getElem?_cons_succ, Option.bind, Option.getD]
          repeat (first | (with_reducible refine all_isV ?_) | (with_reducible refine all_isD ?_; intro sx Ax kx cx hvx hwx) | (with_reducible refine all_isWV ?_; intro sx Ax kx cx hvx))
          go_simp
          exact ⟨Only.refl _ _, isV.self _ _⟩
        refine owes2_cons (fun wx hox => ?_) ?_
        · skip
          have hg := Lib.hid (HG.out.step hox)
          have hi := Lib.hid (HI.out.step hox)
          obtain ⟨x3_0, x3_1, x3_2, x3_3, x3_4, x3_5⟩ := GB.c6 hg 3 rfl
          clear hg hi
          refine withs_plain rfl ?_
          simp only [withs, List.getElem?_cons_zero, List.getElem?_cons_succ, Option.bind, Option.getD]
          repeat (first | (with_reducible refine all_isV ?_) | (with_reducible refine all_isD ?_; intro sx Ax kx cx hvx hwx) | (with_reducible refine all_isWV ?_; intro sx Ax kx cx hvx))
          go_simp
          exact ⟨Only.refl _ _, isV.self _ _⟩
        refine owes2_cons (fun wx hox => ?_) ?_
        · skip
          refine withs_plain rfl ?_
          simp only [withs, List.getElem?_cons_zero, List.getElem?_cons_succ, Option.bind, Option.getD]
          repeat (first | (with_reducible refine all_isV ?_) | (with_reducible refine all_isD ?_; intro sx Ax kx cx hvx hwx) | (with_reducible refine all_isWV ?_; intro sx Ax kx cx hvx))
          go_simp
          exact ⟨Only.refl _ _, isV.self _ _⟩
        refine owes2_cons (fun wx hox => ?_) ?_
        · skip
          have hg := Lib.hid (HG.out.step hox)
          have hi := Lib.hid (HI.out.step hox)
          obtain ⟨x4_0, x4_1, x4_2, x4_3, x4_4, x4_5⟩ := GB.c6 hg 3 rfl
          clear hg hi
          refine withs_plain rfl ?_
          simp only [withs, List.getElem?_cons_zero, List.getElem?_cons_succ, Option.bind, Option.getD]
          repeat (first | (with_reducible refine all_isV ?_) | (with_reducible refine all_isD ?_; intro sx Ax kx cx hvx hwx) | (with_reducible refine all_isWV ?_; intro sx Ax kx cx hvx))
          go_simp
          exact ⟨Only.refl _ _, isV.self _ _⟩
        refine owes2_cons (fun wx hox => ?_) ?_
        · skip
          have hg := Lib.hid (HG.out.step hox)
          have hi := Lib.hid (HI.out.step hox)
          have dv_ha := (WL.dv (x := ha) hi 1 rfl)
          have dv_la := (WL.dv (x := la) hi 0 rfl)
          have htx := Lib.hid (hT.out.keep hg.out.only)
          clear hg hi
          refine withs_plain rfl ?_
          simp only [withs, List.getElem?_cons_zero, List.getElem?_cons_succ, Option.bind, Option.getD]
          repeat (first | (with_reducible refine all_isV ?_) | (with_reducible refine all_isD ?_; intro sx Ax kx cx hvx hwx) | (with_reducible refine all_isWV ?_; intro sx Ax kx cx hvx))
          go_simp
          (with_reducible exact grow_d (addV_d sa Hsa.out dv_la dv_ha Bla Bha (by omega) htx))
        refine owes2_cons (fun wx hox => ?_) ?_
        · skip
          refine withs_plain rfl ?_
          simp only [withs, List.getElem?_cons_zero, List.getElem?_cons_succ, Option.bind, Option.getD]
          repeat (first | (with_reducible refine all_isV ?_) | (with_reducible refine all_isD ?_; intro sx Ax kx cx hvx hwx) | (with_reducible refine all_isWV ?_; intro sx Ax kx cx hvx))
          go_simp
          (exact ⟨Only.refl _ _, _, _, _, _, rfl, hvx.out⟩)
        refine owes2_cons (fun wx hox => ?_) ?_
        · skip
          refine withs_plain rfl ?_
          simp only [withs, List.getElem?_cons_zero, List.getElem?_cons_succ, Option.bind, Option.getD]
          repeat (first | (with_reducible refine all_isV ?_) | (with_reducible refine all_isD ?_; intro sx Ax kx cx hvx hwx) | (with_reducible refine all_isWV ?_; intro sx Ax kx cx hvx))
          go_simp
          exact ⟨Only.refl _ _, isV.self _ _⟩
        refine owes2_cons (fun wx hox => ?_) ?_
        · skip
          have hg := Lib.hid (HG.out.step hox)
          have hi := Lib.hid (HI.out.step hox)
          obtain ⟨x5_0, x5_1, x5_2, x5_3, x5_4, x5_5⟩ := GB.c6 hg 3 rfl
          clear hg hi
          refine withs_plain rfl ?_
          simp only [withs, List.getElem?_cons_zero, List.getElem?_cons_succ, Option.bind, Option.getD]
          repeat (first | (with_reducible refine all_isV ?_) | (with_reducible refine all_isD ?_; intro sx Ax kx cx hvx hwx) | (with_reducible refine all_isWV ?_; intro sx Ax kx cx hvx))
          go_simp
          exact ⟨Only.refl _ _, isV.self _ _⟩
        refine owes2_cons (fun wx hox => ?_) ?_
        · skip
          refine withs_plain rfl ?_
          simp only [withs, List.getElem?_cons_zero, List.getElem?_cons_succ, Option.bind, Option.getD]
          repeat (first | (with_reducible refine all_isV ?_) | (with_reducible refine all_isD ?_; intro sx Ax kx cx hvx hwx) | (with_reducible refine all_isWV ?_; intro sx Ax kx cx hvx))
          go_simp
          exact ⟨Only.refl _ _, isV.self _ _⟩
        refine owes2_cons (fun wx hox => ?_) ?_
        · skip
          have hg := Lib.hid (HG.out.step hox)
          have hi := Lib.hid (HI.out.step hox)
          obtain ⟨x6_0, x6_1, x6_2, x6_3, x6_4, x6_5⟩ := GB.c6 hg 3 rfl
          clear hg hi
          refine withs_plain rfl ?_
          simp only [withs, List.getElem?_cons_zero, List.getElem?_cons_succ, Option.bind, Option.getD]
          repeat (first | (with_reducible refine all_isV ?_) | (with_reducible refine all_isD ?_; intro sx Ax kx cx hvx hwx) | (with_reducible refine all_isWV ?_; intro sx Ax kx cx hvx))
          go_simp
          exact ⟨Only.refl _ _, isV.self _ _⟩
        refine owes2_cons (fun wx hox => ?_) ?_
        · skip
          have hg := Lib.hid (HG.out.step hox)
          have hi := Lib.hid (HI.out.step hox)
          have dv_ha := (WL.dv (x := ha) hi 1 rfl)
          have dv_la := (WL.dv (x := la) hi 0 rfl)
          have htx := Lib.hid (hT.out.keep hg.out.only)
          clear hg hi
          refine withs_plain rfl ?_
          simp only [withs, List.getElem?_cons_zero, List.getElem?_cons_succ, Option.bind, Option.getD]
          repeat (first | (with_reducible refine all_isV ?_) | (with_reducible refine all_isD ?_; intro sx Ax kx cx hvx hwx) | (with_reducible refine all_isWV ?_; intro sx Ax kx cx hvx))
          go_simp
          (with_reducible exact grow_d (addV_d sa Hsa.out dv_la dv_ha Bla Bha (by omega) htx))
        iterate 2
          refine owes2_cons (fun wx hox => ?_) ?_
          · skip
            refine withs_plain rfl ?_
            simp only [withs, List.getElem?_cons_zero, List.getElem?_cons_succ, Option.bind, Option.getD]
            repeat (first | (with_reducible refine all_isV ?_) | (with_reducible refine all_isD ?_; intro sx Ax kx cx hvx hwx) | (with_reducible refine all_isWV ?_; intro sx Ax kx cx hvx))
            go_simp
            exact ⟨Only.refl _ _, isV.self _ _⟩
        refine owes2_cons (fun wx hox => ?_) ?_
        · skip
          have hg := Lib.hid (HG.out.step hox)
          have hi := Lib.hid (HI.out.step hox)
          have htx := Lib.hid (hT.out.keep hg.out.only)
          clear hg hi
          refine withs_plain rfl ?_
          simp only [withs, List.getElem?_cons_zero, List.getElem?_cons_succ, Option.bind, Option.getD]
          repeat (first | (with_reducible refine all_isV ?_) | (with_reducible refine all_isD ?_; intro sx Ax kx cx hvx hwx) | (with_reducible refine all_isWV ?_; intro sx Ax kx cx hvx))
          go_simp
          (with_reducible exact grow_d (makeV_d ma Hma.out (by assumption) HBsa hbsa1 hbsa2 htx))
        exact owes2_nil
      case hl =>
        repeat (refine List.forall_mem_cons.2 ⟨?_, ?_⟩; first | exact isV.lasts _ | exact isD.lasts _ | exact isWV.lasts _)
        exact fun _ h => (by cases h)
      simp only [List.drop_succ_cons, List.drop_zero]
      intro wx hox
      refine withs_of (by simp only [List.length, List.range, List.range.loop]; exact rfl) ?_
      simp only [withs, List.getElem?_cons_zero, List.getElem?_cons_succ, Option.bind, Option.getD]
      with_reducible refine all_isV ?_
      with_reducible refine all_isV ?_
      with_reducible refine all_isV ?_
      with_reducible refine all_isV ?_
      with_reducible refine all_isD ?_
      intro s4 A4 k4 c4 hv4 hw4
      with_reducible refine all_isWV ?_
      intro s5 A5 k5 c5 hv5
      with_reducible refine all_isV ?_
      with_reducible refine all_isV ?_
      with_reducible refine all_isV ?_
      with_reducible refine all_isV ?_
      with_reducible refine all_isD ?_
      intro s10 A10 k10 c10 hv10 hw10
      with_reducible refine all_isV ?_
      with_reducible refine all_isV ?_
      with_reducible refine all_isD ?_
      intro s13 A13 k13 c13 hv13 hw13
      go_simp
      replace HG := Lib.hid (HG.out.step hox)
      have hi_ := (HI.out.step hox).cons hv13
      obtain ⟨v0, v1, v2⟩ := GB.c3 HG 1 rfl
      obtain ⟨u0_, u1_, u2_⟩ := GB.f3 HG 1 rfl
      have hg_ := HG.out.put3 1 rfl (u := .bool s13) (v := .slice A13 k13 c13) (x := .int .i64 ma.e) (noLimb3 _ _ _ _ _)
      have hi2_ := hi_.far (only_set3 wx g4 (.bool s13) (.slice A13 k13 c13) (.int .i64 ma.e)) (GB.blk HG 1 rfl) (noLimb3 _ _ _ _ _)
      go_wp2_with fail
      go_meet
      exact ⟨_, _, _, _, Lib.hid hg_, Lib.hid hi2_⟩
  obtain ⟨sXX, AXX, kXX, cXX, HG2, HI2⟩ := hcut
  clear HG HI
  have HG := HG2
  have HI := HI2
  clear HG2 HI2
  go_upto_if 76 with fail
  go_cut [77] from 77 to 90 (fun _ wx => ∃ (sYY : Bool) (AYY : Option Addr) (kYY cYY : Nat), Hid (GB w wx [⟨g5, 37, [.bool sYY, .slice AYY kYY cYY, .int .i64 yy.e]⟩, ⟨g4, 37, [.bool sXX, .slice AXX kXX cXX, .int .i64 xx.e]⟩, ⟨g11, 51, [.bool s9q, .slice A9q k9q c9q, .int .i64 lb.e, .bool t9q, .slice B9q m9q d9q, .int .i64 hb.e]⟩, ⟨g10, 51, [.bool s4q, .slice A4q k4q c4q, .int .i64 la.e, .bool t4q, .slice B4q m4q d4q, .int .i64 ha.e]⟩, ⟨w.heap.size, 58, [.bool n1, .slice A1 L1.length c1, .int .i64 x1.e, .bool n2, .slice A2 L2.length c2, .int .i64 x2.e, .bool n3, .slice A3 L3.length c3, .int .i64 x3.e, .bool n4, .slice A4 L4.length c4, .int .i64 x4.e]⟩]) ∧ Hid (WL wx [⟨sYY, AYY, kYY, cYY, yy.z⟩, ⟨sXX, AXX, kXX, cXX, xx.z⟩, ⟨s4q, A4q, k4q, c4q, la.z⟩, ⟨t4q, B4q, m4q, d4q, ha.z⟩, ⟨s9q, A9q, k9q, c9q, lb.z⟩, ⟨t9q, B9q, m9q, d9q, hb.z⟩]))
  case first =>
    cases b2
    · skip
      have hxx := HYY.out.2 rfl
      subst hxx
      have hi_ := HI.out.cons (WL.at (z := hb.z) HI 4 rfl)
      go_wp2_with fail
      go_meet
      exact ⟨_, _, _, _, HG, Lib.hid hi_⟩
    · skip
      have hxx := HYY.out.1 rfl
      subst hxx
      go_upto_region 8 with fail
      apply wp_region_typed_tail2 14 (by kernel_rfl) [isV _, isV _, isV _, isV _, isD sb, isWV sb.z, isV _, isV _, isV _, isV _, isD sb, isV _, isV _, isD mb] [[], [0], [], [2], [1, 3], [4], [], [6], [], [8], [7, 9], [10], [11], [5, 12]] (by kernel_rfl) (by kernel_rfl) (by kernel_rfl)
      case ho =>
        simp only [List.take_succ_cons, List.take_zero]
        refine owes2_cons (fun wx hox => ?_) ?_
        · skip
          refine withs_plain rfl ?_
          simp only [withs, List.getElem?_cons_zero, List.getElem?_cons_succ, Option.bind, Option.getD]
          repeat (first | (with_reducible refine all_isV ?_) | (with_reducible refine all_isD ?_; intro sx Ax kx cx hvx hwx) | (with_reducible refine all_isWV ?_; intro sx Ax kx cx hvx))
          go_simp
          exact ⟨Only.refl _ _, isV.self _ _⟩
        refine owes2_cons (fun wx hox => ?_) ?_
        · skip
          have hg := Lib.hid (HG.out.step hox)
          have hi := Lib.hid (HI.out.step hox)
          obtain ⟨x3_0, x3_1, x3_2, x3_3, x3_4, x3_5⟩ := GB.c6 hg 2 rfl
          clear hg hi
          refine withs_plain rfl ?_
          simp only [withs, List.getElem?_cons_zero, List.getElem?_cons_succ, Option.bind, Option.getD]
          repeat (first | (with_reducible refine all_isV ?_) | (with_reducible refine all_isD ?_; intro sx Ax kx cx hvx hwx) | (with_reducible refine all_isWV ?_; intro sx Ax kx cx hvx))
          go_simp
          exact ⟨Only.refl _ _, isV.self _ _⟩
        refine owes2_cons (fun wx hox => ?_) ?_
        · skip
          refine withs_plain rfl ?_
          simp only [withs, List.getElem?_cons_zero, List.getElem?_cons_succ, Option.bind, Option.getD]
          repeat (first | (with_reducible refine all_isV ?_) | (with_reducible refine all_isD ?_; intro sx Ax kx cx hvx hwx) | (with_reducible refine all_isWV ?_; intro sx Ax kx cx hvx))
          go_simp
          exact ⟨Only.refl _ _, isV.self _ _⟩
        refine owes2_cons (fun wx hox => ?_) ?_
        · skip
          have hg := Lib.hid (HG.out.step hox)
          have hi := Lib.hid (HI.out.step hox)
          obtain ⟨x4_0, x4_1, x4_2, x4_3, x4_4, x4_5⟩ := GB.c6 hg 2 rfl
          clear hg hi
          refine withs_plain rfl ?_
          simp only [withs, List.getElem?_cons_zero, List.getElem?_cons_succ, Option.bind, Option.getD]
          repeat (first | (with_reducible refine all_isV ?_) | (with_reducible refine all_isD ?_; intro sx Ax kx cx hvx hwx) | (with_reducible refine all_isWV ?_; intro sx Ax kx cx hvx))
          go_simp
          exact ⟨Only.refl _ _, isV.self _ _⟩
        refine owes2_cons (fun wx hox => ?_) ?_
        · skip
          have hg := Lib.hid (HG.out.step hox)
          have hi := Lib.hid (HI.out.step hox)
          have dv_hb := (WL.dv (x := hb) hi 4 rfl)
          have dv_lb := (WL.dv (x := lb) hi 3 rfl)
          have htx := Lib.hid (hT.out.keep hg.out.only)
          clear hg hi
          refine withs_plain rfl ?_
          simp only [withs, List.getElem?_cons_zero, List.getElem?_cons_succ, Option.bind, Option.getD]
          repeat (first | (with_reducible refine all_isV ?_) | (with_reducible refine all_isD ?_; intro sx Ax kx cx hvx hwx) | (with_reducible refine all_isWV ?_; intro sx Ax kx cx hvx))
          go_simp
          (with_reducible exact grow_d (addV_d sb Hsb.out dv_lb dv_hb Blb Bhb (by omega) htx))
        refine owes2_cons (fun wx hox => ?_) ?_
        · skip
          refine withs_plain rfl ?_
          simp only [withs, List.getElem?_cons_zero, List.getElem?_cons_succ, Option.bind, Option.getD]
          repeat (first | (with_reducible refine all_isV ?_) | (with_reducible refine all_isD ?_; intro sx Ax kx cx hvx hwx) | (with_reducible refine all_isWV ?_; intro sx Ax kx cx hvx))
          go_simp
          (exact ⟨Only.refl _ _, _, _, _, _, rfl, hvx.out⟩)
        refine owes2_cons (fun wx hox => ?_) ?_
        · skip
          refine withs_plain rfl ?_
          simp only [withs, List.getElem?_cons_zero, List.getElem?_cons_succ, Option.bind, Option.getD]
          repeat (first | (with_reducible refine all_isV ?_) | (with_reducible refine all_isD ?_; intro sx Ax kx cx hvx hwx) | (with_reducible refine all_isWV ?_; intro sx Ax kx cx hvx))
          go_simp
          exact ⟨Only.refl _ _, isV.self _ _⟩
        refine owes2_cons (fun wx hox => ?_) ?_
        · skip
          have hg := Lib.hid (HG.out.step hox)
          have hi := Lib.hid (HI.out.step hox)
          obtain ⟨x5_0, x5_1, x5_2, x5_3, x5_4, x5_5⟩ := GB.c6 hg 2 rfl
          clear hg hi
          refine withs_plain rfl ?_
          simp only [withs, List.getElem?_cons_zero, List.getElem?_cons_succ, Option.bind, Option.getD]
          repeat (first | (with_reducible refine all_isV ?_) | (with_reducible refine all_isD ?_; intro sx Ax kx cx hvx hwx) | (with_reducible refine all_isWV ?_; intro sx Ax kx cx hvx))
          go_simp
          exact ⟨Only.refl _ _, isV.self _ _⟩
        refine owes2_cons (fun wx hox => ?_) ?_
        · skip
          refine withs_plain rfl ?_
          simp only [withs, List.getElem?_cons_zero, List.getElem?_cons_succ, Option.bind, Option.getD]
          repeat (first | (with_reducible refine all_isV ?_) | (with_reducible refine all_isD ?_; intro sx Ax kx cx hvx hwx) | (with_reducible refine all_isWV ?_; intro sx Ax kx cx hvx))
          go_simp
          exact ⟨Only.refl _ _, isV.self _ _⟩
        refine owes2_cons (fun wx hox => ?_) ?_
        · skip
          have hg := Lib.hid (HG.out.step hox)
          have hi := Lib.hid (HI.out.step hox)
          obtain ⟨x6_0, x6_1, x6_2, x6_3, x6_4, x6_5⟩ := GB.c6 hg 2 rfl
          clear hg hi
          refine withs_plain rfl ?_
          simp only [withs, List.getElem?_cons_zero, List.getElem?_cons_succ, Option.bind, Option.getD]
          repeat (first | (with_reducible refine all_isV ?_) | (with_reducible refine all_isD ?_; intro sx Ax kx cx hvx hwx) | (with_reducible refine all_isWV ?_; intro sx Ax kx cx hvx))
          go_simp
          exact ⟨Only.refl _ _, isV.self _ _⟩
        refine owes2_cons (fun wx hox => ?_) ?_
        · skip
          have hg := Lib.hid (HG.out.step hox)
          have hi := Lib.hid (HI.out.step hox)
          have dv_hb := (WL.dv (x := hb) hi 4 rfl)
          have dv_lb := (WL.dv (x := lb) hi 3 rfl)
          have htx := Lib.hid (hT.out.keep hg.out.only)
          clear hg hi
          refine withs_plain rfl ?_
          simp only [withs, List.getElem?_cons_zero, List.getElem?_cons_succ, Option.bind, Option.getD]
          repeat (first | (with_reducible refine all_isV ?_) | (with_reducible refine all_isD ?_; intro sx Ax kx cx hvx hwx) | (with_reducible refine all_isWV ?_; intro sx Ax kx cx hvx))
          go_simp
          (with_reducible exact grow_d (addV_d sb Hsb.out dv_lb dv_hb Blb Bhb (by omega) htx))
        iterate 2
          refine owes2_cons (fun wx hox => ?_) ?_
          · skip
            refine withs_plain rfl ?_
            simp only [withs, List.getElem?_cons_zero, List.getElem?_cons_succ, Option.bind, Option.getD]
            repeat (first | (with_reducible refine all_isV ?_) | (with_reducible refine all_isD ?_; intro sx Ax kx cx hvx hwx) | (with_reducible refine all_isWV ?_; intro sx Ax kx cx hvx))
            go_simp
            exact ⟨Only.refl _ _, isV.self _ _⟩
        refine owes2_cons (fun wx hox => ?_) ?_
        · skip
          have hg := Lib.hid (HG.out.step hox)
          have hi := Lib.hid (HI.out.step hox)
          have htx := Lib.hid (hT.out.keep hg.out.only)
          clear hg hi
          refine withs_plain rfl ?_
          simp only [withs, List.getElem?_cons_zero, List.getElem?_cons_succ, Option.bind, Option.getD]
          repeat (first | (with_reducible refine all_isV ?_) | (with_reducible refine all_isD ?_; intro sx Ax kx cx hvx hwx) | (with_reducible refine all_isWV ?_; intro sx Ax kx cx hvx))
          go_simp
          (with_reducible exact grow_d (makeV_d mb Hmb.out (by assumption) HBsb hbsb1 hbsb2 htx))
        exact owes2_nil
      case hl =>
        repeat (refine List.forall_mem_cons.2 ⟨?_, ?_⟩; first | exact isV.lasts _ | exact isD.lasts _ | exact isWV.lasts _)
        exact fun _ h => (by cases h)
      simp only [List.drop_succ_cons, List.drop_zero]
      intro wx hox
      refine withs_of (by simp only [List.length, List.range, List.range.loop]; exact rfl) ?_
      simp only [withs, List.getElem?_cons_zero, List.getElem?_cons_succ, Option.bind, Option.getD]
      with_reducible refine all_isV ?_
      with_reducible refine all_isV ?_
      with_reducible refine all_isV ?_
      with_reducible refine all_isV ?_
      with_reducible refine all_isD ?_
      intro s4 A4 k4 c4 hv4 hw4
      with_reducible refine all_isWV ?_
      intro s5 A5 k5 c5 hv5
      with_reducible refine all_isV ?_
      with_reducible refine all_isV ?_
      with_reducible refine all_isV ?_
      with_reducible refine all_isV ?_
      with_reducible refine all_isD ?_
      intro s10 A10 k10 c10 hv10 hw10
      with_reducible refine all_isV ?_
      with_reducible refine all_isV ?_
      with_reducible refine all_isD ?_
      intro s13 A13 k13 c13 hv13 hw13
      go_simp
      replace HG := Lib.hid (HG.out.step hox)
      have hi_ := (HI.out.step hox).cons hv13
      obtain ⟨v0, v1, v2⟩ := GB.c3 HG 0 rfl
      obtain ⟨u0_, u1_, u2_⟩ := GB.f3 HG 0 rfl
      have hg_ := HG.out.put3 0 rfl (u := .bool s13) (v := .slice A13 k13 c13) (x := .int .i64 mb.e) (noLimb3 _ _ _ _ _)
      have hi2_ := hi_.far (only_set3 wx g5 (.bool s13) (.slice A13 k13 c13) (.int .i64 mb.e)) (GB.blk HG 0 rfl) (noLimb3 _ _ _ _ _)
      go_wp2_with fail
      go_meet
      exact ⟨_, _, _, _, Lib.hid hg_, Lib.hid hi2_⟩
  obtain ⟨sYY, AYY, kYY, cYY, HG2, HI2⟩ := hcut
  clear HG HI
  have HG := HG2
  have HI := HI2
  clear HG2 HI2
  go_upto_region 9 with fail
  apply wp_region_typed2 (by kernel_rfl) [isV _, isV _, isV _, isV _, isV _, isV _, isV _, isV _, isV _, isV _, isV _, isV _, isV _, isV _, isB AAl AAh, isV _, isV _, isD zs, isV _, isV _, isV _, isV _, isV _, isV _, isV _, isB ASl ASh, isV _, isV _, isD zd, isV _, isV _, isV _, isV _, isV _, isV _, isV _, isB AMl AMh, isV _, isV _, isD zm, isV _, isV _, isV _] [[], [], [0, 1], [2], [3], [4], [4], [4, 5, 6], [4, 7], [4, 8], [9], [10], [10], [10], [10, 11, 12, 13], [10], [10], [10, 15, 16], [10, 14, 17], [10, 18], [10, 19], [20], [21], [21], [21], [21, 22, 23, 24], [21], [21], [21, 26, 27], [21, 25, 28], [21, 29], [21, 30], [31], [32], [32], [32], [32, 33, 34, 35], [32], [32], [32, 37, 38], [32, 36, 39], [32, 40], [32, 41]] (by kernel_rfl) (by kernel_rfl)
  case ho =>
    refine owes2_cons (fun wx hox => ?_) ?_
    · skip
      have hg := Lib.hid (HG.out.step hox)
      have hi := Lib.hid (HI.out.step hox)
      obtain ⟨x3_0, x3_1, x3_2, x3_3, x3_4, x3_5⟩ := GB.c6 hg 3 rfl
      clear hg hi
      refine withs_plain rfl ?_
      simp only [withs, List.getElem?_cons_zero, List.getElem?_cons_succ, Option.bind, Option.getD]
      repeat (first | (with_reducible refine all_isV ?_) | (with_reducible refine all_isB ?_; intro sx Ax kx cx tx Bx mx dx hvx hwx) | (with_reducible refine all_isD ?_; intro sx Ax kx cx hvx hwx))
      go_simp
      exact ⟨Only.refl _ _, isV.self _ _⟩
    refine owes2_cons (fun wx hox => ?_) ?_
    · skip
      have hg := Lib.hid (HG.out.step hox)
      have hi := Lib.hid (HI.out.step hox)
      obtain ⟨x4_0, x4_1, x4_2⟩ := GB.c3 hg 1 rfl
      clear hg hi
      refine withs_plain rfl ?_
      simp only [withs, List.getElem?_cons_zero, List.getElem?_cons_succ, Option.bind, Option.getD]
      repeat (first | (with_reducible refine all_isV ?_) | (with_reducible refine all_isB ?_; intro sx Ax kx cx tx Bx mx dx hvx hwx) | (with_reducible refine all_isD ?_; intro sx Ax kx cx hvx hwx))
      go_simp
      exact ⟨Only.refl _ _, isV.self _ _⟩
    refine owes2_cons (fun wx hox => ?_) ?_
    · skip
      have hg := Lib.hid (HG.out.step hox)
      have hi := Lib.hid (HI.out.step hox)
      have dv_xx := (WL.dv (x := xx) hi 1 rfl)
      have bv_la_ha := (BV.of (x := la) (y := ha) (WL.at (z := la.z) hi 2 rfl) (WL.at (z := ha.z) hi 3 rfl))
      clear hg hi
      refine withs_plain rfl ?_
      simp only [withs, List.getElem?_cons_zero, List.getElem?_cons_succ, Option.bind, Option.getD]
      repeat (first | (with_reducible refine all_isV ?_) | (with_reducible refine all_isB ?_; intro sx Ax kx cx tx Bx mx dx hvx hwx) | (with_reducible refine all_isD ?_; intro sx Ax kx cx hvx hwx))
      go_simp
      (with_reducible exact grow_of (has_b true Kax.out bv_la_ha dv_xx Bla Bha Bxx (by omega)))
    iterate 2
      refine owes2_cons (fun wx hox => ?_) ?_
      · skip
        refine withs_plain rfl ?_
        simp only [withs, List.getElem?_cons_zero, List.getElem?_cons_succ, Option.bind, Option.getD]
        repeat (first | (with_reducible refine all_isV ?_) | (with_reducible refine all_isB ?_; intro sx Ax kx cx tx Bx mx dx hvx hwx) | (with_reducible refine all_isD ?_; intro sx Ax kx cx hvx hwx))
        go_simp
        exact ⟨Only.refl _ _, isV.self _ _⟩
    refine owes2_cons (fun wx hox => ?_) ?_
    · skip
      have hg := Lib.hid (HG.out.step hox)
      have hi := Lib.hid (HI.out.step hox)
      obtain ⟨x5_0, x5_1, x5_2, x5_3, x5_4, x5_5⟩ := GB.c6 hg 2 rfl
      clear hg hi
      refine withs_guard rfl rfl ?_
      simp only [withs, List.getElem?_cons_zero, List.getElem?_cons_succ, Option.bind, Option.getD]
      repeat (first | (with_reducible refine all_isV ?_) | (with_reducible refine all_isB ?_; intro sx Ax kx cx tx Bx mx dx hvx hwx) | (with_reducible refine all_isD ?_; intro sx Ax kx cx hvx hwx))
      refine ⟨by kernel_rfl, ?_⟩
      go_simp
      exact ⟨Only.refl _ _, isV.self _ _⟩
    refine owes2_cons (fun wx hox => ?_) ?_
    · skip
      have hg := Lib.hid (HG.out.step hox)
      have hi := Lib.hid (HI.out.step hox)
      obtain ⟨x6_0, x6_1, x6_2⟩ := GB.c3 hg 0 rfl
      clear hg hi
      refine withs_guard rfl rfl ?_
      simp only [withs, List.getElem?_cons_zero, List.getElem?_cons_succ, Option.bind, Option.getD]
      repeat (first | (with_reducible refine all_isV ?_) | (with_reducible refine all_isB ?_; intro sx Ax kx cx tx Bx mx dx hvx hwx) | (with_reducible refine all_isD ?_; intro sx Ax kx cx hvx hwx))
      refine ⟨by kernel_rfl, ?_⟩
      go_simp
      exact ⟨Only.refl _ _, isV.self _ _⟩
    refine owes2_cons (fun wx hox => ?_) ?_
    · skip
      have hg := Lib.hid (HG.out.step hox)
      have hi := Lib.hid (HI.out.step hox)
      have dv_yy := (WL.dv (x := yy) hi 0 rfl)
      have bv_lb_hb := (BV.of (x := lb) (y := hb) (WL.at (z := lb.z) hi 4 rfl) (WL.at (z := hb.z) hi 5 rfl))
      clear hg hi
      refine withs_guard rfl rfl ?_
      simp only [withs, List.getElem?_cons_zero, List.getElem?_cons_succ, Option.bind, Option.getD]
      repeat (first | (with_reducible refine all_isV ?_) | (with_reducible refine all_isB ?_; intro sx Ax kx cx tx Bx mx dx hvx hwx) | (with_reducible refine all_isD ?_; intro sx Ax kx cx hvx hwx))
      refine ⟨by kernel_rfl, ?_⟩
      go_simp
      (with_reducible exact grow_of (has_b true Kby.out bv_lb_hb dv_yy Blb Bhb Byy (by omega)))
    refine owes2_cons (fun wx hox => ?_) ?_
    · skip
      refine withs_guard rfl rfl ?_
      simp only [withs, List.getElem?_cons_zero, List.getElem?_cons_succ, Option.bind, Option.getD]
      repeat (first | (with_reducible refine all_isV ?_) | (with_reducible refine all_isB ?_; intro sx Ax kx cx tx Bx mx dx hvx hwx) | (with_reducible refine all_isD ?_; intro sx Ax kx cx hvx hwx))
      refine ⟨by kernel_rfl, ?_⟩
      go_simp
      exact ⟨Only.refl _ _, isV.self _ _⟩
    iterate 2
      refine owes2_cons (fun wx hox => ?_) ?_
      · skip
        refine withs_plain rfl ?_
        simp only [withs, List.getElem?_cons_zero, List.getElem?_cons_succ, Option.bind, Option.getD]
        repeat (first | (with_reducible refine all_isV ?_) | (with_reducible refine all_isB ?_; intro sx Ax kx cx tx Bx mx dx hvx hwx) | (with_reducible refine all_isD ?_; intro sx Ax kx cx hvx hwx))
        go_simp
        exact ⟨Only.refl _ _, isV.self _ _⟩
    refine owes2_cons (fun wx hox => ?_) ?_
    · skip
      have hg := Lib.hid (HG.out.step hox)
      have hi := Lib.hid (HI.out.step hox)
      obtain ⟨x7_0, x7_1, x7_2, x7_3, x7_4, x7_5⟩ := GB.c6 hg 3 rfl
      clear hg hi
      refine withs_guard rfl rfl ?_
      simp only [withs, List.getElem?_cons_zero, List.getElem?_cons_succ, Option.bind, Option.getD]
      repeat (first | (with_reducible refine all_isV ?_) | (with_reducible refine all_isB ?_; intro sx Ax kx cx tx Bx mx dx hvx hwx) | (with_reducible refine all_isD ?_; intro sx Ax kx cx hvx hwx))
      refine ⟨by kernel_rfl, ?_⟩
      go_simp
      exact ⟨Only.refl _ _, isV.self _ _⟩
    refine owes2_cons (fun wx hox => ?_) ?_
    · skip
      have hg := Lib.hid (HG.out.step hox)
      have hi := Lib.hid (HI.out.step hox)
      obtain ⟨x8_0, x8_1, x8_2, x8_3, x8_4, x8_5⟩ := GB.c6 hg 2 rfl
      clear hg hi
      refine withs_guard rfl rfl ?_
      simp only [withs, List.getElem?_cons_zero, List.getElem?_cons_succ, Option.bind, Option.getD]
      repeat (first | (with_reducible refine all_isV ?_) | (with_reducible refine all_isB ?_; intro sx Ax kx cx tx Bx mx dx hvx hwx) | (with_reducible refine all_isD ?_; intro sx Ax kx cx hvx hwx))
      refine ⟨by kernel_rfl, ?_⟩
      go_simp
      exact ⟨Only.refl _ _, isV.self _ _⟩
    refine owes2_cons (fun wx hox => ?_) ?_
    · skip
      refine withs_guard rfl rfl ?_
      simp only [withs, List.getElem?_cons_zero, List.getElem?_cons_succ, Option.bind, Option.getD]
      repeat (first | (with_reducible refine all_isV ?_) | (with_reducible refine all_isB ?_; intro sx Ax kx cx tx Bx mx dx hvx hwx) | (with_reducible refine all_isD ?_; intro sx Ax kx cx hvx hwx))
      refine ⟨by kernel_rfl, ?_⟩
      go_simp
      exact ⟨Only.refl _ _, isV.self _ _⟩
    refine owes2_cons (fun wx hox => ?_) ?_
    · skip
      have hg := Lib.hid (HG.out.step hox)
      have hi := Lib.hid (HI.out.step hox)
      have bv_la_ha := (BV.of (x := la) (y := ha) (WL.at (z := la.z) hi 2 rfl) (WL.at (z := ha.z) hi 3 rfl))
      have bv_lb_hb := (BV.of (x := lb) (y := hb) (WL.at (z := lb.z) hi 4 rfl) (WL.at (z := hb.z) hi 5 rfl))
      have htx := Lib.hid (hT.out.keep hg.out.only)
      clear hg hi
      refine withs_guard rfl rfl ?_
      simp only [withs, List.getElem?_cons_zero, List.getElem?_cons_succ, Option.bind, Option.getD]
      repeat (first | (with_reducible refine all_isV ?_) | (with_reducible refine all_isB ?_; intro sx Ax kx cx tx Bx mx dx hvx hwx) | (with_reducible refine all_isD ?_; intro sx Ax kx cx hvx hwx))
      refine ⟨by kernel_rfl, ?_⟩
      go_simp
      (with_reducible exact grow_b (add_b p AAl AAh HAAl.out HAAh.out bv_la_ha bv_lb_hb Bla Bha Blb Bhb (by omega) htx))
    refine owes2_cons (fun wx hox => ?_) ?_
    · skip
      have hg := Lib.hid (HG.out.step hox)
      have hi := Lib.hid (HI.out.step hox)
      obtain ⟨x9_0, x9_1, x9_2⟩ := GB.c3 hg 1 rfl
      clear hg hi
      refine withs_guard rfl rfl ?_
      simp only [withs, List.getElem?_cons_zero, List.getElem?_cons_succ, Option.bind, Option.getD]
      repeat (first | (with_reducible refine all_isV ?_) | (with_reducible refine all_isB ?_; intro sx Ax kx cx tx Bx mx dx hvx hwx) | (with_reducible refine all_isD ?_; intro sx Ax kx cx hvx hwx))
      refine ⟨by kernel_rfl, ?_⟩
      go_simp
      exact ⟨Only.refl _ _, isV.self _ _⟩
    refine owes2_cons (fun wx hox => ?_) ?_
    · skip
      have hg := Lib.hid (HG.out.step hox)
      have hi := Lib.hid (HI.out.step hox)
      obtain ⟨x10_0, x10_1, x10_2⟩ := GB.c3 hg 0 rfl
      clear hg hi
      refine withs_guard rfl rfl ?_
      simp only [withs, List.getElem?_cons_zero, List.getElem?_cons_succ, Option.bind, Option.getD]
      repeat (first | (with_reducible refine all_isV ?_) | (with_reducible refine all_isB ?_; intro sx Ax kx cx tx Bx mx dx hvx hwx) | (with_reducible refine all_isD ?_; intro sx Ax kx cx hvx hwx))
      refine ⟨by kernel_rfl, ?_⟩
      go_simp
      exact ⟨Only.refl _ _, isV.self _ _⟩
    refine owes2_cons (fun wx hox => ?_) ?_
    · skip
      have hg := Lib.hid (HG.out.step hox)
      have hi := Lib.hid (HI.out.step hox)
      have dv_xx := (WL.dv (x := xx) hi 1 rfl)
      have dv_yy := (WL.dv (x := yy) hi 0 rfl)
      have htx := Lib.hid (hT.out.keep hg.out.only)
      clear hg hi
      refine withs_guard rfl rfl ?_
      simp only [withs, List.getElem?_cons_zero, List.getElem?_cons_succ, Option.bind, Option.getD]
      repeat (first | (with_reducible refine all_isV ?_) | (with_reducible refine all_isB ?_; intro sx Ax kx cx tx Bx mx dx hvx hwx) | (with_reducible refine all_isD ?_; intro sx Ax kx cx hvx hwx))
      refine ⟨by kernel_rfl, ?_⟩
      go_simp
      (with_reducible exact grow_d (addV_d zs Hzs.out dv_xx dv_yy Bxx Byy (by omega) htx))
    refine owes2_cons (fun wx hox => ?_) ?_
    · skip
      refine withs_guard rfl rfl ?_
      simp only [withs, List.getElem?_cons_zero, List.getElem?_cons_succ, Option.bind, Option.getD]
      repeat (first | (with_reducible refine all_isV ?_) | (with_reducible refine all_isB ?_; intro sx Ax kx cx tx Bx mx dx hvx hwx) | (with_reducible refine all_isD ?_; intro sx Ax kx cx hvx hwx))
      refine ⟨by kernel_rfl, ?_⟩
      go_simp
      (with_reducible exact grow_of (has_b true KA.out (BV.of (x := AAl) (y := AAh) (by assumption) (by assumption)) (DV.of (x := zs) (by assumption)) BAAl BAAh Bzs (by omega)))
    refine owes2_cons (fun wx hox => ?_) ?_
    · skip
      refine withs_guard rfl rfl ?_
      simp only [withs, List.getElem?_cons_zero, List.getElem?_cons_succ, Option.bind, Option.getD]
      repeat (first | (with_reducible refine all_isV ?_) | (with_reducible refine all_isB ?_; intro sx Ax kx cx tx Bx mx dx hvx hwx) | (with_reducible refine all_isD ?_; intro sx Ax kx cx hvx hwx))
      refine ⟨by kernel_rfl, ?_⟩
      go_simp
      exact ⟨Only.refl _ _, isV.self _ _⟩
    iterate 2
      refine owes2_cons (fun wx hox => ?_) ?_
      · skip
        refine withs_plain rfl ?_
        simp only [withs, List.getElem?_cons_zero, List.getElem?_cons_succ, Option.bind, Option.getD]
        repeat (first | (with_reducible refine all_isV ?_) | (with_reducible refine all_isB ?_; intro sx Ax kx cx tx Bx mx dx hvx hwx) | (with_reducible refine all_isD ?_; intro sx Ax kx cx hvx hwx))
        go_simp
        exact ⟨Only.refl _ _, isV.self _ _⟩
    refine owes2_cons (fun wx hox => ?_) ?_
    · skip
      have hg := Lib.hid (HG.out.step hox)
      have hi := Lib.hid (HI.out.step hox)
      obtain ⟨x11_0, x11_1, x11_2, x11_3, x11_4, x11_5⟩ := GB.c6 hg 3 rfl
      clear hg hi
      refine withs_guard rfl rfl ?_
      simp only [withs, List.getElem?_cons_zero, List.getElem?_cons_succ, Option.bind, Option.getD]
      repeat (first | (with_reducible refine all_isV ?_) | (with_reducible refine all_isB ?_; intro sx Ax kx cx tx Bx mx dx hvx hwx) | (with_reducible refine all_isD ?_; intro sx Ax kx cx hvx hwx))
      refine ⟨by kernel_rfl, ?_⟩
      go_simp
      exact ⟨Only.refl _ _, isV.self _ _⟩
    refine owes2_cons (fun wx hox => ?_) ?_
    · skip
      have hg := Lib.hid (HG.out.step hox)
      have hi := Lib.hid (HI.out.step hox)
      obtain ⟨x12_0, x12_1, x12_2, x12_3, x12_4, x12_5⟩ := GB.c6 hg 2 rfl
      clear hg hi
      refine withs_guard rfl rfl ?_
      simp only [withs, List.getElem?_cons_zero, List.getElem?_cons_succ, Option.bind, Option.getD]
      repeat (first | (with_reducible refine all_isV ?_) | (with_reducible refine all_isB ?_; intro sx Ax kx cx tx Bx mx dx hvx hwx) | (with_reducible refine all_isD ?_; intro sx Ax kx cx hvx hwx))
      refine ⟨by kernel_rfl, ?_⟩
      go_simp
      exact ⟨Only.refl _ _, isV.self _ _⟩
    refine owes2_cons (fun wx hox => ?_) ?_
    · skip
      refine withs_guard rfl rfl ?_
      simp only [withs, List.getElem?_cons_zero, List.getElem?_cons_succ, Option.bind, Option.getD]
      repeat (first | (with_reducible refine all_isV ?_) | (with_reducible refine all_isB ?_; intro sx Ax kx cx tx Bx mx dx hvx hwx) | (with_reducible refine all_isD ?_; intro sx Ax kx cx hvx hwx))
      refine ⟨by kernel_rfl, ?_⟩
      go_simp
      exact ⟨Only.refl _ _, isV.self _ _⟩
    refine owes2_cons (fun wx hox => ?_) ?_
    · skip
      have hg := Lib.hid (HG.out.step hox)
      have hi := Lib.hid (HI.out.step hox)
      have bv_la_ha := (BV.of (x := la) (y := ha) (WL.at (z := la.z) hi 2 rfl) (WL.at (z := ha.z) hi 3 rfl))
      have bv_lb_hb := (BV.of (x := lb) (y := hb) (WL.at (z := lb.z) hi 4 rfl) (WL.at (z := hb.z) hi 5 rfl))
      have htx := Lib.hid (hT.out.keep hg.out.only)
      clear hg hi
      refine withs_guard rfl rfl ?_
      simp only [withs, List.getElem?_cons_zero, List.getElem?_cons_succ, Option.bind, Option.getD]
      repeat (first | (with_reducible refine all_isV ?_) | (with_reducible refine all_isB ?_; intro sx Ax kx cx tx Bx mx dx hvx hwx) | (with_reducible refine all_isD ?_; intro sx Ax kx cx hvx hwx))
      refine ⟨by kernel_rfl, ?_⟩
      go_simp
      (with_reducible exact grow_b (sub_b p ASl ASh HASl.out HASh.out bv_la_ha bv_lb_hb Bla Bha Blb Bhb (by omega) htx))
    refine owes2_cons (fun wx hox => ?_) ?_
    · skip
      have hg := Lib.hid (HG.out.step hox)
      have hi := Lib.hid (HI.out.step hox)
      obtain ⟨x13_0, x13_1, x13_2⟩ := GB.c3 hg 1 rfl
      clear hg hi
      refine withs_guard rfl rfl ?_
      simp only [withs, List.getElem?_cons_zero, List.getElem?_cons_succ, Option.bind, Option.getD]
      repeat (first | (with_reducible refine all_isV ?_) | (with_reducible refine all_isB ?_; intro sx Ax kx cx tx Bx mx dx hvx hwx) | (with_reducible refine all_isD ?_; intro sx Ax kx cx hvx hwx))
      refine ⟨by kernel_rfl, ?_⟩
      go_simp
      exact ⟨Only.refl _ _, isV.self _ _⟩
    refine owes2_cons (fun wx hox => ?_) ?_
    · skip
      have hg := Lib.hid (HG.out.step hox)
      have hi := Lib.hid (HI.out.step hox)
      obtain ⟨x14_0, x14_1, x14_2⟩ := GB.c3 hg 0 rfl
      clear hg hi
      refine withs_guard rfl rfl ?_
      simp only [withs, List.getElem?_cons_zero, List.getElem?_cons_succ, Option.bind, Option.getD]
      repeat (first | (with_reducible refine all_isV ?_) | (with_reducible refine all_isB ?_; intro sx Ax kx cx tx Bx mx dx hvx hwx) | (with_reducible refine all_isD ?_; intro sx Ax kx cx hvx hwx))
      refine ⟨by kernel_rfl, ?_⟩
      go_simp
      exact ⟨Only.refl _ _, isV.self _ _⟩
    refine owes2_cons (fun wx hox => ?_) ?_
    · skip
      have hg := Lib.hid (HG.out.step hox)
      have hi := Lib.hid (HI.out.step hox)
      have dv_xx := (WL.dv (x := xx) hi 1 rfl)
      have dv_yy := (WL.dv (x := yy) hi 0 rfl)
      have htx := Lib.hid (hT.out.keep hg.out.only)
      clear hg hi
      refine withs_guard rfl rfl ?_
      simp only [withs, List.getElem?_cons_zero, List.getElem?_cons_succ, Option.bind, Option.getD]
      repeat (first | (with_reducible refine all_isV ?_) | (with_reducible refine all_isB ?_; intro sx Ax kx cx tx Bx mx dx hvx hwx) | (with_reducible refine all_isD ?_; intro sx Ax kx cx hvx hwx))
      refine ⟨by kernel_rfl, ?_⟩
      go_simp
      (with_reducible exact grow_d (subV_d zd Hzd.out dv_xx dv_yy Bxx Byy (by omega) htx))
    refine owes2_cons (fun wx hox => ?_) ?_
    · skip
      refine withs_guard rfl rfl ?_
      simp only [withs, List.getElem?_cons_zero, List.getElem?_cons_succ, Option.bind, Option.getD]
      repeat (first | (with_reducible refine all_isV ?_) | (with_reducible refine all_isB ?_; intro sx Ax kx cx tx Bx mx dx hvx hwx) | (with_reducible refine all_isD ?_; intro sx Ax kx cx hvx hwx))
      refine ⟨by kernel_rfl, ?_⟩
      go_simp
      (with_reducible exact grow_of (has_b true KS.out (BV.of (x := ASl) (y := ASh) (by assumption) (by assumption)) (DV.of (x := zd) (by assumption)) BASl BASh Bzd (by omega)))
    refine owes2_cons (fun wx hox => ?_) ?_
    · skip
      refine withs_guard rfl rfl ?_
      simp only [withs, List.getElem?_cons_zero, List.getElem?_cons_succ, Option.bind, Option.getD]
      repeat (first | (with_reducible refine all_isV ?_) | (with_reducible refine all_isB ?_; intro sx Ax kx cx tx Bx mx dx hvx hwx) | (with_reducible refine all_isD ?_; intro sx Ax kx cx hvx hwx))
      refine ⟨by kernel_rfl, ?_⟩
      go_simp
      exact ⟨Only.refl _ _, isV.self _ _⟩
    iterate 2
      refine owes2_cons (fun wx hox => ?_) ?_
      · skip
        refine withs_plain rfl ?_
        simp only [withs, List.getElem?_cons_zero, List.getElem?_cons_succ, Option.bind, Option.getD]
        repeat (first | (with_reducible refine all_isV ?_) | (with_reducible refine all_isB ?_; intro sx Ax kx cx tx Bx mx dx hvx hwx) | (with_reducible refine all_isD ?_; intro sx Ax kx cx hvx hwx))
        go_simp
        exact ⟨Only.refl _ _, isV.self _ _⟩
    refine owes2_cons (fun wx hox => ?_) ?_
    · skip
      have hg := Lib.hid (HG.out.step hox)
      have hi := Lib.hid (HI.out.step hox)
      obtain ⟨x15_0, x15_1, x15_2, x15_3, x15_4, x15_5⟩ := GB.c6 hg 3 rfl
      clear hg hi
      refine withs_guard rfl rfl ?_
      simp only [withs, List.getElem?_cons_zero, List.getElem?_cons_succ, Option.bind, Option.getD]
      repeat (first | (with_reducible refine all_isV ?_) | (with_reducible refine all_isB ?_; intro sx Ax kx cx tx Bx mx dx hvx hwx) | (with_reducible refine all_isD ?_; intro sx Ax kx cx hvx hwx))
      refine ⟨by kernel_rfl, ?_⟩
      go_simp
      exact ⟨Only.refl _ _, isV.self _ _⟩
    refine owes2_cons (fun wx hox => ?_) ?_
    · skip
      have hg := Lib.hid (HG.out.step hox)
      have hi := Lib.hid (HI.out.step hox)
      obtain ⟨x16_0, x16_1, x16_2, x16_3, x16_4, x16_5⟩ := GB.c6 hg 2 rfl
      clear hg hi
      refine withs_guard rfl rfl ?_
      simp only [withs, List.getElem?_cons_zero, List.getElem?_cons_succ, Option.bind, Option.getD]
      repeat (first | (with_reducible refine all_isV ?_) | (with_reducible refine all_isB ?_; intro sx Ax kx cx tx Bx mx dx hvx hwx) | (with_reducible refine all_isD ?_; intro sx Ax kx cx hvx hwx))
      refine ⟨by kernel_rfl, ?_⟩
      go_simp
      exact ⟨Only.refl _ _, isV.self _ _⟩
    refine owes2_cons (fun wx hox => ?_) ?_
    · skip
      refine withs_guard rfl rfl ?_
      simp only [withs, List.getElem?_cons_zero, List.getElem?_cons_succ, Option.bind, Option.getD]
      repeat (first | (with_reducible refine all_isV ?_) | (with_reducible refine all_isB ?_; intro sx Ax kx cx tx Bx mx dx hvx hwx) | (with_reducible refine all_isD ?_; intro sx Ax kx cx hvx hwx))
      refine ⟨by kernel_rfl, ?_⟩
      go_simp
      exact ⟨Only.refl _ _, isV.self _ _⟩
    refine owes2_cons (fun wx hox => ?_) ?_
    · skip
      have hg := Lib.hid (HG.out.step hox)
      have hi := Lib.hid (HI.out.step hox)
      have bv_la_ha := (BV.of (x := la) (y := ha) (WL.at (z := la.z) hi 2 rfl) (WL.at (z := ha.z) hi 3 rfl))
      have bv_lb_hb := (BV.of (x := lb) (y := hb) (WL.at (z := lb.z) hi 4 rfl) (WL.at (z := hb.z) hi 5 rfl))
      have htx := Lib.hid (hT.out.keep hg.out.only)
      clear hg hi
      refine withs_guard rfl rfl ?_
      simp only [withs, List.getElem?_cons_zero, List.getElem?_cons_succ, Option.bind, Option.getD]
      repeat (first | (with_reducible refine all_isV ?_) | (with_reducible refine all_isB ?_; intro sx Ax kx cx tx Bx mx dx hvx hwx) | (with_reducible refine all_isD ?_; intro sx Ax kx cx hvx hwx))
      refine ⟨by kernel_rfl, ?_⟩
      go_simp
      (with_reducible exact grow_b (bmul_b p AMl AMh HAMl.out HAMh.out bv_la_ha bv_lb_hb Bla Bha Blb Bhb (by omega) htx))
    refine owes2_cons (fun wx hox => ?_) ?_
    · skip
      have hg := Lib.hid (HG.out.step hox)
      have hi := Lib.hid (HI.out.step hox)
      obtain ⟨x17_0, x17_1, x17_2⟩ := GB.c3 hg 1 rfl
      clear hg hi
      refine withs_guard rfl rfl ?_
      simp only [withs, List.getElem?_cons_zero, List.getElem?_cons_succ, Option.bind, Option.getD]
      repeat (first | (with_reducible refine all_isV ?_) | (with_reducible refine all_isB ?_; intro sx Ax kx cx tx Bx mx dx hvx hwx) | (with_reducible refine all_isD ?_; intro sx Ax kx cx hvx hwx))
      refine ⟨by kernel_rfl, ?_⟩
      go_simp
      exact ⟨Only.refl _ _, isV.self _ _⟩
    refine owes2_cons (fun wx hox => ?_) ?_
    · skip
      have hg := Lib.hid (HG.out.step hox)
      have hi := Lib.hid (HI.out.step hox)
      obtain ⟨x18_0, x18_1, x18_2⟩ := GB.c3 hg 0 rfl
      clear hg hi
      refine withs_guard rfl rfl ?_
      simp only [withs, List.getElem?_cons_zero, List.getElem?_cons_succ, Option.bind, Option.getD]
      repeat (first | (with_reducible refine all_isV ?_) | (with_reducible refine all_isB ?_; intro sx Ax kx cx tx Bx mx dx hvx hwx) | (with_reducible refine all_isD ?_; intro sx Ax kx cx hvx hwx))
      refine ⟨by kernel_rfl, ?_⟩
      go_simp
      exact ⟨Only.refl _ _, isV.self _ _⟩
    refine owes2_cons (fun wx hox => ?_) ?_
    · skip
      have hg := Lib.hid (HG.out.step hox)
      have hi := Lib.hid (HI.out.step hox)
      have dv_xx := (WL.dv (x := xx) hi 1 rfl)
      have dv_yy := (WL.dv (x := yy) hi 0 rfl)
      have htx := Lib.hid (hT.out.keep hg.out.only)
      clear hg hi
      refine withs_guard rfl rfl ?_
      simp only [withs, List.getElem?_cons_zero, List.getElem?_cons_succ, Option.bind, Option.getD]
      repeat (first | (with_reducible refine all_isV ?_) | (with_reducible refine all_isB ?_; intro sx Ax kx cx tx Bx mx dx hvx hwx) | (with_reducible refine all_isD ?_; intro sx Ax kx cx hvx hwx))
      refine ⟨by kernel_rfl, ?_⟩
      go_simp
      (with_reducible exact grow_d (mulV_d zm Hzm.out dv_xx dv_yy Bxx Byy (by omega) htx))
    refine owes2_cons (fun wx hox => ?_) ?_
    · skip
      refine withs_guard rfl rfl ?_
      simp only [withs, List.getElem?_cons_zero, List.getElem?_cons_succ, Option.bind, Option.getD]
      repeat (first | (with_reducible refine all_isV ?_) | (with_reducible refine all_isB ?_; intro sx Ax kx cx tx Bx mx dx hvx hwx) | (with_reducible refine all_isD ?_; intro sx Ax kx cx hvx hwx))
      refine ⟨by kernel_rfl, ?_⟩
      go_simp
      (with_reducible exact grow_of (has_b true KM.out (BV.of (x := AMl) (y := AMh) (by assumption) (by assumption)) (DV.of (x := zm) (by assumption)) BAMl BAMh Bzm (by omega)))
    refine owes2_cons (fun wx hox => ?_) ?_
    · skip
      refine withs_guard rfl rfl ?_
      simp only [withs, List.getElem?_cons_zero, List.getElem?_cons_succ, Option.bind, Option.getD]
      repeat (first | (with_reducible refine all_isV ?_) | (with_reducible refine all_isB ?_; intro sx Ax kx cx tx Bx mx dx hvx hwx) | (with_reducible refine all_isD ?_; intro sx Ax kx cx hvx hwx))
      refine ⟨by kernel_rfl, ?_⟩
      go_simp
      exact ⟨Only.refl _ _, isV.self _ _⟩
    refine owes2_cons (fun wx hox => ?_) ?_
    · skip
      refine withs_plain rfl ?_
      simp only [withs, List.getElem?_cons_zero, List.getElem?_cons_succ, Option.bind, Option.getD]
      repeat (first | (with_reducible refine all_isV ?_) | (with_reducible refine all_isB ?_; intro sx Ax kx cx tx Bx mx dx hvx hwx) | (with_reducible refine all_isD ?_; intro sx Ax kx cx hvx hwx))
      go_simp
      exact ⟨Only.refl _ _, isV.self _ _⟩
    exact owes2_nil
  case hl =>
    repeat (refine List.forall_mem_cons.2 ⟨?_, ?_⟩; first | exact isV.lasts _ | exact isB.lasts _ _ | exact isD.lasts _)
    exact fun _ h => (by cases h)
  intro wx hox
  refine withs_of (by simp only [List.length, List.range, List.range.loop]; exact rfl) ?_
  simp only [withs, List.getElem?_cons_zero, List.getElem?_cons_succ, Option.bind, Option.getD]
  repeat (first | (with_reducible refine all_isV ?_) | (with_reducible refine all_isB ?_; intro sx Ax kx cx tx Bx mx dx hvx hwx) | (with_reducible refine all_isD ?_; intro sx Ax kx cx hvx hwx))
  go_simp
  replace HG := Lib.hid (HG.out.step hox)
  replace HI := Lib.hid (HI.out.step hox)
  clear hox
  obtain ⟨x3_0, x3_1, x3_2, x3_3, x3_4, x3_5⟩ := GB.c6 HG 3 rfl
  obtain ⟨x4_0, x4_1, x4_2, x4_3, x4_4, x4_5⟩ := GB.c6 HG 2 rfl
  go_wp2_with fail
  (with_reducible refine (bquo_v p okq ql qh HNB HYQ (BV.of (x := la) (y := ha) (WL.at (z := la.z) HI 2 rfl) (WL.at (z := ha.z) HI 3 rfl)) (BV.of (x := lb) (y := hb) (WL.at (z := lb.z) HI 4 rfl) (WL.at (z := hb.z) HI 5 rfl)) Bla Bha Blb Bhb (by omega) (Lib.hid (hT.out.keep HG.out.only))).mono ?_)
  rintro e w101 ⟨sql, Aql, kql, cql, sqh, Aqh, kqh, cqh, rfl, -, hv, -, hw, ho⟩
  have hi_ := (((HI.out.step ho).cons (Lib.hid hw)).cons (Lib.hid hv)).step ((Only.refl [] w101).alloc (.cells #[.bool sql, .slice Aql kql cql, .int .i64 ql.e, .bool sqh, .slice Aqh kqh cqh, .int .i64 qh.e] 51))
  have hg_ := (HG.out.step ho).new 51 [.bool sql, .slice Aql kql cql, .int .i64 ql.e, .bool sqh, .slice Aqh kqh cqh, .int .i64 qh.e] (noLimb6 _ _ _ _ _ _ _ _ _ _)
  replace HG := Lib.hid hg_
  replace HI := Lib.hid hi_
  clear hg_ hi_ ho hv hw
  clear x3_0 x3_1 x3_2 x3_3 x3_4 x3_5 x4_0 x4_1 x4_2 x4_3 x4_4 x4_5
  go_upto_if 141 with fail
  generalize w101.heap.size = gq at *
  generalize w101.alloc _ = wq1 at *
  go_cut [142] from 142 to 165 (fun _ wx => Hid (GB w wx [⟨gq, 51, [.bool sql, .slice Aql kql cql, .int .i64 ql.e, .bool sqh, .slice Aqh kqh cqh, .int .i64 qh.e]⟩, ⟨g5, 37, [.bool sYY, .slice AYY kYY cYY, .int .i64 yy.e]⟩, ⟨g4, 37, [.bool sXX, .slice AXX kXX cXX, .int .i64 xx.e]⟩, ⟨g11, 51, [.bool s9q, .slice A9q k9q c9q, .int .i64 lb.e, .bool t9q, .slice B9q m9q d9q, .int .i64 hb.e]⟩, ⟨g10, 51, [.bool s4q, .slice A4q k4q c4q, .int .i64 la.e, .bool t4q, .slice B4q m4q d4q, .int .i64 ha.e]⟩, ⟨w.heap.size, 58, [.bool n1, .slice A1 L1.length c1, .int .i64 x1.e, .bool n2, .slice A2 L2.length c2, .int .i64 x2.e, .bool n3, .slice A3 L3.length c3, .int .i64 x3.e, .bool n4, .slice A4 L4.length c4, .int .i64 x4.e]⟩]) ∧ Hid (WL wx [⟨sql, Aql, kql, cql, ql.z⟩, ⟨sqh, Aqh, kqh, cqh, qh.z⟩, ⟨sYY, AYY, kYY, cYY, yy.z⟩, ⟨sXX, AXX, kXX, cXX, xx.z⟩, ⟨s4q, A4q, k4q, c4q, la.z⟩, ⟨t4q, B4q, m4q, d4q, ha.z⟩, ⟨s9q, A9q, k9q, c9q, lb.z⟩, ⟨t9q, B9q, m9q, d9q, hb.z⟩]))
  case first =>
    cases okq
    · skip
      go_wp2_with fail
      go_meet
      exact ⟨HG, HI⟩
    · skip
      obtain ⟨hzy, hq1, hq2⟩ := HYB.out rfl
      replace hq1 := Lib.hid hq1
      replace hq2 := Lib.hid hq2
      go_upto_region 13 with fail
      obtain ⟨x5_0, x5_1, x5_2⟩ := GB.c3 HG 2 rfl
      obtain ⟨x6_0, x6_1, x6_2⟩ := GB.c3 HG 1 rfl
      go_wp2_with fail
      (with_reducible refine (quoV_d 400 (-1) dl true Hdl.out (by simpa using hzy) (WL.dv (x := xx) HI 3 rfl) (WL.dv (x := yy) HI 2 rfl) Bxx Byy (by omega) (Lib.hid (hT.out.keep HG.out.only))).mono ?_)
      rintro e w102 ⟨sdl, Adl, kdl, cdl, rfl, -, -, hv, ho⟩
      have hi_ := ((HI.out.step ho).cons (Lib.hid hv)).step ((Only.refl [] w102).alloc (.cells #[.bool sdl, .slice Adl kdl cdl, .int .i64 dl.e] 37))
      have hg_ := (HG.out.step ho).new 37 [.bool sdl, .slice Adl kdl cdl, .int .i64 dl.e] (noLimb3 _ _ _ _ _)
      replace HG := Lib.hid hg_
      replace HI := Lib.hid hi_
      clear hg_ hi_ ho hv
      clear x5_0 x5_1 x5_2 x6_0 x6_1 x6_2
      go_upto_region 14 with fail
      generalize w102.heap.size = gdl at *
      generalize w102.alloc _ = wq2 at *
      obtain ⟨x7_0, x7_1, x7_2⟩ := GB.c3 HG 3 rfl
      obtain ⟨x8_0, x8_1, x8_2⟩ := GB.c3 HG 2 rfl
      go_wp2_with fail
      (with_reducible refine (quoV_d 400 1 dh true Hdh.out (by simpa using hzy) (WL.dv (x := xx) HI 4 rfl) (WL.dv (x := yy) HI 3 rfl) Bxx Byy (by omega) (Lib.hid (hT.out.keep HG.out.only))).mono ?_)
      rintro e w103 ⟨sdh, Adh, kdh, cdh, rfl, -, -, hv, ho⟩
      have hi_ := ((HI.out.step ho).cons (Lib.hid hv)).step ((Only.refl [] w103).alloc (.cells #[.bool sdh, .slice Adh kdh cdh, .int .i64 dh.e] 37))
      have hg_ := (HG.out.step ho).new 37 [.bool sdh, .slice Adh kdh cdh, .int .i64 dh.e] (noLimb3 _ _ _ _ _)
      replace HG := Lib.hid hg_
      replace HI := Lib.hid hi_
      clear hg_ hi_ ho hv
      clear x7_0 x7_1 x7_2 x8_0 x8_1 x8_2
      go_upto_region 15 with fail
      generalize w103.heap.size = gdh at *
      generalize w103.alloc _ = wq3 at *
      have hc1 := hq1.out
      have hc2 := hq2.out
      obtain ⟨x9_0, x9_1, x9_2, x9_3, x9_4, x9_5⟩ := GB.c6 HG 2 rfl
      obtain ⟨x10_0, x10_1, x10_2⟩ := GB.c3 HG 0 rfl
      go_wp2_with fail
      (with_reducible refine (cmpV_d (x := ql) (y := dh) cq1 (WL.dv (x := ql) HI 2 rfl) (WL.dv (x := dh) HI 0 rfl) Bql Bdh (by omega) Hcq1.out).mono ?_)
      rintro e w104 ⟨rfl, ho⟩
      replace HG := Lib.hid (HG.out.step ho)
      replace HI := Lib.hid (HI.out.step ho)
      clear ho
      clear x9_0 x9_1 x9_2 x9_3 x9_4 x9_5 x10_0 x10_1 x10_2
      obtain ⟨x11_0, x11_1, x11_2, x11_3, x11_4, x11_5⟩ := GB.c6 HG 2 rfl
      obtain ⟨x12_0, x12_1, x12_2⟩ := GB.c3 HG 1 rfl
      go_wp2_with fail
      (with_reducible refine (cmpV_d (x := qh) (y := dl) cq2 (WL.dv (x := qh) HI 3 rfl) (WL.dv (x := dl) HI 1 rfl) Bqh Bdl (by omega) Hcq2.out).mono ?_)
      rintro e w105 ⟨rfl, ho⟩
      replace HG := Lib.hid (HG.out.step ho)
      replace HI := Lib.hid (HI.out.step ho)
      clear ho
      clear x11_0 x11_1 x11_2 x11_3 x11_4 x11_5 x12_0 x12_1 x12_2
      go_wp2_with fail
      go_meet
      exact ⟨Lib.hid HG.out.tail.tail, Lib.hid HI.out.tail.tail⟩
  obtain ⟨HG2, HI2⟩ := hcut
  clear HG HI
  have HG := HG2
  have HI := HI2
  clear HG2 HI2
  rcases HSQ.out with ⟨hs1, hs2⟩ | ⟨hs1, hs2, hs3⟩ | ⟨hs1, hs2, hs3⟩
  · skip
    obtain ⟨x5_0, x5_1, x5_2, x5_3, x5_4, x5_5⟩ := GB.c6 HG 4 rfl
    go_wp2_with fail
    (with_reducible refine (bsqrt_no p sh Hsh hs1 (BV.of (x := la) (y := ha) (WL.at (z := la.z) HI 4 rfl) (WL.at (z := ha.z) HI 5 rfl))).mono ?_)
    rintro e w102 ⟨ssl, Asl, ksl, csl, ssh, Ash, ksh, csh, rfl, -, hv, -, hw, ho⟩
    have hi_ := (((HI.out.step ho).cons (Lib.hid hw)).cons (Lib.hid hv)).step ((Only.refl [] w102).alloc (.cells #[.bool ssl, .slice Asl ksl csl, .int .i64 0, .bool ssh, .slice Ash ksh csh, .int .i64 0] 51))
    have hg_ := (HG.out.step ho).new 51 [.bool ssl, .slice Asl ksl csl, .int .i64 0, .bool ssh, .slice Ash ksh csh, .int .i64 0] (noLimb6 _ _ _ _ _ _ _ _ _ _)
    replace HG := Lib.hid hg_
    replace HI := Lib.hid hi_
    clear hg_ hi_ ho hv hw
    clear x5_0 x5_1 x5_2 x5_3 x5_4 x5_5
    go_wp2_with fail
    go_ret
    exact ⟨rfl, HG.out.only⟩
  · skip
    obtain ⟨x5_0, x5_1, x5_2, x5_3, x5_4, x5_5⟩ := GB.c6 HG 4 rfl
    go_wp2_with fail
    (with_reducible refine (bsqrt_b p hs2 Hsl.out Hsr.out (BV.of (x := la) (y := ha) (WL.at (z := la.z) HI 4 rfl) (WL.at (z := ha.z) HI 5 rfl)) Bla Bha (by omega) (Lib.hid (hT.out.keep HG.out.only))).mono ?_)
    rintro e w102 ⟨ssl, Asl, ksl, csl, ssr, Asr, ksr, csr, rfl, -, hv, -, hw, ho⟩
    have hi_ := (((HI.out.step ho).cons (Lib.hid hw)).cons (Lib.hid hv)).step ((Only.refl [] w102).alloc (.cells #[.bool ssl, .slice Asl ksl csl, .int .i64 sl.e, .bool ssr, .slice Asr ksr csr, .int .i64 sr.e] 51))
    have hg_ := (HG.out.step ho).new 51 [.bool ssl, .slice Asl ksl csl, .int .i64 sl.e, .bool ssr, .slice Asr ksr csr, .int .i64 sr.e] (noLimb6 _ _ _ _ _ _ _ _ _ _)
    replace HG := Lib.hid hg_
    replace HI := Lib.hid hi_
    clear hg_ hi_ ho hv hw
    clear x5_0 x5_1 x5_2 x5_3 x5_4 x5_5
    go_upto_region 18 with fail
    generalize w102.heap.size = gs at *
    generalize w102.alloc _ = ws1 at *
    obtain ⟨x6_0, x6_1, x6_2⟩ := GB.c3 HG 3 rfl
    go_wp2_with fail
    (with_reducible refine (signV_d sgx (WL.dv (x := xx) HI 5 rfl) Hsgx.out).mono ?_)
    rintro e w103 ⟨rfl, ho⟩
    replace HG := Lib.hid (HG.out.step ho)
    replace HI := Lib.hid (HI.out.step ho)
    clear ho
    clear x6_0 x6_1 x6_2
    go_wp2_with fail
    go_ret
    exact ⟨rfl, HG.out.only⟩
  · skip
    obtain ⟨x5_0, x5_1, x5_2, x5_3, x5_4, x5_5⟩ := GB.c6 HG 4 rfl
    go_wp2_with fail
    (with_reducible refine (bsqrt_b p hs2 Hsl.out Hsr.out (BV.of (x := la) (y := ha) (WL.at (z := la.z) HI 4 rfl) (WL.at (z := ha.z) HI 5 rfl)) Bla Bha (by omega) (Lib.hid (hT.out.keep HG.out.only))).mono ?_)
    rintro e w102 ⟨ssl, Asl, ksl, csl, ssr, Asr, ksr, csr, rfl, -, hv, -, hw, ho⟩
    have hi_ := (((HI.out.step ho).cons (Lib.hid hw)).cons (Lib.hid hv)).step ((Only.refl [] w102).alloc (.cells #[.bool ssl, .slice Asl ksl csl, .int .i64 sl.e, .bool ssr, .slice Asr ksr csr, .int .i64 sr.e] 51))
    have hg_ := (HG.out.step ho).new 51 [.bool ssl, .slice Asl ksl csl, .int .i64 sl.e, .bool ssr, .slice Asr ksr csr, .int .i64 sr.e] (noLimb6 _ _ _ _ _ _ _ _ _ _)
    replace HG := Lib.hid hg_
    replace HI := Lib.hid hi_
    clear hg_ hi_ ho hv hw
    clear x5_0 x5_1 x5_2 x5_3 x5_4 x5_5
    go_upto_region 18 with fail
    generalize w102.heap.size = gs at *
    generalize w102.alloc _ = ws1 at *
    obtain ⟨x6_0, x6_1, x6_2⟩ := GB.c3 HG 3 rfl
    go_wp2_with fail
    (with_reducible refine (signV_d sgx (WL.dv (x := xx) HI 5 rfl) Hsgx.out).mono ?_)
    rintro e w103 ⟨rfl, ho⟩
    replace HG := Lib.hid (HG.out.step ho)
    replace HI := Lib.hid (HI.out.step ho)
    clear ho
    clear x6_0 x6_1 x6_2
    obtain ⟨hs4, hs5, hs6⟩ := hs3
    go_upto_region 19 with fail
    apply wp_region_typed2 (by kernel_rfl) [isV _, isV _, isV _, isV _, isV _, isV _, isV _, isV _, isV _, isD ml, isV _, isV _, isV _, isV _, isV _, isV _, isV _, isV _, isV _, isD mr, isV _, isV _, isV _, isV _, isV _] [[], [0], [1], [2], [3], [4], [4, 5], [4], [4, 7], [4, 6, 8], [4], [4, 9, 10], [4, 11], [4, 12], [13], [14], [14, 15], [14], [14, 17], [14, 16, 18], [14], [14, 19, 20], [14, 21], [14, 22], [23]] (by kernel_rfl) (by kernel_rfl)
    case ho =>
      refine owes2_cons (fun wx hox => ?_) ?_
      · skip
        refine withs_plain rfl ?_
        simp only [withs, List.getElem?_cons_zero, List.getElem?_cons_succ, Option.bind, Option.getD]
        repeat (first | (with_reducible refine all_isV ?_) | (with_reducible refine all_isD ?_; intro sx Ax kx cx hvx hwx))
        go_simp
        exact ⟨Only.refl _ _, isV.self _ _⟩
      refine owes2_cons (fun wx hox => ?_) ?_
      · skip
        have hg := Lib.hid (HG.out.step hox)
        have hi := Lib.hid (HI.out.step hox)
        obtain ⟨x7_0, x7_1, x7_2, x7_3, x7_4, x7_5⟩ := GB.c6 hg 0 rfl
        clear hg hi
        refine withs_plain rfl ?_
        simp only [withs, List.getElem?_cons_zero, List.getElem?_cons_succ, Option.bind, Option.getD]
        repeat (first | (with_reducible refine all_isV ?_) | (with_reducible refine all_isD ?_; intro sx Ax kx cx hvx hwx))
        go_simp
        exact ⟨Only.refl _ _, isV.self _ _⟩
      refine owes2_cons (fun wx hox => ?_) ?_
      · skip
        have hg := Lib.hid (HG.out.step hox)
        have hi := Lib.hid (HI.out.step hox)
        have dv_sl := (WL.dv (x := sl) hi 0 rfl)
        clear hg hi
        refine withs_plain rfl ?_
        simp only [withs, List.getElem?_cons_zero, List.getElem?_cons_succ, Option.bind, Option.getD]
        repeat (first | (with_reducible refine all_isV ?_) | (with_reducible refine all_isD ?_; intro sx Ax kx cx hvx hwx))
        go_simp
        (with_reducible exact grow_of (signV_d sgl dv_sl Hsgl.out))
      iterate 2
        refine owes2_cons (fun wx hox => ?_) ?_
        · skip
          refine withs_plain rfl ?_
          simp only [withs, List.getElem?_cons_zero, List.getElem?_cons_succ, Option.bind, Option.getD]
          repeat (first | (with_reducible refine all_isV ?_) | (with_reducible refine all_isD ?_; intro sx Ax kx cx hvx hwx))
          go_simp
          exact ⟨Only.refl _ _, isV.self _ _⟩
      refine owes2_cons (fun wx hox => ?_) ?_
      · skip
        refine withs_guard rfl rfl ?_
        simp only [withs, List.getElem?_cons_zero, List.getElem?_cons_succ, Option.bind, Option.getD]
        repeat (first | (with_reducible refine all_isV ?_) | (with_reducible refine all_isD ?_; intro sx Ax kx cx hvx hwx))
        refine ⟨by kernel_rfl, ?_⟩
        go_simp
        exact ⟨Only.refl _ _, isV.self _ _⟩
      refine owes2_cons (fun wx hox => ?_) ?_
      · skip
        have hg := Lib.hid (HG.out.step hox)
        have hi := Lib.hid (HI.out.step hox)
        obtain ⟨x8_0, x8_1, x8_2, x8_3, x8_4, x8_5⟩ := GB.c6 hg 0 rfl
        clear hg hi
        refine withs_guard rfl rfl ?_
        simp only [withs, List.getElem?_cons_zero, List.getElem?_cons_succ, Option.bind, Option.getD]
        repeat (first | (with_reducible refine all_isV ?_) | (with_reducible refine all_isD ?_; intro sx Ax kx cx hvx hwx))
        refine ⟨by kernel_rfl, ?_⟩
        go_simp
        exact ⟨Only.refl _ _, isV.self _ _⟩
      refine owes2_cons (fun wx hox => ?_) ?_
      · skip
        refine withs_guard rfl rfl ?_
        simp only [withs, List.getElem?_cons_zero, List.getElem?_cons_succ, Option.bind, Option.getD]
        repeat (first | (with_reducible refine all_isV ?_) | (with_reducible refine all_isD ?_; intro sx Ax kx cx hvx hwx))
        refine ⟨by kernel_rfl, ?_⟩
        go_simp
        exact ⟨Only.refl _ _, isV.self _ _⟩
      refine owes2_cons (fun wx hox => ?_) ?_
      · skip
        have hg := Lib.hid (HG.out.step hox)
        have hi := Lib.hid (HI.out.step hox)
        obtain ⟨x9_0, x9_1, x9_2, x9_3, x9_4, x9_5⟩ := GB.c6 hg 0 rfl
        clear hg hi
        refine withs_guard rfl rfl ?_
        simp only [withs, List.getElem?_cons_zero, List.getElem?_cons_succ, Option.bind, Option.getD]
        repeat (first | (with_reducible refine all_isV ?_) | (with_reducible refine all_isD ?_; intro sx Ax kx cx hvx hwx))
        refine ⟨by kernel_rfl, ?_⟩
        go_simp
        exact ⟨Only.refl _ _, isV.self _ _⟩
      refine owes2_cons (fun wx hox => ?_) ?_
      · skip
        have hg := Lib.hid (HG.out.step hox)
        have hi := Lib.hid (HI.out.step hox)
        have dv_sl := (WL.dv (x := sl) hi 0 rfl)
        have htx := Lib.hid (hT.out.keep hg.out.only)
        clear hg hi
        refine withs_guard rfl rfl ?_
        simp only [withs, List.getElem?_cons_zero, List.getElem?_cons_succ, Option.bind, Option.getD]
        repeat (first | (with_reducible refine all_isV ?_) | (with_reducible refine all_isD ?_; intro sx Ax kx cx hvx hwx))
        refine ⟨by kernel_rfl, ?_⟩
        go_simp
        (with_reducible exact grow_d (mulV_d ml Hml.out dv_sl dv_sl Bsl Bsl (by omega) htx))
      refine owes2_cons (fun wx hox => ?_) ?_
      · skip
        have hg := Lib.hid (HG.out.step hox)
        have hi := Lib.hid (HI.out.step hox)
        obtain ⟨x10_0, x10_1, x10_2⟩ := GB.c3 hg 3 rfl
        clear hg hi
        refine withs_guard rfl rfl ?_
        simp only [withs, List.getElem?_cons_zero, List.getElem?_cons_succ, Option.bind, Option.getD]
        repeat (first | (with_reducible refine all_isV ?_) | (with_reducible refine all_isD ?_; intro sx Ax kx cx hvx hwx))
        refine ⟨by kernel_rfl, ?_⟩
        go_simp
        exact ⟨Only.refl _ _, isV.self _ _⟩
      refine owes2_cons (fun wx hox => ?_) ?_
      · skip
        have hg := Lib.hid (HG.out.step hox)
        have hi := Lib.hid (HI.out.step hox)
        have dv_xx := (WL.dv (x := xx) hi 5 rfl)
        clear hg hi
        refine withs_guard rfl rfl ?_
        simp only [withs, List.getElem?_cons_zero, List.getElem?_cons_succ, Option.bind, Option.getD]
        repeat (first | (with_reducible refine all_isV ?_) | (with_reducible refine all_isD ?_; intro sx Ax kx cx hvx hwx))
        refine ⟨by kernel_rfl, ?_⟩
        go_simp
        (with_reducible exact grow_of (cmpV_d (x := ml) (y := xx) cl (DV.of (x := ml) (by assumption)) dv_xx Bml (Lib.hid (Bxx.out.mono hNM)) (by omega) Hcl.out))
      refine owes2_cons (fun wx hox => ?_) ?_
      · skip
        refine withs_guard rfl rfl ?_
        simp only [withs, List.getElem?_cons_zero, List.getElem?_cons_succ, Option.bind, Option.getD]
        repeat (first | (with_reducible refine all_isV ?_) | (with_reducible refine all_isD ?_; intro sx Ax kx cx hvx hwx))
        refine ⟨by kernel_rfl, ?_⟩
        go_simp
        exact ⟨Only.refl _ _, isV.self _ _⟩
      iterate 2
        refine owes2_cons (fun wx hox => ?_) ?_
        · skip
          refine withs_plain rfl ?_
          simp only [withs, List.getElem?_cons_zero, List.getElem?_cons_succ, Option.bind, Option.getD]
          repeat (first | (with_reducible refine all_isV ?_) | (with_reducible refine all_isD ?_; intro sx Ax kx cx hvx hwx))
          go_simp
          exact ⟨Only.refl _ _, isV.self _ _⟩
      refine owes2_cons (fun wx hox => ?_) ?_
      · skip
        refine withs_guard rfl rfl ?_
        simp only [withs, List.getElem?_cons_zero, List.getElem?_cons_succ, Option.bind, Option.getD]
        repeat (first | (with_reducible refine all_isV ?_) | (with_reducible refine all_isD ?_; intro sx Ax kx cx hvx hwx))
        refine ⟨by kernel_rfl, ?_⟩
        go_simp
        exact ⟨Only.refl _ _, isV.self _ _⟩
      refine owes2_cons (fun wx hox => ?_) ?_
      · skip
        have hg := Lib.hid (HG.out.step hox)
        have hi := Lib.hid (HI.out.step hox)
        obtain ⟨x11_0, x11_1, x11_2, x11_3, x11_4, x11_5⟩ := GB.c6 hg 0 rfl
        clear hg hi
        refine withs_guard rfl rfl ?_
        simp only [withs, List.getElem?_cons_zero, List.getElem?_cons_succ, Option.bind, Option.getD]
        repeat (first | (with_reducible refine all_isV ?_) | (with_reducible refine all_isD ?_; intro sx Ax kx cx hvx hwx))
        refine ⟨by kernel_rfl, ?_⟩
        go_simp
        exact ⟨Only.refl _ _, isV.self _ _⟩
      refine owes2_cons (fun wx hox => ?_) ?_
      · skip
        refine withs_guard rfl rfl ?_
        simp only [withs, List.getElem?_cons_zero, List.getElem?_cons_succ, Option.bind, Option.getD]
        repeat (first | (with_reducible refine all_isV ?_) | (with_reducible refine all_isD ?_; intro sx Ax kx cx hvx hwx))
        refine ⟨by kernel_rfl, ?_⟩
        go_simp
        exact ⟨Only.refl _ _, isV.self _ _⟩
      refine owes2_cons (fun wx hox => ?_) ?_
      · skip
        have hg := Lib.hid (HG.out.step hox)
        have hi := Lib.hid (HI.out.step hox)
        obtain ⟨x12_0, x12_1, x12_2, x12_3, x12_4, x12_5⟩ := GB.c6 hg 0 rfl
        clear hg hi
        refine withs_guard rfl rfl ?_
        simp only [withs, List.getElem?_cons_zero, List.getElem?_cons_succ, Option.bind, Option.getD]
        repeat (first | (with_reducible refine all_isV ?_) | (with_reducible refine all_isD ?_; intro sx Ax kx cx hvx hwx))
        refine ⟨by kernel_rfl, ?_⟩
        go_simp
        exact ⟨Only.refl _ _, isV.self _ _⟩
      refine owes2_cons (fun wx hox => ?_) ?_
      · skip
        have hg := Lib.hid (HG.out.step hox)
        have hi := Lib.hid (HI.out.step hox)
        have dv_sr := (WL.dv (x := sr) hi 1 rfl)
        have htx := Lib.hid (hT.out.keep hg.out.only)
        clear hg hi
        refine withs_guard rfl rfl ?_
        simp only [withs, List.getElem?_cons_zero, List.getElem?_cons_succ, Option.bind, Option.getD]
        repeat (first | (with_reducible refine all_isV ?_) | (with_reducible refine all_isD ?_; intro sx Ax kx cx hvx hwx))
        refine ⟨by kernel_rfl, ?_⟩
        go_simp
        (with_reducible exact grow_d (mulV_d mr Hmr.out dv_sr dv_sr Bsr Bsr (by omega) htx))
      refine owes2_cons (fun wx hox => ?_) ?_
      · skip
        have hg := Lib.hid (HG.out.step hox)
        have hi := Lib.hid (HI.out.step hox)
        obtain ⟨x13_0, x13_1, x13_2⟩ := GB.c3 hg 3 rfl
        clear hg hi
        refine withs_guard rfl rfl ?_
        simp only [withs, List.getElem?_cons_zero, List.getElem?_cons_succ, Option.bind, Option.getD]
        repeat (first | (with_reducible refine all_isV ?_) | (with_reducible refine all_isD ?_; intro sx Ax kx cx hvx hwx))
        refine ⟨by kernel_rfl, ?_⟩
        go_simp
        exact ⟨Only.refl _ _, isV.self _ _⟩
      refine owes2_cons (fun wx hox => ?_) ?_
      · skip
        have hg := Lib.hid (HG.out.step hox)
        have hi := Lib.hid (HI.out.step hox)
        have dv_xx := (WL.dv (x := xx) hi 5 rfl)
        clear hg hi
        refine withs_guard rfl rfl ?_
        simp only [withs, List.getElem?_cons_zero, List.getElem?_cons_succ, Option.bind, Option.getD]
        repeat (first | (with_reducible refine all_isV ?_) | (with_reducible refine all_isD ?_; intro sx Ax kx cx hvx hwx))
        refine ⟨by kernel_rfl, ?_⟩
        go_simp
        (with_reducible exact grow_of (cmpV_d (x := mr) (y := xx) cr (DV.of (x := mr) (by assumption)) dv_xx Bmr (Lib.hid (Bxx.out.mono hNM)) (by omega) Hcr.out))
      refine owes2_cons (fun wx hox => ?_) ?_
      · skip
        refine withs_guard rfl rfl ?_
        simp only [withs, List.getElem?_cons_zero, List.getElem?_cons_succ, Option.bind, Option.getD]
        repeat (first | (with_reducible refine all_isV ?_) | (with_reducible refine all_isD ?_; intro sx Ax kx cx hvx hwx))
        refine ⟨by kernel_rfl, ?_⟩
        go_simp
        exact ⟨Only.refl _ _, isV.self _ _⟩
      iterate 2
        refine owes2_cons (fun wx hox => ?_) ?_
        · skip
          refine withs_plain rfl ?_
          simp only [withs, List.getElem?_cons_zero, List.getElem?_cons_succ, Option.bind, Option.getD]
          repeat (first | (with_reducible refine all_isV ?_) | (with_reducible refine all_isD ?_; intro sx Ax kx cx hvx hwx))
          go_simp
          exact ⟨Only.refl _ _, isV.self _ _⟩
      exact owes2_nil
    case hl =>
      repeat (refine List.forall_mem_cons.2 ⟨?_, ?_⟩; first | exact isV.lasts _ | exact isD.lasts _)
      exact fun _ h => (by cases h)
    intro wx hox
    refine withs_of (by simp only [List.length, List.range, List.range.loop]; exact rfl) ?_
    simp only [withs, List.getElem?_cons_zero, List.getElem?_cons_succ, Option.bind, Option.getD]
    repeat (first | (with_reducible refine all_isV ?_) | (with_reducible refine all_isD ?_; intro sx Ax kx cx hvx hwx))
    go_simp
    replace HG := Lib.hid (HG.out.step hox)
    clear hox
    go_wp2_with fail
    go_ret
    exact ⟨rfl, HG.out.only⟩

end Go.Proofs.YtgiejjpemhceiaaDoor
