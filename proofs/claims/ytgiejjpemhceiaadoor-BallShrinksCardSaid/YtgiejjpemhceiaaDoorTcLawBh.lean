/-
  BallShrinks: the walk.
-/
import Derived.Test.YtgiejjpemhceiaaDoorTcBlW
import Derived.Test.YtgiejjpemhceiaaDoorTcBlM
import Derived.Test.YtgiejjpemhceiaaDoorTcBlP
namespace Go.Proofs.YtgiejjpemhceiaaDoor
set_option linter.unusedSimpArgs false
open Go.RowKit
theorem KB.c12 {w0 w : World} {L : List EB} (h : KB w0 w L) (i : Nat) {g : Nat} {t : TypeId} {a b c d e f a' b' c' d' e' f' : Value} (hi : L[i]? = some ⟨g, t, [a, b, c, d, e, f, a', b', c', d', e', f']⟩) :
    w.cell? ⟨g, 0, none⟩ = some a ∧ w.cell? ⟨g, 1, none⟩ = some b ∧ w.cell? ⟨g, 2, none⟩ = some c ∧ w.cell? ⟨g, 3, none⟩ = some d ∧ w.cell? ⟨g, 4, none⟩ = some e ∧ w.cell? ⟨g, 5, none⟩ = some f ∧ w.cell? ⟨g, 6, none⟩ = some a' ∧ w.cell? ⟨g, 7, none⟩ = some b' ∧ w.cell? ⟨g, 8, none⟩ = some c' ∧ w.cell? ⟨g, 9, none⟩ = some d' ∧ w.cell? ⟨g, 10, none⟩ = some e' ∧ w.cell? ⟨g, 11, none⟩ = some f' :=
  ⟨(h.blk i hi).cell 0, (h.blk i hi).cell 1, (h.blk i hi).cell 2, (h.blk i hi).cell 3, (h.blk i hi).cell 4, (h.blk i hi).cell 5, (h.blk i hi).cell 6, (h.blk i hi).cell 7, (h.blk i hi).cell 8, (h.blk i hi).cell 9, (h.blk i hi).cell 10, (h.blk i hi).cell 11⟩
theorem YB.start_at {w0 w : World} {L : List EB} (h : KB w0 w L) : YB w0 w [] := (YB.start w0).step h.only
set_option maxHeartbeats 8000000 in
set_option maxRecDepth 100000 in
theorem bshr_out1 (n1 n2 n3 n4 : Bool) (A1 A2 A3 A4 : Option Addr) (L1 L2 L3 L4 : List Nat) (c1 c2 c3 c4 : Nat) (e1 e2 e3 e4 : Int) (p : Int) (w : World) (hT : Hid (Tab6 w)) (hl : lightN [⟨n1, A1, L1.length, c1, e1⟩, ⟨n2, A2, L2.length, c2, e2⟩, ⟨n3, A3, L3.length, c3, e3⟩, ⟨n4, A4, L4.length, c4, e4⟩] = false) :
    Calls Tryd.prog 5 #[.agg #[.bool n1, .slice A1 L1.length c1, .int .i64 e1, .bool n2, .slice A2 L2.length c2, .int .i64 e2, .bool n3, .slice A3 L3.length c3, .int .i64 e3, .bool n4, .slice A4 L4.length c4, .int .i64 e4], .int .i64 p] w fun e w' => e = .returned (.bool true) ∧ Only [] w w' := by
  have HL := Lib.hid hl
  clear hl
  have hlv := light3_v (w := w.alloc (.cells #[.bool n1, .slice A1 L1.length c1, .int .i64 e1, .bool n2, .slice A2 L2.length c2, .int .i64 e2, .bool n3, .slice A3 L3.length c3, .int .i64 e3, .bool n4, .slice A4 L4.length c4, .int .i64 e4] 58)) [⟨n1, A1, L1.length, c1, e1⟩, ⟨n2, A2, L2.length, c2, e2⟩, ⟨n3, A3, L3.length, c3, e3⟩, ⟨n4, A4, L4.length, c4, e4⟩] 4 (Lib.hid rfl) (by omega)
  rw [HL.out] at hlv
  simp only [flatN, List.flatMap_cons, List.flatMap_nil, List.cons_append, List.nil_append, World.size_alloc] at hlv
  have hk := (KB.start w).new 58 [.bool n1, .slice A1 L1.length c1, .int .i64 e1, .bool n2, .slice A2 L2.length c2, .int .i64 e2, .bool n3, .slice A3 L3.length c3, .int .i64 e3, .bool n4, .slice A4 L4.length c4, .int .i64 e4]
  have HK := Lib.hid hk
  have HLV := Lib.hid hlv
  clear hlv hk HL
  obtain ⟨i0, i1, i2, i3, i4, i5, i6, i7, i8, i9, i10, i11⟩ := HK.out.c12 0 rfl
  go_enter Tryd.func5, Tryd.ntmps5
  go_wp2_with fail
  (with_reducible refine HLV.out.mono ?_)
  rintro e w1 ⟨rfl, ho⟩
  replace HK := Lib.hid (HK.out.step ho)
  clear ho
  clear i0 i1 i2 i3 i4 i5 i6 i7 i8 i9 i10 i11
  go_wp2_with fail
  (with_reducible refine (alive5_any _ (Lib.hid (hT.out.keep HK.out.only))).mono ?_)
  rintro e w2 ⟨rfl, ho⟩
  replace HK := Lib.hid (HK.out.step ho)
  clear ho
  go_wp2_with fail
  go_ret
  exact ⟨rfl, HK.out.only⟩
set_option maxHeartbeats 8000000 in
set_option maxRecDepth 100000 in
theorem bshr_out2 (n1 n2 n3 n4 : Bool) (A1 A2 A3 A4 : Option Addr) (L1 L2 L3 L4 : List Nat) (c1 c2 c3 c4 : Nat) (e1 e2 e3 e4 : Int) (p : Int) (w : World) (hT : Hid (Tab6 w)) (hl : lightN [⟨n1, A1, L1.length, c1, e1⟩, ⟨n2, A2, L2.length, c2, e2⟩, ⟨n3, A3, L3.length, c3, e3⟩, ⟨n4, A4, L4.length, c4, e4⟩] = true) (hp : p < 1) :
    Calls Tryd.prog 5 #[.agg #[.bool n1, .slice A1 L1.length c1, .int .i64 e1, .bool n2, .slice A2 L2.length c2, .int .i64 e2, .bool n3, .slice A3 L3.length c3, .int .i64 e3, .bool n4, .slice A4 L4.length c4, .int .i64 e4], .int .i64 p] w fun e w' => e = .returned (.bool true) ∧ Only [] w w' := by
  have HL := Lib.hid hl
  clear hl
  have hlv := light3_v (w := w.alloc (.cells #[.bool n1, .slice A1 L1.length c1, .int .i64 e1, .bool n2, .slice A2 L2.length c2, .int .i64 e2, .bool n3, .slice A3 L3.length c3, .int .i64 e3, .bool n4, .slice A4 L4.length c4, .int .i64 e4] 58)) [⟨n1, A1, L1.length, c1, e1⟩, ⟨n2, A2, L2.length, c2, e2⟩, ⟨n3, A3, L3.length, c3, e3⟩, ⟨n4, A4, L4.length, c4, e4⟩] 4 (Lib.hid rfl) (by omega)
  rw [HL.out] at hlv
  simp only [flatN, List.flatMap_cons, List.flatMap_nil, List.cons_append, List.nil_append, World.size_alloc] at hlv
  have hk := (KB.start w).new 58 [.bool n1, .slice A1 L1.length c1, .int .i64 e1, .bool n2, .slice A2 L2.length c2, .int .i64 e2, .bool n3, .slice A3 L3.length c3, .int .i64 e3, .bool n4, .slice A4 L4.length c4, .int .i64 e4]
  have HK := Lib.hid hk
  have HLV := Lib.hid hlv
  clear hlv hk HL
  obtain ⟨i0, i1, i2, i3, i4, i5, i6, i7, i8, i9, i10, i11⟩ := HK.out.c12 0 rfl
  go_enter Tryd.func5, Tryd.ntmps5
  go_wp2_with fail
  (with_reducible refine HLV.out.mono ?_)
  rintro e w1 ⟨rfl, ho⟩
  replace HK := Lib.hid (HK.out.step ho)
  clear ho
  clear i0 i1 i2 i3 i4 i5 i6 i7 i8 i9 i10 i11
  go_wp2_with fail
  (with_reducible refine (alive5_any _ (Lib.hid (hT.out.keep HK.out.only))).mono ?_)
  rintro e w2 ⟨rfl, ho⟩
  replace HK := Lib.hid (HK.out.step ho)
  clear ho
  go_wp2_with fail
  go_ret
  exact ⟨rfl, HK.out.only⟩
set_option maxHeartbeats 8000000 in
set_option maxRecDepth 100000 in
theorem bshr_out3 (n1 n2 n3 n4 : Bool) (A1 A2 A3 A4 : Option Addr) (L1 L2 L3 L4 : List Nat) (c1 c2 c3 c4 : Nat) (e1 e2 e3 e4 : Int) (p : Int) (w : World) (hT : Hid (Tab6 w)) (hl : lightN [⟨n1, A1, L1.length, c1, e1⟩, ⟨n2, A2, L2.length, c2, e2⟩, ⟨n3, A3, L3.length, c3, e3⟩, ⟨n4, A4, L4.length, c4, e4⟩] = true) (hp : ¬ p < 1) (hp2 : 200 < p) :
    Calls Tryd.prog 5 #[.agg #[.bool n1, .slice A1 L1.length c1, .int .i64 e1, .bool n2, .slice A2 L2.length c2, .int .i64 e2, .bool n3, .slice A3 L3.length c3, .int .i64 e3, .bool n4, .slice A4 L4.length c4, .int .i64 e4], .int .i64 p] w fun e w' => e = .returned (.bool true) ∧ Only [] w w' := by
  have HL := Lib.hid hl
  clear hl
  have hlv := light3_v (w := w.alloc (.cells #[.bool n1, .slice A1 L1.length c1, .int .i64 e1, .bool n2, .slice A2 L2.length c2, .int .i64 e2, .bool n3, .slice A3 L3.length c3, .int .i64 e3, .bool n4, .slice A4 L4.length c4, .int .i64 e4] 58)) [⟨n1, A1, L1.length, c1, e1⟩, ⟨n2, A2, L2.length, c2, e2⟩, ⟨n3, A3, L3.length, c3, e3⟩, ⟨n4, A4, L4.length, c4, e4⟩] 4 (Lib.hid rfl) (by omega)
  rw [HL.out] at hlv
  simp only [flatN, List.flatMap_cons, List.flatMap_nil, List.cons_append, List.nil_append, World.size_alloc] at hlv
  have hk := (KB.start w).new 58 [.bool n1, .slice A1 L1.length c1, .int .i64 e1, .bool n2, .slice A2 L2.length c2, .int .i64 e2, .bool n3, .slice A3 L3.length c3, .int .i64 e3, .bool n4, .slice A4 L4.length c4, .int .i64 e4]
  have HK := Lib.hid hk
  have HLV := Lib.hid hlv
  clear hlv hk HL
  obtain ⟨i0, i1, i2, i3, i4, i5, i6, i7, i8, i9, i10, i11⟩ := HK.out.c12 0 rfl
  go_enter Tryd.func5, Tryd.ntmps5
  go_wp2_with fail
  (with_reducible refine HLV.out.mono ?_)
  rintro e w1 ⟨rfl, ho⟩
  replace HK := Lib.hid (HK.out.step ho)
  clear ho
  clear i0 i1 i2 i3 i4 i5 i6 i7 i8 i9 i10 i11
  go_wp2_with fail
  (with_reducible refine (alive5_any _ (Lib.hid (hT.out.keep HK.out.only))).mono ?_)
  rintro e w2 ⟨rfl, ho⟩
  replace HK := Lib.hid (HK.out.step ho)
  clear ho
  go_wp2_with fail
  go_ret
  exact ⟨rfl, HK.out.only⟩
set_option maxHeartbeats 8000000 in
set_option maxRecDepth 100000 in
theorem bshr_in (n1 n2 n3 n4 : Bool) (A1 A2 A3 A4 : Option Addr) (L1 L2 L3 L4 : List Nat) (c1 c2 c3 c4 : Nat) (x1 x2 x3 x4 la ha lb hb xa yb XAl XAh AAl AAh XSl XSh ASl ASh XMl XMh AMl AMh NAl NAh NMl NMh : Dy) (p p9 cm1 cm2 : Int) (w : World) (N M : Nat) (hN : N ≤ 8000) (hM : M ≤ 200000) (hp1 : 1 ≤ p) (hp2 : p ≤ 200) (hp9 : IntKind.i64.wrap (p + 9) = p9)
    (HZ1 : Hid (sg n1 (val L1) = x1.z)) (H1 : Hid (LimbsIn w A1 L1)) (hl1 : (L1.length : Int) ≤ 40) (he1 : -3000 ≤ x1.e ∧ x1.e ≤ 3000) (BX1 : Hid (Bnd N x1)) (HZ2 : Hid (sg n2 (val L2) = x2.z)) (H2 : Hid (LimbsIn w A2 L2)) (hl2 : (L2.length : Int) ≤ 40) (he2 : -3000 ≤ x2.e ∧ x2.e ≤ 3000) (BX2 : Hid (Bnd N x2)) (HZ3 : Hid (sg n3 (val L3) = x3.z)) (H3 : Hid (LimbsIn w A3 L3)) (hl3 : (L3.length : Int) ≤ 40) (he3 : -3000 ≤ x3.e ∧ x3.e ≤ 3000) (BX3 : Hid (Bnd N x3)) (HZ4 : Hid (sg n4 (val L4) = x4.z)) (H4 : Hid (LimbsIn w A4 L4)) (hl4 : (L4.length : Int) ≤ 40) (he4 : -3000 ≤ x4.e ∧ x4.e ≤ 3000) (BX4 : Hid (Bnd N x4))
    (Hcm1 : Hid (cmpQ x1.q x2.q = cm1)) (Hcm1L : Hid ((0 < cm1 → x2 = la ∧ x1 = ha) ∧ (¬ 0 < cm1 → x1 = la ∧ x2 = ha))) (Hcm2 : Hid (cmpQ x3.q x4.q = cm2)) (Hcm2L : Hid ((0 < cm2 → x4 = lb ∧ x3 = hb) ∧ (¬ 0 < cm2 → x3 = lb ∧ x4 = hb)))
    (Bla : Hid (Bnd N la)) (Bha : Hid (Bnd N ha)) (Blb : Hid (Bnd N lb)) (Bhb : Hid (Bnd N hb)) (Bxa : Hid (Bnd N xa)) (Byb : Hid (Bnd N yb)) (Hxa : Hid (nrm la.z la.e = xa)) (Hyb : Hid (nrm hb.z hb.e = yb))
    (HXAl : Hid (rndD (widthP p) false (dAdd xa yb) = XAl)) (HXAh : Hid (rndD (widthP p) true (dAdd xa yb) = XAh)) (BXAl : Hid (Bnd M XAl)) (BXAh : Hid (Bnd M XAh))
    (HAAl : Hid (rndD (widthP p) false (dAdd la lb) = AAl)) (HAAh : Hid (rndD (widthP p) true (dAdd ha hb) = AAh)) (BAAl : Hid (Bnd M AAl)) (BAAh : Hid (Bnd M AAh))
    (HXSl : Hid (rndD (widthP p) false (dSub xa yb) = XSl)) (HXSh : Hid (rndD (widthP p) true (dSub xa yb) = XSh)) (BXSl : Hid (Bnd M XSl)) (BXSh : Hid (Bnd M XSh))
    (HASl : Hid (rndD (widthP p) false (dSub la hb) = ASl)) (HASh : Hid (rndD (widthP p) true (dSub ha lb) = ASh)) (BASl : Hid (Bnd M ASl)) (BASh : Hid (Bnd M ASh))
    (HXMl : Hid (rndD (widthP p) false (mulLo xa xa yb yb) = XMl)) (HXMh : Hid (rndD (widthP p) true (mulHi xa xa yb yb) = XMh)) (BXMl : Hid (Bnd M XMl)) (BXMh : Hid (Bnd M XMh))
    (HAMl : Hid (rndD (widthP p) false (mulLo la ha lb hb) = AMl)) (HAMh : Hid (rndD (widthP p) true (mulHi la ha lb hb) = AMh)) (BAMl : Hid (Bnd M AMl)) (BAMh : Hid (Bnd M AMh))
    (HNAl : Hid (rndD (widthP p9) false (dAdd la lb) = NAl)) (HNAh : Hid (rndD (widthP p9) true (dAdd ha hb) = NAh)) (BNAl : Hid (Bnd M NAl)) (BNAh : Hid (Bnd M NAh))
    (HNMl : Hid (rndD (widthP p9) false (mulLo la ha lb hb) = NMl)) (HNMh : Hid (rndD (widthP p9) true (mulHi la ha lb hb) = NMh)) (BNMl : Hid (Bnd M NMl)) (BNMh : Hid (Bnd M NMh))
    (IXAAA : AAl.q ≤ XAl.q ∧ XAh.q ≤ AAh.q)
    (IXSAS : ASl.q ≤ XSl.q ∧ XSh.q ≤ ASh.q)
    (IXMAM : AMl.q ≤ XMl.q ∧ XMh.q ≤ AMh.q)
    (INAAA : AAl.q ≤ NAl.q ∧ NAh.q ≤ AAh.q)
    (INMAM : AMl.q ≤ NMl.q ∧ NMh.q ≤ AMh.q) (hT : Hid (Tab6 w))
    (ql qh rl rh : Dy) (Hql : Hid (qLo (widthP p) la ha lb hb = ql)) (Hqh : Hid (qHi (widthP p) la ha lb hb = qh)) (Hrl : Hid (qLo (widthP p) xa xa yb yb = rl)) (Hrh : Hid (qHi (widthP p) xa xa yb yb = rh)) (Bql : Hid (Bnd M ql)) (Bqh : Hid (Bnd M qh)) (Brl : Hid (Bnd M rl)) (Brh : Hid (Bnd M rh))
    (HQ : Hid ((lb.z.sign = hb.z.sign ∧ lb.z ≠ 0 ∧ yb.z ≠ 0 ∧ ql.q ≤ rl.q ∧ rh.q ≤ qh.q) ∨ ((lb.z.sign = hb.z.sign → lb.z.sign = 0) ∧ yb.z ≠ 0) ∨ ((lb.z.sign = hb.z.sign → lb.z.sign = 0) ∧ yb.z.sign = 0))) :
    Calls Tryd.prog 5 #[.agg #[.bool n1, .slice A1 L1.length c1, .int .i64 x1.e, .bool n2, .slice A2 L2.length c2, .int .i64 x2.e, .bool n3, .slice A3 L3.length c3, .int .i64 x3.e, .bool n4, .slice A4 L4.length c4, .int .i64 x4.e], .int .i64 p] w fun e w' => e = .returned (.bool true) ∧ Only [] w w' := by
  have HL : Hid (lightN [⟨n1, A1, L1.length, c1, x1.e⟩, ⟨n2, A2, L2.length, c2, x2.e⟩, ⟨n3, A3, L3.length, c3, x3.e⟩, ⟨n4, A4, L4.length, c4, x4.e⟩] = true) := by
    show _ = _
    simp only [lightN, List.all_cons, List.all_nil, NR.ok, Bool.and_true, Bool.and_eq_true, decide_eq_true_eq]
    omega
  have hlv := light3_v (w := w.alloc (.cells #[.bool n1, .slice A1 L1.length c1, .int .i64 x1.e, .bool n2, .slice A2 L2.length c2, .int .i64 x2.e, .bool n3, .slice A3 L3.length c3, .int .i64 x3.e, .bool n4, .slice A4 L4.length c4, .int .i64 x4.e] 58)) [⟨n1, A1, L1.length, c1, x1.e⟩, ⟨n2, A2, L2.length, c2, x2.e⟩, ⟨n3, A3, L3.length, c3, x3.e⟩, ⟨n4, A4, L4.length, c4, x4.e⟩] 4 (Lib.hid rfl) (by omega)
  rw [HL.out] at hlv
  simp only [flatN, List.flatMap_cons, List.flatMap_nil, List.cons_append, List.nil_append, World.size_alloc] at hlv
  have hk := (KB.start w).new 58 [.bool n1, .slice A1 L1.length c1, .int .i64 x1.e, .bool n2, .slice A2 L2.length c2, .int .i64 x2.e, .bool n3, .slice A3 L3.length c3, .int .i64 x3.e, .bool n4, .slice A4 L4.length c4, .int .i64 x4.e]
  have HK := Lib.hid hk
  have HLV := Lib.hid hlv
  replace H1 := Lib.hid (H1.out.only hk.only)
  replace H2 := Lib.hid (H2.out.only hk.only)
  replace H3 := Lib.hid (H3.out.only hk.only)
  replace H4 := Lib.hid (H4.out.only hk.only)
  clear hlv hk HL he1 he2 he3 he4
  have q1 : ¬ p < 1 := by omega
  have q2 : ¬ 200 < p := by omega
  obtain ⟨i0, i1, i2, i3, i4, i5, i6, i7, i8, i9, i10, i11⟩ := HK.out.c12 0 rfl
  go_enter Tryd.func5, Tryd.ntmps5
  go_wp2_with fail
  (with_reducible refine HLV.out.mono ?_)
  rintro e w1 ⟨rfl, ho⟩
  replace HK := Lib.hid (HK.out.step ho)
  replace H1 := Lib.hid (H1.out.only ho)
  replace H2 := Lib.hid (H2.out.only ho)
  replace H3 := Lib.hid (H3.out.only ho)
  replace H4 := Lib.hid (H4.out.only ho)
  clear ho
  clear i0 i1 i2 i3 i4 i5 i6 i7 i8 i9 i10 i11
  go_wp2_with fail
  (with_reducible refine (alive5_any _ (Lib.hid (hT.out.keep HK.out.only))).mono ?_)
  rintro e w2 ⟨rfl, ho⟩
  replace HK := Lib.hid (HK.out.step ho)
  replace H1 := Lib.hid (H1.out.only ho)
  replace H2 := Lib.hid (H2.out.only ho)
  replace H3 := Lib.hid (H3.out.only ho)
  replace H4 := Lib.hid (H4.out.only ho)
  clear ho
  have hal : ∀ w : World, (Instr.alloc 51 true (.tuple #[])).run Tryd.prog w = .ok (.pointer (some ⟨w.heap.size, 0, none⟩)) (w.alloc (.cells #[.bool false, .slice none 0 0, .int .i64 0, .bool false, .slice none 0 0, .int .i64 0] 51)) := fun _ => by kernel_rfl
  obtain ⟨i0, i1, i2, i3, i4, i5, i6, i7, i8, i9, i10, i11⟩ := HK.out.c12 0 rfl
  go_upto_region 3 with fail
  clear q1 q2
  clear i0 i1 i2 i3 i4 i5 i6 i7 i8 i9 i10 i11
  apply wp_region_typed_tail3 12 [10, 11] 51 #[.bool false, .slice none 0 0, .int .i64 0, .bool false, .slice none 0 0, .int .i64 0] (by kernel_rfl) (by kernel_rfl) hal (by kernel_rfl) [isV _, isV _, isV _, isV _, isB la ha, isV _, isV _, isV _, isV _, isB lb hb, isPtr w2 51 [.bool false, .slice none 0 0, .int .i64 0, .bool false, .slice none 0 0, .int .i64 0], isPtr w2 51 [.bool false, .slice none 0 0, .int .i64 0, .bool false, .slice none 0 0, .int .i64 0]] [[], [0], [], [2], [1, 3], [], [5], [], [7], [6, 8], [], []] (by kernel_rfl) (by kernel_rfl) (by kernel_rfl)
  case ho =>
    simp only [List.take_succ_cons, List.take_zero]
    refine owes2_cons (fun wx hox => ?_) ?_
    · skip
      skip
      refine withs_plain rfl ?_
      simp only [withs, List.getElem?_cons_zero, List.getElem?_cons_succ, Option.bind, Option.getD]
      repeat (first | (with_reducible refine all_isV ?_) | (with_reducible refine all_isB ?_; intro sx Ax kx cx tx Bx mx dx hvx hwx))
      go_simp
      exact ⟨Only.refl _ _, isV.self _ _⟩
    refine owes2_cons (fun wx hox => ?_) ?_
    · skip
      have hk := HK.out.step hox
      obtain ⟨i0, i1, i2, i3, i4, i5, i6, i7, i8, i9, i10, i11⟩ := hk.c12 0 rfl
      clear hk
      refine withs_plain rfl ?_
      simp only [withs, List.getElem?_cons_zero, List.getElem?_cons_succ, Option.bind, Option.getD]
      repeat (first | (with_reducible refine all_isV ?_) | (with_reducible refine all_isB ?_; intro sx Ax kx cx tx Bx mx dx hvx hwx))
      go_simp
      exact ⟨Only.refl _ _, isV.self _ _⟩
    refine owes2_cons (fun wx hox => ?_) ?_
    · skip
      skip
      refine withs_plain rfl ?_
      simp only [withs, List.getElem?_cons_zero, List.getElem?_cons_succ, Option.bind, Option.getD]
      repeat (first | (with_reducible refine all_isV ?_) | (with_reducible refine all_isB ?_; intro sx Ax kx cx tx Bx mx dx hvx hwx))
      go_simp
      exact ⟨Only.refl _ _, isV.self _ _⟩
    refine owes2_cons (fun wx hox => ?_) ?_
    · skip
      have hk := HK.out.step hox
      obtain ⟨i0, i1, i2, i3, i4, i5, i6, i7, i8, i9, i10, i11⟩ := hk.c12 0 rfl
      clear hk
      refine withs_plain rfl ?_
      simp only [withs, List.getElem?_cons_zero, List.getElem?_cons_succ, Option.bind, Option.getD]
      repeat (first | (with_reducible refine all_isV ?_) | (with_reducible refine all_isB ?_; intro sx Ax kx cx tx Bx mx dx hvx hwx))
      go_simp
      exact ⟨Only.refl _ _, isV.self _ _⟩
    refine owes2_cons (fun wx hox => ?_) ?_
    · skip
      have hk := HK.out.step hox
      obtain ⟨i0, i1, i2, i3, i4, i5, i6, i7, i8, i9, i10, i11⟩ := hk.c12 0 rfl
      clear hk
      refine withs_plain rfl ?_
      simp only [withs, List.getElem?_cons_zero, List.getElem?_cons_succ, Option.bind, Option.getD]
      repeat (first | (with_reducible refine all_isV ?_) | (with_reducible refine all_isB ?_; intro sx Ax kx cx tx Bx mx dx hvx hwx))
      go_simp
      (with_reducible exact grow_bv (of_b n1 n2 A1 A2 L1 L2 c1 c2 x1 x2 la ha _ N HZ1 HZ2 (Lib.hid (H1.out.only hox)) (Lib.hid (H2.out.only hox)) hl1 hl2 BX1 BX2 (by omega) cm1 Hcm1.out (Lib.hid ⟨Hcm1L.out.1, fun h => Hcm1L.out.2 (by omega)⟩)))
    refine owes2_cons (fun wx hox => ?_) ?_
    · skip
      skip
      refine withs_plain rfl ?_
      simp only [withs, List.getElem?_cons_zero, List.getElem?_cons_succ, Option.bind, Option.getD]
      repeat (first | (with_reducible refine all_isV ?_) | (with_reducible refine all_isB ?_; intro sx Ax kx cx tx Bx mx dx hvx hwx))
      go_simp
      exact ⟨Only.refl _ _, isV.self _ _⟩
    refine owes2_cons (fun wx hox => ?_) ?_
    · skip
      have hk := HK.out.step hox
      obtain ⟨i0, i1, i2, i3, i4, i5, i6, i7, i8, i9, i10, i11⟩ := hk.c12 0 rfl
      clear hk
      refine withs_plain rfl ?_
      simp only [withs, List.getElem?_cons_zero, List.getElem?_cons_succ, Option.bind, Option.getD]
      repeat (first | (with_reducible refine all_isV ?_) | (with_reducible refine all_isB ?_; intro sx Ax kx cx tx Bx mx dx hvx hwx))
      go_simp
      exact ⟨Only.refl _ _, isV.self _ _⟩
    refine owes2_cons (fun wx hox => ?_) ?_
    · skip
      skip
      refine withs_plain rfl ?_
      simp only [withs, List.getElem?_cons_zero, List.getElem?_cons_succ, Option.bind, Option.getD]
      repeat (first | (with_reducible refine all_isV ?_) | (with_reducible refine all_isB ?_; intro sx Ax kx cx tx Bx mx dx hvx hwx))
      go_simp
      exact ⟨Only.refl _ _, isV.self _ _⟩
    refine owes2_cons (fun wx hox => ?_) ?_
    · skip
      have hk := HK.out.step hox
      obtain ⟨i0, i1, i2, i3, i4, i5, i6, i7, i8, i9, i10, i11⟩ := hk.c12 0 rfl
      clear hk
      refine withs_plain rfl ?_
      simp only [withs, List.getElem?_cons_zero, List.getElem?_cons_succ, Option.bind, Option.getD]
      repeat (first | (with_reducible refine all_isV ?_) | (with_reducible refine all_isB ?_; intro sx Ax kx cx tx Bx mx dx hvx hwx))
      go_simp
      exact ⟨Only.refl _ _, isV.self _ _⟩
    refine owes2_cons (fun wx hox => ?_) ?_
    · skip
      have hk := HK.out.step hox
      obtain ⟨i0, i1, i2, i3, i4, i5, i6, i7, i8, i9, i10, i11⟩ := hk.c12 0 rfl
      clear hk
      refine withs_plain rfl ?_
      simp only [withs, List.getElem?_cons_zero, List.getElem?_cons_succ, Option.bind, Option.getD]
      repeat (first | (with_reducible refine all_isV ?_) | (with_reducible refine all_isB ?_; intro sx Ax kx cx tx Bx mx dx hvx hwx))
      go_simp
      (with_reducible exact grow_bv (of_b n3 n4 A3 A4 L3 L4 c3 c4 x3 x4 lb hb _ N HZ3 HZ4 (Lib.hid (H3.out.only hox)) (Lib.hid (H4.out.only hox)) hl3 hl4 BX3 BX4 (by omega) cm2 Hcm2.out (Lib.hid ⟨Hcm2L.out.1, fun h => Hcm2L.out.2 (by omega)⟩)))
    refine owes2_cons (fun wx hox => ?_) ?_
    · skip
      have hk := HK.out.step hox
      obtain ⟨i0, i1, i2, i3, i4, i5, i6, i7, i8, i9, i10, i11⟩ := hk.c12 0 rfl
      clear hk
      refine withs_plain rfl ?_
      simp only [withs, List.getElem?_cons_zero, List.getElem?_cons_succ, Option.bind, Option.getD]
      repeat (first | (with_reducible refine all_isV ?_) | (with_reducible refine all_isB ?_; intro sx Ax kx cx tx Bx mx dx hvx hwx))
      go_simp
      (exact isPtr.new hox _ _)
    refine owes2_cons (fun wx hox => ?_) ?_
    · skip
      have hk := HK.out.step hox
      obtain ⟨i0, i1, i2, i3, i4, i5, i6, i7, i8, i9, i10, i11⟩ := hk.c12 0 rfl
      clear hk
      refine withs_plain rfl ?_
      simp only [withs, List.getElem?_cons_zero, List.getElem?_cons_succ, Option.bind, Option.getD]
      repeat (first | (with_reducible refine all_isV ?_) | (with_reducible refine all_isB ?_; intro sx Ax kx cx tx Bx mx dx hvx hwx))
      go_simp
      (exact isPtr.new hox _ _)
    exact owes2_nil
  case he =>
    simp only [List.drop_succ_cons, List.drop_zero]
    intro wx hox
    refine withs_of (by simp only [List.length, List.range, List.range.loop]; exact rfl) ?_
    simp only [withs, List.getElem?_cons_zero, List.getElem?_cons_succ, Option.bind, Option.getD]
    with_reducible refine all_isV ?_
    with_reducible refine all_isV ?_
    with_reducible refine all_isV ?_
    with_reducible refine all_isV ?_
    with_reducible refine all_isB ?_
    intro s4 A4 k4 c4 t4 B4 m4 d4 hv4 hw4
    with_reducible refine all_isV ?_
    with_reducible refine all_isV ?_
    with_reducible refine all_isV ?_
    with_reducible refine all_isV ?_
    with_reducible refine all_isB ?_
    intro s9 A9 k9 c9 t9 B9 m9 d9 hv9 hw9
    with_reducible refine all_isPtr ?_
    intro g10 hb10 hg10
    with_reducible refine all_isPtr ?_
    intro g11 hb11 hg11
    go_simp
    intro hap
    have nab : ¬ g10 = g11 := fun hc => hap 10 (by decide) 11 (by decide) (by decide) 5 6 rfl rfl (by rw [hc]; rfl)
    have mab : ¬ g11 = g10 := fun hc => nab hc.symm
    clear hap
    have bla := hb10.out
    have qa0 := bla.cell 0
    have fa0 := bla.frozen 0
    have qa1 := bla.cell 1
    have fa1 := bla.frozen 1
    have qa2 := bla.cell 2
    have fa2 := bla.frozen 2
    have qa3 := bla.cell 3
    have fa3 := bla.frozen 3
    have qa4 := bla.cell 4
    have fa4 := bla.frozen 4
    have qa5 := bla.cell 5
    have fa5 := bla.frozen 5
    simp only [List.getElem?_cons_zero, List.getElem?_cons_succ] at qa0 qa1 qa2 qa3 qa4 qa5
    clear bla
    have blb := hb11.out
    have qb0 := blb.cell 0
    have fb0 := blb.frozen 0
    have qb1 := blb.cell 1
    have fb1 := blb.frozen 1
    have qb2 := blb.cell 2
    have fb2 := blb.frozen 2
    have qb3 := blb.cell 3
    have fb3 := blb.frozen 3
    have qb4 := blb.cell 4
    have fb4 := blb.frozen 4
    have qb5 := blb.cell 5
    have fb5 := blb.frozen 5
    simp only [List.getElem?_cons_zero, List.getElem?_cons_succ] at qb0 qb1 qb2 qb3 qb4 qb5
    clear blb
    have he := (YB.start_at HK.out).adopt2 hox hb10 hb11 ⟨_, _, _, _, _, _, rfl⟩ ⟨_, _, _, _, _, _, rfl⟩ (noLimb6 _ _ _ _ _ _ _ _ _ _) (noLimb6 _ _ _ _ _ _ _ _ _ _) hg10 hg11 nab hv4 hw4 hv9 hw9
    go_upto_region 4 with fail
    clear qa0 fa0 qa1 fa1 qa2 fa2 qa3 fa3 qa4 fa4 qa5 fa5
    clear qb0 fb0 qb1 fb1 qb2 fb2 qb3 fb3 qb4 fb4 qb5 fb5
    replace HE := Lib.hid he
    clear HK
    clear he hb10 hb11 hg10 hg11 nab mab hv4 hw4 hv9 hw9 hox
    generalize (((((((((((wx.setCell _ _).setCell _ _).setCell _ _).setCell _ _).setCell _ _).setCell _ _).setCell _ _).setCell _ _).setCell _ _).setCell _ _).setCell _ _).setCell _ _ = wv at *
    apply wp_region_typed_tail3 8 [6, 7] 51 #[.bool false, .slice none 0 0, .int .i64 0, .bool false, .slice none 0 0, .int .i64 0] (by kernel_rfl) (by kernel_rfl) hal (by kernel_rfl) [isV _, isV _, isB xa xa, isV _, isV _, isB yb yb, isPtr wv 51 [.bool false, .slice none 0 0, .int .i64 0, .bool false, .slice none 0 0, .int .i64 0], isPtr wv 51 [.bool false, .slice none 0 0, .int .i64 0, .bool false, .slice none 0 0, .int .i64 0]] [[], [0], [1], [], [3], [4], [], []] (by kernel_rfl) (by kernel_rfl) (by kernel_rfl)
    case ho =>
      simp only [List.take_succ_cons, List.take_zero]
      refine owes2_cons (fun wx hox => ?_) ?_
      · skip
        skip
        refine withs_plain rfl ?_
        simp only [withs, List.getElem?_cons_zero, List.getElem?_cons_succ, Option.bind, Option.getD]
        repeat (first | (with_reducible refine all_isV ?_) | (with_reducible refine all_isB ?_; intro sx Ax kx cx tx Bx mx dx hvx hwx))
        go_simp
        exact ⟨Only.refl _ _, isV.self _ _⟩
      refine owes2_cons (fun wx hox => ?_) ?_
      · skip
        have he := Lib.hid (HE.out.step hox)
        obtain ⟨i0, i1, i2, i3, i4, i5⟩ := YB.cells he 1 rfl
        obtain ⟨j0, j1, j2, j3, j4, j5⟩ := YB.cells he 0 rfl
        have dva := YB.lo he 1 rfl
        have dvb := YB.hi he 0 rfl
        have htx := Lib.hid (hT.out.keep he.out.only)
        clear he
        refine withs_plain rfl ?_
        simp only [withs, List.getElem?_cons_zero, List.getElem?_cons_succ, Option.bind, Option.getD]
        repeat (first | (with_reducible refine all_isV ?_) | (with_reducible refine all_isB ?_; intro sx Ax kx cx tx Bx mx dx hvx hwx))
        go_simp
        exact ⟨Only.refl _ _, isV.self _ _⟩
      refine owes2_cons (fun wx hox => ?_) ?_
      · skip
        have he := Lib.hid (HE.out.step hox)
        obtain ⟨i0, i1, i2, i3, i4, i5⟩ := YB.cells he 1 rfl
        obtain ⟨j0, j1, j2, j3, j4, j5⟩ := YB.cells he 0 rfl
        have dva := YB.lo he 1 rfl
        have dvb := YB.hi he 0 rfl
        have htx := Lib.hid (hT.out.keep he.out.only)
        clear he
        refine withs_plain rfl ?_
        simp only [withs, List.getElem?_cons_zero, List.getElem?_cons_succ, Option.bind, Option.getD]
        repeat (first | (with_reducible refine all_isV ?_) | (with_reducible refine all_isB ?_; intro sx Ax kx cx tx Bx mx dx hvx hwx))
        go_simp
        (with_reducible exact grow_b (atV_b xa Hxa.out dva Bla (by omega) htx))
      refine owes2_cons (fun wx hox => ?_) ?_
      · skip
        skip
        refine withs_plain rfl ?_
        simp only [withs, List.getElem?_cons_zero, List.getElem?_cons_succ, Option.bind, Option.getD]
        repeat (first | (with_reducible refine all_isV ?_) | (with_reducible refine all_isB ?_; intro sx Ax kx cx tx Bx mx dx hvx hwx))
        go_simp
        exact ⟨Only.refl _ _, isV.self _ _⟩
      refine owes2_cons (fun wx hox => ?_) ?_
      · skip
        have he := Lib.hid (HE.out.step hox)
        obtain ⟨i0, i1, i2, i3, i4, i5⟩ := YB.cells he 1 rfl
        obtain ⟨j0, j1, j2, j3, j4, j5⟩ := YB.cells he 0 rfl
        have dva := YB.lo he 1 rfl
        have dvb := YB.hi he 0 rfl
        have htx := Lib.hid (hT.out.keep he.out.only)
        clear he
        refine withs_plain rfl ?_
        simp only [withs, List.getElem?_cons_zero, List.getElem?_cons_succ, Option.bind, Option.getD]
        repeat (first | (with_reducible refine all_isV ?_) | (with_reducible refine all_isB ?_; intro sx Ax kx cx tx Bx mx dx hvx hwx))
        go_simp
        exact ⟨Only.refl _ _, isV.self _ _⟩
      refine owes2_cons (fun wx hox => ?_) ?_
      · skip
        have he := Lib.hid (HE.out.step hox)
        obtain ⟨i0, i1, i2, i3, i4, i5⟩ := YB.cells he 1 rfl
        obtain ⟨j0, j1, j2, j3, j4, j5⟩ := YB.cells he 0 rfl
        have dva := YB.lo he 1 rfl
        have dvb := YB.hi he 0 rfl
        have htx := Lib.hid (hT.out.keep he.out.only)
        clear he
        refine withs_plain rfl ?_
        simp only [withs, List.getElem?_cons_zero, List.getElem?_cons_succ, Option.bind, Option.getD]
        repeat (first | (with_reducible refine all_isV ?_) | (with_reducible refine all_isB ?_; intro sx Ax kx cx tx Bx mx dx hvx hwx))
        go_simp
        (with_reducible exact grow_b (atV_b yb Hyb.out dvb Bhb (by omega) htx))
      refine owes2_cons (fun wx hox => ?_) ?_
      · skip
        have he := Lib.hid (HE.out.step hox)
        obtain ⟨i0, i1, i2, i3, i4, i5⟩ := YB.cells he 1 rfl
        obtain ⟨j0, j1, j2, j3, j4, j5⟩ := YB.cells he 0 rfl
        have dva := YB.lo he 1 rfl
        have dvb := YB.hi he 0 rfl
        have htx := Lib.hid (hT.out.keep he.out.only)
        clear he
        refine withs_plain rfl ?_
        simp only [withs, List.getElem?_cons_zero, List.getElem?_cons_succ, Option.bind, Option.getD]
        repeat (first | (with_reducible refine all_isV ?_) | (with_reducible refine all_isB ?_; intro sx Ax kx cx tx Bx mx dx hvx hwx))
        go_simp
        (exact isPtr.new hox _ _)
      refine owes2_cons (fun wx hox => ?_) ?_
      · skip
        have he := Lib.hid (HE.out.step hox)
        obtain ⟨i0, i1, i2, i3, i4, i5⟩ := YB.cells he 1 rfl
        obtain ⟨j0, j1, j2, j3, j4, j5⟩ := YB.cells he 0 rfl
        have dva := YB.lo he 1 rfl
        have dvb := YB.hi he 0 rfl
        have htx := Lib.hid (hT.out.keep he.out.only)
        clear he
        refine withs_plain rfl ?_
        simp only [withs, List.getElem?_cons_zero, List.getElem?_cons_succ, Option.bind, Option.getD]
        repeat (first | (with_reducible refine all_isV ?_) | (with_reducible refine all_isB ?_; intro sx Ax kx cx tx Bx mx dx hvx hwx))
        go_simp
        (exact isPtr.new hox _ _)
      exact owes2_nil
    case he =>
      simp only [List.drop_succ_cons, List.drop_zero]
      intro wx hox
      refine withs_of (by simp only [List.length, List.range, List.range.loop]; exact rfl) ?_
      simp only [withs, List.getElem?_cons_zero, List.getElem?_cons_succ, Option.bind, Option.getD]
      with_reducible refine all_isV ?_
      with_reducible refine all_isV ?_
      with_reducible refine all_isB ?_
      intro s2 A2 k2 c2 t2 B2 m2 d2 hv2 hw2
      with_reducible refine all_isV ?_
      with_reducible refine all_isV ?_
      with_reducible refine all_isB ?_
      intro s5 A5 k5 c5 t5 B5 m5 d5 hv5 hw5
      with_reducible refine all_isPtr ?_
      intro g6 hb6 hg6
      with_reducible refine all_isPtr ?_
      intro g7 hb7 hg7
      go_simp
      intro hap
      have nab : ¬ g6 = g7 := fun hc => hap 6 (by decide) 7 (by decide) (by decide) 7 8 rfl rfl (by rw [hc]; rfl)
      have mab : ¬ g7 = g6 := fun hc => nab hc.symm
      clear hap
      have bla := hb6.out
      have qa0 := bla.cell 0
      have fa0 := bla.frozen 0
      have qa1 := bla.cell 1
      have fa1 := bla.frozen 1
      have qa2 := bla.cell 2
      have fa2 := bla.frozen 2
      have qa3 := bla.cell 3
      have fa3 := bla.frozen 3
      have qa4 := bla.cell 4
      have fa4 := bla.frozen 4
      have qa5 := bla.cell 5
      have fa5 := bla.frozen 5
      simp only [List.getElem?_cons_zero, List.getElem?_cons_succ] at qa0 qa1 qa2 qa3 qa4 qa5
      clear bla
      have blb := hb7.out
      have qb0 := blb.cell 0
      have fb0 := blb.frozen 0
      have qb1 := blb.cell 1
      have fb1 := blb.frozen 1
      have qb2 := blb.cell 2
      have fb2 := blb.frozen 2
      have qb3 := blb.cell 3
      have fb3 := blb.frozen 3
      have qb4 := blb.cell 4
      have fb4 := blb.frozen 4
      have qb5 := blb.cell 5
      have fb5 := blb.frozen 5
      simp only [List.getElem?_cons_zero, List.getElem?_cons_succ] at qb0 qb1 qb2 qb3 qb4 qb5
      clear blb
      have he := HE.out.adopt2 hox hb6 hb7 ⟨_, _, _, _, _, _, rfl⟩ ⟨_, _, _, _, _, _, rfl⟩ (noLimb6 _ _ _ _ _ _ _ _ _ _) (noLimb6 _ _ _ _ _ _ _ _ _ _) hg6 hg7 nab hv2 hw2 hv5 hw5
      go_upto_region 5 with fail
      clear qa0 fa0 qa1 fa1 qa2 fa2 qa3 fa3 qa4 fa4 qa5 fa5
      clear qb0 fb0 qb1 fb1 qb2 fb2 qb3 fb3 qb4 fb4 qb5 fb5
      replace HE := Lib.hid he
      
      clear he hb6 hb7 hg6 hg7 nab mab hv2 hw2 hv5 hw5 hox
      generalize (((((((((((wx.setCell _ _).setCell _ _).setCell _ _).setCell _ _).setCell _ _).setCell _ _).setCell _ _).setCell _ _).setCell _ _).setCell _ _).setCell _ _).setCell _ _ = wu at *
      apply wp_region_typed2 (by kernel_rfl) [isV _, isV _, isV _, isB XAl XAh, isV _, isV _, isV _, isB AAl AAh, isV _, isV _, isV _, isV _, isV _, isV _, isB XSl XSh, isV _, isV _, isV _, isB ASl ASh, isV _, isV _, isV _, isV _, isV _, isV _, isV _, isB XMl XMh, isV _, isV _, isV _, isB AMl AMh, isV _, isV _, isV _, isV _, isV _, isV _, isV _, isV _, isB NAl NAh, isV _, isV _, isV _, isB AAl AAh, isV _, isV _, isV _, isV _, isV _, isV _, isV _, isV _, isB NMl NMh, isV _, isV _, isV _, isB AMl AMh, isV _, isV _, isV _] [[], [], [], [0, 1, 2], [], [], [], [4, 5, 6], [3, 7], [8], [9], [10], [10], [10], [10, 11, 12, 13], [10], [10], [10], [10, 15, 16, 17], [10, 14, 18], [10, 19], [10, 20], [21], [22], [22], [22], [22, 23, 24, 25], [22], [22], [22], [22, 27, 28, 29], [22, 26, 30], [22, 31], [22, 32], [33], [34], [34], [34], [34, 37], [34, 35, 36, 38], [34], [34], [34], [34, 40, 41, 42], [34, 39, 43], [34, 44], [34, 45], [46], [47], [47], [47], [47, 50], [47, 48, 49, 51], [47], [47], [47], [47, 53, 54, 55], [47, 52, 56], [47, 57], [47, 58]] (by kernel_rfl) (by kernel_rfl)
      case ho =>
        refine owes2_cons (fun wx hox => ?_) ?_
        · skip
          obtain ⟨i0, i1, i2, i3, i4, i5⟩ := YB.cells (Lib.hid (HE.out.step hox)) 1 rfl
          refine withs_plain rfl ?_
          simp only [withs, List.getElem?_cons_zero, List.getElem?_cons_succ, Option.bind, Option.getD]
          repeat (first | (with_reducible refine all_isV ?_) | (with_reducible refine all_isB ?_; intro sx Ax kx cx tx Bx mx dx hvx hwx))
          go_simp
          exact ⟨Only.refl _ _, isV.self _ _⟩
        refine owes2_cons (fun wx hox => ?_) ?_
        · skip
          obtain ⟨i0, i1, i2, i3, i4, i5⟩ := YB.cells (Lib.hid (HE.out.step hox)) 0 rfl
          refine withs_plain rfl ?_
          simp only [withs, List.getElem?_cons_zero, List.getElem?_cons_succ, Option.bind, Option.getD]
          repeat (first | (with_reducible refine all_isV ?_) | (with_reducible refine all_isB ?_; intro sx Ax kx cx tx Bx mx dx hvx hwx))
          go_simp
          exact ⟨Only.refl _ _, isV.self _ _⟩
        refine owes2_cons (fun wx hox => ?_) ?_
        · skip
          skip
          refine withs_plain rfl ?_
          simp only [withs, List.getElem?_cons_zero, List.getElem?_cons_succ, Option.bind, Option.getD]
          repeat (first | (with_reducible refine all_isV ?_) | (with_reducible refine all_isB ?_; intro sx Ax kx cx tx Bx mx dx hvx hwx))
          go_simp
          exact ⟨Only.refl _ _, isV.self _ _⟩
        refine owes2_cons (fun wx hox => ?_) ?_
        · skip
          have he := Lib.hid (HE.out.step hox)
          have bvx := YB.bv he 1 rfl
          have bvy := YB.bv he 0 rfl
          have htx := Lib.hid (hT.out.keep he.out.only)
          clear he
          refine withs_plain rfl ?_
          simp only [withs, List.getElem?_cons_zero, List.getElem?_cons_succ, Option.bind, Option.getD]
          repeat (first | (with_reducible refine all_isV ?_) | (with_reducible refine all_isB ?_; intro sx Ax kx cx tx Bx mx dx hvx hwx))
          go_simp
          (with_reducible exact grow_b (add_b p XAl XAh HXAl.out HXAh.out bvx bvy Bxa Bxa Byb Byb (by omega) htx))
        refine owes2_cons (fun wx hox => ?_) ?_
        · skip
          obtain ⟨i0, i1, i2, i3, i4, i5⟩ := YB.cells (Lib.hid (HE.out.step hox)) 3 rfl
          refine withs_plain rfl ?_
          simp only [withs, List.getElem?_cons_zero, List.getElem?_cons_succ, Option.bind, Option.getD]
          repeat (first | (with_reducible refine all_isV ?_) | (with_reducible refine all_isB ?_; intro sx Ax kx cx tx Bx mx dx hvx hwx))
          go_simp
          exact ⟨Only.refl _ _, isV.self _ _⟩
        refine owes2_cons (fun wx hox => ?_) ?_
        · skip
          obtain ⟨i0, i1, i2, i3, i4, i5⟩ := YB.cells (Lib.hid (HE.out.step hox)) 2 rfl
          refine withs_plain rfl ?_
          simp only [withs, List.getElem?_cons_zero, List.getElem?_cons_succ, Option.bind, Option.getD]
          repeat (first | (with_reducible refine all_isV ?_) | (with_reducible refine all_isB ?_; intro sx Ax kx cx tx Bx mx dx hvx hwx))
          go_simp
          exact ⟨Only.refl _ _, isV.self _ _⟩
        refine owes2_cons (fun wx hox => ?_) ?_
        · skip
          skip
          refine withs_plain rfl ?_
          simp only [withs, List.getElem?_cons_zero, List.getElem?_cons_succ, Option.bind, Option.getD]
          repeat (first | (with_reducible refine all_isV ?_) | (with_reducible refine all_isB ?_; intro sx Ax kx cx tx Bx mx dx hvx hwx))
          go_simp
          exact ⟨Only.refl _ _, isV.self _ _⟩
        refine owes2_cons (fun wx hox => ?_) ?_
        · skip
          have he := Lib.hid (HE.out.step hox)
          have bva := YB.bv he 3 rfl
          have bvb := YB.bv he 2 rfl
          have htx := Lib.hid (hT.out.keep he.out.only)
          clear he
          refine withs_plain rfl ?_
          simp only [withs, List.getElem?_cons_zero, List.getElem?_cons_succ, Option.bind, Option.getD]
          repeat (first | (with_reducible refine all_isV ?_) | (with_reducible refine all_isB ?_; intro sx Ax kx cx tx Bx mx dx hvx hwx))
          go_simp
          (with_reducible exact grow_b (add_b p AAl AAh HAAl.out HAAh.out bva bvb Bla Bha Blb Bhb (by omega) htx))
        refine owes2_cons (fun wx hox => ?_) ?_
        · skip
          skip
          refine withs_plain rfl ?_
          simp only [withs, List.getElem?_cons_zero, List.getElem?_cons_succ, Option.bind, Option.getD]
          repeat (first | (with_reducible refine all_isV ?_) | (with_reducible refine all_isB ?_; intro sx Ax kx cx tx Bx mx dx hvx hwx))
          go_simp
          (with_reducible exact grow_of (within_b (x := XAl) (y := XAh) (u := AAl) (v := AAh) IXAAA.1 IXAAA.2 (BV.of (by assumption) (by assumption)) (BV.of (by assumption) (by assumption)) BXAl BXAh BAAl BAAh (by omega)))
        refine owes2_cons (fun wx hox => ?_) ?_
        · skip
          skip
          refine withs_plain rfl ?_
          simp only [withs, List.getElem?_cons_zero, List.getElem?_cons_succ, Option.bind, Option.getD]
          repeat (first | (with_reducible refine all_isV ?_) | (with_reducible refine all_isB ?_; intro sx Ax kx cx tx Bx mx dx hvx hwx))
          go_simp
          exact ⟨Only.refl _ _, isV.self _ _⟩
        refine owes2_cons (fun wx hox => ?_) ?_
        · skip
          skip
          refine withs_plain rfl ?_
          simp only [withs, List.getElem?_cons_zero, List.getElem?_cons_succ, Option.bind, Option.getD]
          repeat (first | (with_reducible refine all_isV ?_) | (with_reducible refine all_isB ?_; intro sx Ax kx cx tx Bx mx dx hvx hwx))
          go_simp
          exact ⟨Only.refl _ _, isV.self _ _⟩
        refine owes2_cons (fun wx hox => ?_) ?_
        · skip
          obtain ⟨i0, i1, i2, i3, i4, i5⟩ := YB.cells (Lib.hid (HE.out.step hox)) 1 rfl
          refine withs_guard rfl rfl ?_
          simp only [withs, List.getElem?_cons_zero, List.getElem?_cons_succ, Option.bind, Option.getD]
          repeat (first | (with_reducible refine all_isV ?_) | (with_reducible refine all_isB ?_; intro sx Ax kx cx tx Bx mx dx hvx hwx))
          refine ⟨by kernel_rfl, ?_⟩
          go_simp
          exact ⟨Only.refl _ _, isV.self _ _⟩
        refine owes2_cons (fun wx hox => ?_) ?_
        · skip
          obtain ⟨i0, i1, i2, i3, i4, i5⟩ := YB.cells (Lib.hid (HE.out.step hox)) 0 rfl
          refine withs_guard rfl rfl ?_
          simp only [withs, List.getElem?_cons_zero, List.getElem?_cons_succ, Option.bind, Option.getD]
          repeat (first | (with_reducible refine all_isV ?_) | (with_reducible refine all_isB ?_; intro sx Ax kx cx tx Bx mx dx hvx hwx))
          refine ⟨by kernel_rfl, ?_⟩
          go_simp
          exact ⟨Only.refl _ _, isV.self _ _⟩
        refine owes2_cons (fun wx hox => ?_) ?_
        · skip
          skip
          refine withs_guard rfl rfl ?_
          simp only [withs, List.getElem?_cons_zero, List.getElem?_cons_succ, Option.bind, Option.getD]
          repeat (first | (with_reducible refine all_isV ?_) | (with_reducible refine all_isB ?_; intro sx Ax kx cx tx Bx mx dx hvx hwx))
          refine ⟨by kernel_rfl, ?_⟩
          go_simp
          exact ⟨Only.refl _ _, isV.self _ _⟩
        refine owes2_cons (fun wx hox => ?_) ?_
        · skip
          have he := Lib.hid (HE.out.step hox)
          have bvx := YB.bv he 1 rfl
          have bvy := YB.bv he 0 rfl
          have htx := Lib.hid (hT.out.keep he.out.only)
          clear he
          refine withs_guard rfl rfl ?_
          simp only [withs, List.getElem?_cons_zero, List.getElem?_cons_succ, Option.bind, Option.getD]
          repeat (first | (with_reducible refine all_isV ?_) | (with_reducible refine all_isB ?_; intro sx Ax kx cx tx Bx mx dx hvx hwx))
          refine ⟨by kernel_rfl, ?_⟩
          go_simp
          (with_reducible exact grow_b (sub_b p XSl XSh HXSl.out HXSh.out bvx bvy Bxa Bxa Byb Byb (by omega) htx))
        refine owes2_cons (fun wx hox => ?_) ?_
        · skip
          obtain ⟨i0, i1, i2, i3, i4, i5⟩ := YB.cells (Lib.hid (HE.out.step hox)) 3 rfl
          refine withs_guard rfl rfl ?_
          simp only [withs, List.getElem?_cons_zero, List.getElem?_cons_succ, Option.bind, Option.getD]
          repeat (first | (with_reducible refine all_isV ?_) | (with_reducible refine all_isB ?_; intro sx Ax kx cx tx Bx mx dx hvx hwx))
          refine ⟨by kernel_rfl, ?_⟩
          go_simp
          exact ⟨Only.refl _ _, isV.self _ _⟩
        refine owes2_cons (fun wx hox => ?_) ?_
        · skip
          obtain ⟨i0, i1, i2, i3, i4, i5⟩ := YB.cells (Lib.hid (HE.out.step hox)) 2 rfl
          refine withs_guard rfl rfl ?_
          simp only [withs, List.getElem?_cons_zero, List.getElem?_cons_succ, Option.bind, Option.getD]
          repeat (first | (with_reducible refine all_isV ?_) | (with_reducible refine all_isB ?_; intro sx Ax kx cx tx Bx mx dx hvx hwx))
          refine ⟨by kernel_rfl, ?_⟩
          go_simp
          exact ⟨Only.refl _ _, isV.self _ _⟩
        refine owes2_cons (fun wx hox => ?_) ?_
        · skip
          skip
          refine withs_guard rfl rfl ?_
          simp only [withs, List.getElem?_cons_zero, List.getElem?_cons_succ, Option.bind, Option.getD]
          repeat (first | (with_reducible refine all_isV ?_) | (with_reducible refine all_isB ?_; intro sx Ax kx cx tx Bx mx dx hvx hwx))
          refine ⟨by kernel_rfl, ?_⟩
          go_simp
          exact ⟨Only.refl _ _, isV.self _ _⟩
        refine owes2_cons (fun wx hox => ?_) ?_
        · skip
          have he := Lib.hid (HE.out.step hox)
          have bva := YB.bv he 3 rfl
          have bvb := YB.bv he 2 rfl
          have htx := Lib.hid (hT.out.keep he.out.only)
          clear he
          refine withs_guard rfl rfl ?_
          simp only [withs, List.getElem?_cons_zero, List.getElem?_cons_succ, Option.bind, Option.getD]
          repeat (first | (with_reducible refine all_isV ?_) | (with_reducible refine all_isB ?_; intro sx Ax kx cx tx Bx mx dx hvx hwx))
          refine ⟨by kernel_rfl, ?_⟩
          go_simp
          (with_reducible exact grow_b (sub_b p ASl ASh HASl.out HASh.out bva bvb Bla Bha Blb Bhb (by omega) htx))
        refine owes2_cons (fun wx hox => ?_) ?_
        · skip
          skip
          refine withs_guard rfl rfl ?_
          simp only [withs, List.getElem?_cons_zero, List.getElem?_cons_succ, Option.bind, Option.getD]
          repeat (first | (with_reducible refine all_isV ?_) | (with_reducible refine all_isB ?_; intro sx Ax kx cx tx Bx mx dx hvx hwx))
          refine ⟨by kernel_rfl, ?_⟩
          go_simp
          (with_reducible exact grow_of (within_b (x := XSl) (y := XSh) (u := ASl) (v := ASh) IXSAS.1 IXSAS.2 (BV.of (by assumption) (by assumption)) (BV.of (by assumption) (by assumption)) BXSl BXSh BASl BASh (by omega)))
        refine owes2_cons (fun wx hox => ?_) ?_
        · skip
          skip
          refine withs_guard rfl rfl ?_
          simp only [withs, List.getElem?_cons_zero, List.getElem?_cons_succ, Option.bind, Option.getD]
          repeat (first | (with_reducible refine all_isV ?_) | (with_reducible refine all_isB ?_; intro sx Ax kx cx tx Bx mx dx hvx hwx))
          refine ⟨by kernel_rfl, ?_⟩
          go_simp
          exact ⟨Only.refl _ _, isV.self _ _⟩
        refine owes2_cons (fun wx hox => ?_) ?_
        · skip
          skip
          refine withs_plain rfl ?_
          simp only [withs, List.getElem?_cons_zero, List.getElem?_cons_succ, Option.bind, Option.getD]
          repeat (first | (with_reducible refine all_isV ?_) | (with_reducible refine all_isB ?_; intro sx Ax kx cx tx Bx mx dx hvx hwx))
          go_simp
          exact ⟨Only.refl _ _, isV.self _ _⟩
        refine owes2_cons (fun wx hox => ?_) ?_
        · skip
          skip
          refine withs_plain rfl ?_
          simp only [withs, List.getElem?_cons_zero, List.getElem?_cons_succ, Option.bind, Option.getD]
          repeat (first | (with_reducible refine all_isV ?_) | (with_reducible refine all_isB ?_; intro sx Ax kx cx tx Bx mx dx hvx hwx))
          go_simp
          exact ⟨Only.refl _ _, isV.self _ _⟩
        refine owes2_cons (fun wx hox => ?_) ?_
        · skip
          obtain ⟨i0, i1, i2, i3, i4, i5⟩ := YB.cells (Lib.hid (HE.out.step hox)) 1 rfl
          refine withs_guard rfl rfl ?_
          simp only [withs, List.getElem?_cons_zero, List.getElem?_cons_succ, Option.bind, Option.getD]
          repeat (first | (with_reducible refine all_isV ?_) | (with_reducible refine all_isB ?_; intro sx Ax kx cx tx Bx mx dx hvx hwx))
          refine ⟨by kernel_rfl, ?_⟩
          go_simp
          exact ⟨Only.refl _ _, isV.self _ _⟩
        refine owes2_cons (fun wx hox => ?_) ?_
        · skip
          obtain ⟨i0, i1, i2, i3, i4, i5⟩ := YB.cells (Lib.hid (HE.out.step hox)) 0 rfl
          refine withs_guard rfl rfl ?_
          simp only [withs, List.getElem?_cons_zero, List.getElem?_cons_succ, Option.bind, Option.getD]
          repeat (first | (with_reducible refine all_isV ?_) | (with_reducible refine all_isB ?_; intro sx Ax kx cx tx Bx mx dx hvx hwx))
          refine ⟨by kernel_rfl, ?_⟩
          go_simp
          exact ⟨Only.refl _ _, isV.self _ _⟩
        refine owes2_cons (fun wx hox => ?_) ?_
        · skip
          skip
          refine withs_guard rfl rfl ?_
          simp only [withs, List.getElem?_cons_zero, List.getElem?_cons_succ, Option.bind, Option.getD]
          repeat (first | (with_reducible refine all_isV ?_) | (with_reducible refine all_isB ?_; intro sx Ax kx cx tx Bx mx dx hvx hwx))
          refine ⟨by kernel_rfl, ?_⟩
          go_simp
          exact ⟨Only.refl _ _, isV.self _ _⟩
        refine owes2_cons (fun wx hox => ?_) ?_
        · skip
          have he := Lib.hid (HE.out.step hox)
          have bvx := YB.bv he 1 rfl
          have bvy := YB.bv he 0 rfl
          have htx := Lib.hid (hT.out.keep he.out.only)
          clear he
          refine withs_guard rfl rfl ?_
          simp only [withs, List.getElem?_cons_zero, List.getElem?_cons_succ, Option.bind, Option.getD]
          repeat (first | (with_reducible refine all_isV ?_) | (with_reducible refine all_isB ?_; intro sx Ax kx cx tx Bx mx dx hvx hwx))
          refine ⟨by kernel_rfl, ?_⟩
          go_simp
          (with_reducible exact grow_b (bmul_b p XMl XMh HXMl.out HXMh.out bvx bvy Bxa Bxa Byb Byb (by omega) htx))
        refine owes2_cons (fun wx hox => ?_) ?_
        · skip
          obtain ⟨i0, i1, i2, i3, i4, i5⟩ := YB.cells (Lib.hid (HE.out.step hox)) 3 rfl
          refine withs_guard rfl rfl ?_
          simp only [withs, List.getElem?_cons_zero, List.getElem?_cons_succ, Option.bind, Option.getD]
          repeat (first | (with_reducible refine all_isV ?_) | (with_reducible refine all_isB ?_; intro sx Ax kx cx tx Bx mx dx hvx hwx))
          refine ⟨by kernel_rfl, ?_⟩
          go_simp
          exact ⟨Only.refl _ _, isV.self _ _⟩
        refine owes2_cons (fun wx hox => ?_) ?_
        · skip
          obtain ⟨i0, i1, i2, i3, i4, i5⟩ := YB.cells (Lib.hid (HE.out.step hox)) 2 rfl
          refine withs_guard rfl rfl ?_
          simp only [withs, List.getElem?_cons_zero, List.getElem?_cons_succ, Option.bind, Option.getD]
          repeat (first | (with_reducible refine all_isV ?_) | (with_reducible refine all_isB ?_; intro sx Ax kx cx tx Bx mx dx hvx hwx))
          refine ⟨by kernel_rfl, ?_⟩
          go_simp
          exact ⟨Only.refl _ _, isV.self _ _⟩
        refine owes2_cons (fun wx hox => ?_) ?_
        · skip
          skip
          refine withs_guard rfl rfl ?_
          simp only [withs, List.getElem?_cons_zero, List.getElem?_cons_succ, Option.bind, Option.getD]
          repeat (first | (with_reducible refine all_isV ?_) | (with_reducible refine all_isB ?_; intro sx Ax kx cx tx Bx mx dx hvx hwx))
          refine ⟨by kernel_rfl, ?_⟩
          go_simp
          exact ⟨Only.refl _ _, isV.self _ _⟩
        refine owes2_cons (fun wx hox => ?_) ?_
        · skip
          have he := Lib.hid (HE.out.step hox)
          have bva := YB.bv he 3 rfl
          have bvb := YB.bv he 2 rfl
          have htx := Lib.hid (hT.out.keep he.out.only)
          clear he
          refine withs_guard rfl rfl ?_
          simp only [withs, List.getElem?_cons_zero, List.getElem?_cons_succ, Option.bind, Option.getD]
          repeat (first | (with_reducible refine all_isV ?_) | (with_reducible refine all_isB ?_; intro sx Ax kx cx tx Bx mx dx hvx hwx))
          refine ⟨by kernel_rfl, ?_⟩
          go_simp
          (with_reducible exact grow_b (bmul_b p AMl AMh HAMl.out HAMh.out bva bvb Bla Bha Blb Bhb (by omega) htx))
        refine owes2_cons (fun wx hox => ?_) ?_
        · skip
          skip
          refine withs_guard rfl rfl ?_
          simp only [withs, List.getElem?_cons_zero, List.getElem?_cons_succ, Option.bind, Option.getD]
          repeat (first | (with_reducible refine all_isV ?_) | (with_reducible refine all_isB ?_; intro sx Ax kx cx tx Bx mx dx hvx hwx))
          refine ⟨by kernel_rfl, ?_⟩
          go_simp
          (with_reducible exact grow_of (within_b (x := XMl) (y := XMh) (u := AMl) (v := AMh) IXMAM.1 IXMAM.2 (BV.of (by assumption) (by assumption)) (BV.of (by assumption) (by assumption)) BXMl BXMh BAMl BAMh (by omega)))
        refine owes2_cons (fun wx hox => ?_) ?_
        · skip
          skip
          refine withs_guard rfl rfl ?_
          simp only [withs, List.getElem?_cons_zero, List.getElem?_cons_succ, Option.bind, Option.getD]
          repeat (first | (with_reducible refine all_isV ?_) | (with_reducible refine all_isB ?_; intro sx Ax kx cx tx Bx mx dx hvx hwx))
          refine ⟨by kernel_rfl, ?_⟩
          go_simp
          exact ⟨Only.refl _ _, isV.self _ _⟩
        refine owes2_cons (fun wx hox => ?_) ?_
        · skip
          skip
          refine withs_plain rfl ?_
          simp only [withs, List.getElem?_cons_zero, List.getElem?_cons_succ, Option.bind, Option.getD]
          repeat (first | (with_reducible refine all_isV ?_) | (with_reducible refine all_isB ?_; intro sx Ax kx cx tx Bx mx dx hvx hwx))
          go_simp
          exact ⟨Only.refl _ _, isV.self _ _⟩
        refine owes2_cons (fun wx hox => ?_) ?_
        · skip
          skip
          refine withs_plain rfl ?_
          simp only [withs, List.getElem?_cons_zero, List.getElem?_cons_succ, Option.bind, Option.getD]
          repeat (first | (with_reducible refine all_isV ?_) | (with_reducible refine all_isB ?_; intro sx Ax kx cx tx Bx mx dx hvx hwx))
          go_simp
          exact ⟨Only.refl _ _, isV.self _ _⟩
        refine owes2_cons (fun wx hox => ?_) ?_
        · skip
          obtain ⟨i0, i1, i2, i3, i4, i5⟩ := YB.cells (Lib.hid (HE.out.step hox)) 3 rfl
          refine withs_guard rfl rfl ?_
          simp only [withs, List.getElem?_cons_zero, List.getElem?_cons_succ, Option.bind, Option.getD]
          repeat (first | (with_reducible refine all_isV ?_) | (with_reducible refine all_isB ?_; intro sx Ax kx cx tx Bx mx dx hvx hwx))
          refine ⟨by kernel_rfl, ?_⟩
          go_simp
          exact ⟨Only.refl _ _, isV.self _ _⟩
        refine owes2_cons (fun wx hox => ?_) ?_
        · skip
          obtain ⟨i0, i1, i2, i3, i4, i5⟩ := YB.cells (Lib.hid (HE.out.step hox)) 2 rfl
          refine withs_guard rfl rfl ?_
          simp only [withs, List.getElem?_cons_zero, List.getElem?_cons_succ, Option.bind, Option.getD]
          repeat (first | (with_reducible refine all_isV ?_) | (with_reducible refine all_isB ?_; intro sx Ax kx cx tx Bx mx dx hvx hwx))
          refine ⟨by kernel_rfl, ?_⟩
          go_simp
          exact ⟨Only.refl _ _, isV.self _ _⟩
        refine owes2_cons (fun wx hox => ?_) ?_
        · skip
          skip
          refine withs_guard rfl rfl ?_
          simp only [withs, List.getElem?_cons_zero, List.getElem?_cons_succ, Option.bind, Option.getD]
          repeat (first | (with_reducible refine all_isV ?_) | (with_reducible refine all_isB ?_; intro sx Ax kx cx tx Bx mx dx hvx hwx))
          refine ⟨by kernel_rfl, ?_⟩
          go_simp
          exact ⟨Only.refl _ _, isV.self _ _⟩
        refine owes2_cons (fun wx hox => ?_) ?_
        · skip
          skip
          refine withs_guard rfl rfl ?_
          simp only [withs, List.getElem?_cons_zero, List.getElem?_cons_succ, Option.bind, Option.getD]
          repeat (first | (with_reducible refine all_isV ?_) | (with_reducible refine all_isB ?_; intro sx Ax kx cx tx Bx mx dx hvx hwx))
          refine ⟨by kernel_rfl, ?_⟩
          go_simp
          exact ⟨Only.refl _ _, isV.self _ _⟩
        refine owes2_cons (fun wx hox => ?_) ?_
        · skip
          have he := Lib.hid (HE.out.step hox)
          have bva := YB.bv he 3 rfl
          have bvb := YB.bv he 2 rfl
          have htx := Lib.hid (hT.out.keep he.out.only)
          clear he
          refine withs_guard rfl rfl ?_
          simp only [withs, List.getElem?_cons_zero, List.getElem?_cons_succ, Option.bind, Option.getD]
          repeat (first | (with_reducible refine all_isV ?_) | (with_reducible refine all_isB ?_; intro sx Ax kx cx tx Bx mx dx hvx hwx))
          refine ⟨by kernel_rfl, ?_⟩
          go_simp
          (with_reducible exact grow_b (add_b p9 NAl NAh HNAl.out HNAh.out bva bvb Bla Bha Blb Bhb (by omega) htx))
        refine owes2_cons (fun wx hox => ?_) ?_
        · skip
          obtain ⟨i0, i1, i2, i3, i4, i5⟩ := YB.cells (Lib.hid (HE.out.step hox)) 3 rfl
          refine withs_guard rfl rfl ?_
          simp only [withs, List.getElem?_cons_zero, List.getElem?_cons_succ, Option.bind, Option.getD]
          repeat (first | (with_reducible refine all_isV ?_) | (with_reducible refine all_isB ?_; intro sx Ax kx cx tx Bx mx dx hvx hwx))
          refine ⟨by kernel_rfl, ?_⟩
          go_simp
          exact ⟨Only.refl _ _, isV.self _ _⟩
        refine owes2_cons (fun wx hox => ?_) ?_
        · skip
          obtain ⟨i0, i1, i2, i3, i4, i5⟩ := YB.cells (Lib.hid (HE.out.step hox)) 2 rfl
          refine withs_guard rfl rfl ?_
          simp only [withs, List.getElem?_cons_zero, List.getElem?_cons_succ, Option.bind, Option.getD]
          repeat (first | (with_reducible refine all_isV ?_) | (with_reducible refine all_isB ?_; intro sx Ax kx cx tx Bx mx dx hvx hwx))
          refine ⟨by kernel_rfl, ?_⟩
          go_simp
          exact ⟨Only.refl _ _, isV.self _ _⟩
        refine owes2_cons (fun wx hox => ?_) ?_
        · skip
          skip
          refine withs_guard rfl rfl ?_
          simp only [withs, List.getElem?_cons_zero, List.getElem?_cons_succ, Option.bind, Option.getD]
          repeat (first | (with_reducible refine all_isV ?_) | (with_reducible refine all_isB ?_; intro sx Ax kx cx tx Bx mx dx hvx hwx))
          refine ⟨by kernel_rfl, ?_⟩
          go_simp
          exact ⟨Only.refl _ _, isV.self _ _⟩
        refine owes2_cons (fun wx hox => ?_) ?_
        · skip
          have he := Lib.hid (HE.out.step hox)
          have bva := YB.bv he 3 rfl
          have bvb := YB.bv he 2 rfl
          have htx := Lib.hid (hT.out.keep he.out.only)
          clear he
          refine withs_guard rfl rfl ?_
          simp only [withs, List.getElem?_cons_zero, List.getElem?_cons_succ, Option.bind, Option.getD]
          repeat (first | (with_reducible refine all_isV ?_) | (with_reducible refine all_isB ?_; intro sx Ax kx cx tx Bx mx dx hvx hwx))
          refine ⟨by kernel_rfl, ?_⟩
          go_simp
          (with_reducible exact grow_b (add_b p AAl AAh HAAl.out HAAh.out bva bvb Bla Bha Blb Bhb (by omega) htx))
        refine owes2_cons (fun wx hox => ?_) ?_
        · skip
          skip
          refine withs_guard rfl rfl ?_
          simp only [withs, List.getElem?_cons_zero, List.getElem?_cons_succ, Option.bind, Option.getD]
          repeat (first | (with_reducible refine all_isV ?_) | (with_reducible refine all_isB ?_; intro sx Ax kx cx tx Bx mx dx hvx hwx))
          refine ⟨by kernel_rfl, ?_⟩
          go_simp
          (with_reducible exact grow_of (within_b (x := NAl) (y := NAh) (u := AAl) (v := AAh) INAAA.1 INAAA.2 (BV.of (by assumption) (by assumption)) (BV.of (by assumption) (by assumption)) BNAl BNAh BAAl BAAh (by omega)))
        refine owes2_cons (fun wx hox => ?_) ?_
        · skip
          skip
          refine withs_guard rfl rfl ?_
          simp only [withs, List.getElem?_cons_zero, List.getElem?_cons_succ, Option.bind, Option.getD]
          repeat (first | (with_reducible refine all_isV ?_) | (with_reducible refine all_isB ?_; intro sx Ax kx cx tx Bx mx dx hvx hwx))
          refine ⟨by kernel_rfl, ?_⟩
          go_simp
          exact ⟨Only.refl _ _, isV.self _ _⟩
        refine owes2_cons (fun wx hox => ?_) ?_
        · skip
          skip
          refine withs_plain rfl ?_
          simp only [withs, List.getElem?_cons_zero, List.getElem?_cons_succ, Option.bind, Option.getD]
          repeat (first | (with_reducible refine all_isV ?_) | (with_reducible refine all_isB ?_; intro sx Ax kx cx tx Bx mx dx hvx hwx))
          go_simp
          exact ⟨Only.refl _ _, isV.self _ _⟩
        refine owes2_cons (fun wx hox => ?_) ?_
        · skip
          skip
          refine withs_plain rfl ?_
          simp only [withs, List.getElem?_cons_zero, List.getElem?_cons_succ, Option.bind, Option.getD]
          repeat (first | (with_reducible refine all_isV ?_) | (with_reducible refine all_isB ?_; intro sx Ax kx cx tx Bx mx dx hvx hwx))
          go_simp
          exact ⟨Only.refl _ _, isV.self _ _⟩
        refine owes2_cons (fun wx hox => ?_) ?_
        · skip
          obtain ⟨i0, i1, i2, i3, i4, i5⟩ := YB.cells (Lib.hid (HE.out.step hox)) 3 rfl
          refine withs_guard rfl rfl ?_
          simp only [withs, List.getElem?_cons_zero, List.getElem?_cons_succ, Option.bind, Option.getD]
          repeat (first | (with_reducible refine all_isV ?_) | (with_reducible refine all_isB ?_; intro sx Ax kx cx tx Bx mx dx hvx hwx))
          refine ⟨by kernel_rfl, ?_⟩
          go_simp
          exact ⟨Only.refl _ _, isV.self _ _⟩
        refine owes2_cons (fun wx hox => ?_) ?_
        · skip
          obtain ⟨i0, i1, i2, i3, i4, i5⟩ := YB.cells (Lib.hid (HE.out.step hox)) 2 rfl
          refine withs_guard rfl rfl ?_
          simp only [withs, List.getElem?_cons_zero, List.getElem?_cons_succ, Option.bind, Option.getD]
          repeat (first | (with_reducible refine all_isV ?_) | (with_reducible refine all_isB ?_; intro sx Ax kx cx tx Bx mx dx hvx hwx))
          refine ⟨by kernel_rfl, ?_⟩
          go_simp
          exact ⟨Only.refl _ _, isV.self _ _⟩
        refine owes2_cons (fun wx hox => ?_) ?_
        · skip
          skip
          refine withs_guard rfl rfl ?_
          simp only [withs, List.getElem?_cons_zero, List.getElem?_cons_succ, Option.bind, Option.getD]
          repeat (first | (with_reducible refine all_isV ?_) | (with_reducible refine all_isB ?_; intro sx Ax kx cx tx Bx mx dx hvx hwx))
          refine ⟨by kernel_rfl, ?_⟩
          go_simp
          exact ⟨Only.refl _ _, isV.self _ _⟩
        refine owes2_cons (fun wx hox => ?_) ?_
        · skip
          skip
          refine withs_guard rfl rfl ?_
          simp only [withs, List.getElem?_cons_zero, List.getElem?_cons_succ, Option.bind, Option.getD]
          repeat (first | (with_reducible refine all_isV ?_) | (with_reducible refine all_isB ?_; intro sx Ax kx cx tx Bx mx dx hvx hwx))
          refine ⟨by kernel_rfl, ?_⟩
          go_simp
          exact ⟨Only.refl _ _, isV.self _ _⟩
        refine owes2_cons (fun wx hox => ?_) ?_
        · skip
          have he := Lib.hid (HE.out.step hox)
          have bva := YB.bv he 3 rfl
          have bvb := YB.bv he 2 rfl
          have htx := Lib.hid (hT.out.keep he.out.only)
          clear he
          refine withs_guard rfl rfl ?_
          simp only [withs, List.getElem?_cons_zero, List.getElem?_cons_succ, Option.bind, Option.getD]
          repeat (first | (with_reducible refine all_isV ?_) | (with_reducible refine all_isB ?_; intro sx Ax kx cx tx Bx mx dx hvx hwx))
          refine ⟨by kernel_rfl, ?_⟩
          go_simp
          (with_reducible exact grow_b (bmul_b p9 NMl NMh HNMl.out HNMh.out bva bvb Bla Bha Blb Bhb (by omega) htx))
        refine owes2_cons (fun wx hox => ?_) ?_
        · skip
          obtain ⟨i0, i1, i2, i3, i4, i5⟩ := YB.cells (Lib.hid (HE.out.step hox)) 3 rfl
          refine withs_guard rfl rfl ?_
          simp only [withs, List.getElem?_cons_zero, List.getElem?_cons_succ, Option.bind, Option.getD]
          repeat (first | (with_reducible refine all_isV ?_) | (with_reducible refine all_isB ?_; intro sx Ax kx cx tx Bx mx dx hvx hwx))
          refine ⟨by kernel_rfl, ?_⟩
          go_simp
          exact ⟨Only.refl _ _, isV.self _ _⟩
        refine owes2_cons (fun wx hox => ?_) ?_
        · skip
          obtain ⟨i0, i1, i2, i3, i4, i5⟩ := YB.cells (Lib.hid (HE.out.step hox)) 2 rfl
          refine withs_guard rfl rfl ?_
          simp only [withs, List.getElem?_cons_zero, List.getElem?_cons_succ, Option.bind, Option.getD]
          repeat (first | (with_reducible refine all_isV ?_) | (with_reducible refine all_isB ?_; intro sx Ax kx cx tx Bx mx dx hvx hwx))
          refine ⟨by kernel_rfl, ?_⟩
          go_simp
          exact ⟨Only.refl _ _, isV.self _ _⟩
        refine owes2_cons (fun wx hox => ?_) ?_
        · skip
          skip
          refine withs_guard rfl rfl ?_
          simp only [withs, List.getElem?_cons_zero, List.getElem?_cons_succ, Option.bind, Option.getD]
          repeat (first | (with_reducible refine all_isV ?_) | (with_reducible refine all_isB ?_; intro sx Ax kx cx tx Bx mx dx hvx hwx))
          refine ⟨by kernel_rfl, ?_⟩
          go_simp
          exact ⟨Only.refl _ _, isV.self _ _⟩
        refine owes2_cons (fun wx hox => ?_) ?_
        · skip
          have he := Lib.hid (HE.out.step hox)
          have bva := YB.bv he 3 rfl
          have bvb := YB.bv he 2 rfl
          have htx := Lib.hid (hT.out.keep he.out.only)
          clear he
          refine withs_guard rfl rfl ?_
          simp only [withs, List.getElem?_cons_zero, List.getElem?_cons_succ, Option.bind, Option.getD]
          repeat (first | (with_reducible refine all_isV ?_) | (with_reducible refine all_isB ?_; intro sx Ax kx cx tx Bx mx dx hvx hwx))
          refine ⟨by kernel_rfl, ?_⟩
          go_simp
          (with_reducible exact grow_b (bmul_b p AMl AMh HAMl.out HAMh.out bva bvb Bla Bha Blb Bhb (by omega) htx))
        refine owes2_cons (fun wx hox => ?_) ?_
        · skip
          skip
          refine withs_guard rfl rfl ?_
          simp only [withs, List.getElem?_cons_zero, List.getElem?_cons_succ, Option.bind, Option.getD]
          repeat (first | (with_reducible refine all_isV ?_) | (with_reducible refine all_isB ?_; intro sx Ax kx cx tx Bx mx dx hvx hwx))
          refine ⟨by kernel_rfl, ?_⟩
          go_simp
          (with_reducible exact grow_of (within_b (x := NMl) (y := NMh) (u := AMl) (v := AMh) INMAM.1 INMAM.2 (BV.of (by assumption) (by assumption)) (BV.of (by assumption) (by assumption)) BNMl BNMh BAMl BAMh (by omega)))
        refine owes2_cons (fun wx hox => ?_) ?_
        · skip
          skip
          refine withs_guard rfl rfl ?_
          simp only [withs, List.getElem?_cons_zero, List.getElem?_cons_succ, Option.bind, Option.getD]
          repeat (first | (with_reducible refine all_isV ?_) | (with_reducible refine all_isB ?_; intro sx Ax kx cx tx Bx mx dx hvx hwx))
          refine ⟨by kernel_rfl, ?_⟩
          go_simp
          exact ⟨Only.refl _ _, isV.self _ _⟩
        refine owes2_cons (fun wx hox => ?_) ?_
        · skip
          skip
          refine withs_plain rfl ?_
          simp only [withs, List.getElem?_cons_zero, List.getElem?_cons_succ, Option.bind, Option.getD]
          repeat (first | (with_reducible refine all_isV ?_) | (with_reducible refine all_isB ?_; intro sx Ax kx cx tx Bx mx dx hvx hwx))
          go_simp
          exact ⟨Only.refl _ _, isV.self _ _⟩
        exact owes2_nil
      case he =>
        intro wx hox
        refine withs_of (by simp only [List.length, List.range, List.range.loop]; exact rfl) ?_
        simp only [withs, List.getElem?_cons_zero, List.getElem?_cons_succ, Option.bind, Option.getD]
        repeat (first | (with_reducible refine all_isV ?_) | (with_reducible refine all_isB ?_; intro sx Ax kx cx tx Bx mx dx hvx hwx))
        go_simp
        replace HE := Lib.hid (HE.out.step hox)
        clear hox
        rcases HQ.out with ⟨hsb, hzb, hzy, Iq⟩ | ⟨hnb, hzy⟩ | ⟨hnb, hny⟩
        · replace hsb := Lib.hid hsb
          obtain ⟨i0, i1, i2, i3, i4, i5⟩ := YB.cells HE 3 rfl
          obtain ⟨j0, j1, j2, j3, j4, j5⟩ := YB.cells HE 2 rfl
          go_wp2_with fail
          (with_reducible refine (bquo_b p ql qh Hql.out Hqh.out hsb.out hzb (YB.bv HE 3 rfl) (YB.bv HE 2 rfl) Bla Bha Blb Bhb (by omega) (Lib.hid (hT.out.keep HE.out.only))).mono ?_)
          rintro e w21 ⟨s21, A21, k21, c21, t21, B21, m21, d21, rfl, -, hv, -, hw, ho⟩
          have he := (HE.out.step ho).new (x := ql) (y := qh) hv hw
          clear i0 i1 i2 i3 i4 i5 j0 j1 j2 j3 j4 j5 hv hw ho
          replace HE := Lib.hid he
          clear he
          obtain ⟨i0, i1, i2, i3, i4, i5⟩ := YB.cells HE 2 rfl
          obtain ⟨j0, j1, j2, j3, j4, j5⟩ := YB.cells HE 1 rfl
          go_wp2_with fail
          (with_reducible refine (bquo_b p rl rh Hrl.out Hrh.out rfl hzy (YB.bv HE 2 rfl) (YB.bv HE 1 rfl) Bxa Bxa Byb Byb (by omega) (Lib.hid (hT.out.keep HE.out.only))).mono ?_)
          rintro e w22 ⟨s22, A22, k22, c22, t22, B22, m22, d22, rfl, -, hv, -, hw, ho⟩
          have he := (HE.out.step ho).new (x := rl) (y := rh) hv hw
          clear i0 i1 i2 i3 i4 i5 j0 j1 j2 j3 j4 j5 hv hw ho
          replace HE := Lib.hid he
          clear he
          obtain ⟨i0, i1, i2, i3, i4, i5⟩ := YB.cells HE 0 rfl
          obtain ⟨j0, j1, j2, j3, j4, j5⟩ := YB.cells HE 1 rfl
          go_wp2_with fail
          (with_reducible refine (within_b Iq.1 Iq.2 (YB.bv HE 0 rfl) (YB.bv HE 1 rfl) Brl Brh Bql Bqh (by omega)).mono ?_)
          rintro e w23 ⟨rfl, ho⟩
          replace HE := Lib.hid (HE.out.step ho)
          clear ho i0 i1 i2 i3 i4 i5 j0 j1 j2 j3 j4 j5
          go_wp2_with fail
          go_ret
          exact ⟨rfl, HE.out.only⟩
        · replace hnb := Lib.hid hnb
          obtain ⟨i0, i1, i2, i3, i4, i5⟩ := YB.cells HE 3 rfl
          obtain ⟨j0, j1, j2, j3, j4, j5⟩ := YB.cells HE 2 rfl
          go_wp2_with fail
          (with_reducible refine (bquo_no p hnb.out (YB.bv HE 3 rfl) (YB.bv HE 2 rfl)).mono ?_)
          rintro e w21 ⟨s21, A21, k21, c21, t21, B21, m21, d21, rfl, -, hv, -, hw, ho⟩
          have he := (HE.out.step ho).new (x := ⟨0, 0⟩) (y := ⟨0, 0⟩) hv hw
          clear i0 i1 i2 i3 i4 i5 j0 j1 j2 j3 j4 j5 hv hw ho
          replace HE := Lib.hid he
          clear he
          obtain ⟨i0, i1, i2, i3, i4, i5⟩ := YB.cells HE 2 rfl
          obtain ⟨j0, j1, j2, j3, j4, j5⟩ := YB.cells HE 1 rfl
          go_wp2_with fail
          (with_reducible refine (bquo_b p rl rh Hrl.out Hrh.out rfl hzy (YB.bv HE 2 rfl) (YB.bv HE 1 rfl) Bxa Bxa Byb Byb (by omega) (Lib.hid (hT.out.keep HE.out.only))).mono ?_)
          rintro e w22 ⟨s22, A22, k22, c22, t22, B22, m22, d22, rfl, -, hv, -, hw, ho⟩
          have he := (HE.out.step ho).new (x := rl) (y := rh) hv hw
          clear i0 i1 i2 i3 i4 i5 j0 j1 j2 j3 j4 j5 hv hw ho
          replace HE := Lib.hid he
          clear he
          go_wp2_with fail
          go_ret
          exact ⟨rfl, HE.out.only⟩
        · replace hnb := Lib.hid hnb
          replace hny := Lib.hid hny
          obtain ⟨i0, i1, i2, i3, i4, i5⟩ := YB.cells HE 3 rfl
          obtain ⟨j0, j1, j2, j3, j4, j5⟩ := YB.cells HE 2 rfl
          go_wp2_with fail
          (with_reducible refine (bquo_no p hnb.out (YB.bv HE 3 rfl) (YB.bv HE 2 rfl)).mono ?_)
          rintro e w21 ⟨s21, A21, k21, c21, t21, B21, m21, d21, rfl, -, hv, -, hw, ho⟩
          have he := (HE.out.step ho).new (x := ⟨0, 0⟩) (y := ⟨0, 0⟩) hv hw
          clear i0 i1 i2 i3 i4 i5 j0 j1 j2 j3 j4 j5 hv hw ho
          replace HE := Lib.hid he
          clear he
          obtain ⟨i0, i1, i2, i3, i4, i5⟩ := YB.cells HE 2 rfl
          obtain ⟨j0, j1, j2, j3, j4, j5⟩ := YB.cells HE 1 rfl
          go_wp2_with fail
          (with_reducible refine (bquo_no p (fun _ => hny.out) (YB.bv HE 2 rfl) (YB.bv HE 1 rfl)).mono ?_)
          rintro e w22 ⟨s22, A22, k22, c22, t22, B22, m22, d22, rfl, -, hv, -, hw, ho⟩
          have he := (HE.out.step ho).new (x := ⟨0, 0⟩) (y := ⟨0, 0⟩) hv hw
          clear i0 i1 i2 i3 i4 i5 j0 j1 j2 j3 j4 j5 hv hw ho
          replace HE := Lib.hid he
          clear he
          go_wp2_with fail
          go_ret
          exact ⟨rfl, HE.out.only⟩
      case hl =>
        repeat (refine List.forall_mem_cons.2 ⟨?_, ?_⟩; first | exact isV.lasts _ | exact isB.lasts _ _)
        exact fun _ h => (by cases h)
    case hl =>
      repeat (refine List.forall_mem_cons.2 ⟨?_, ?_⟩; first | exact isV.lasts _ | exact isB.lasts _ _ | exact isPtr.lasts _ _ _)
      exact fun _ h => (by cases h)
  case hl =>
    repeat (refine List.forall_mem_cons.2 ⟨?_, ?_⟩; first | exact isV.lasts _ | exact isB.lasts _ _ | exact isPtr.lasts _ _ _)
    exact fun _ h => (by cases h)

end Go.Proofs.YtgiejjpemhceiaaDoor
