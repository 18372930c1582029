/-
  WholeTells: the law's walk.
-/
import Derived.Test.YtigpnopeacicpaaDoorTwJ22
import Derived.Test.YtigpnopeacicpaaDoorTwJ23
import Derived.Test.YtigpnopeacicpaaDoorTwGWhB
import Derived.Test.YtigpnopeacicpaaDoorTwJ8
import Derived.Test.YtigpnopeacicpaaDoorTwJ6
namespace Go.Proofs.YtigpnopeacicpaaDoor
set_option linter.unusedSimpArgs false
open Go.RowKit

def IfB (b c : Bool) (P : Prop) : Prop := b = c → P
theorem IfB.yes {b : Bool} {P : Prop} (h : IfB b b P) : P := h rfl
theorem load_wi {w : World} {g : Nat} {s : Bool} {A : Option Addr} {k c : Nat} (c0 : w.cell? ⟨g, 0, none⟩ = some (.bool s)) (c1 : w.cell? ⟨g, 1, none⟩ = some (.slice A k c)) : (Instr.loadAt 44 (.pointer (some ⟨g, 0, none⟩))).run Tryd.prog w = .ok (.agg #[.bool s, .slice A k c]) w := by
  go_simp
theorem cat_small {SG DG : ByteArray} {sx : Int} {N : Nat} (h : (sx < 0 ∧ SG = ⟨#[45]⟩) ∨ (¬ sx < 0 ∧ SG = ⟨#[]⟩)) (hn : (Lib.decDigits N).length ≤ 1000000) (hd : (⟨(Lib.decDigits N).toArray⟩ : ByteArray) = DG) : ¬ 9223372036854775807 < SG.size + DG.size := by
  have h1 : SG.size ≤ 1 := by rcases h with ⟨_, rfl⟩ | ⟨_, rfl⟩ <;> decide
  have h2 : DG.size = (Lib.decDigits N).length := by rw [← hd]; rfl
  omega
theorem rvz0 (w : World) : Hid (RV w (.slice none 0 0) (Dy.z ⟨0, 0⟩).natAbs) := RV.nil w
theorem crz0 : Cr false 0 0 := ⟨by decide, by show 0 = (R.limbsOf 0).length; rw [R.limbsOf_zero]; rfl⟩
theorem quoV_w {w : World} {a b : Value} {x y : Int} (up ok : Bool) (r : Int) (ha : Hid (IV w a x)) (hb : Hid (IV w b y)) (h : Hid (IfB ok false (y = 0 ∧ r = 0) ∧ IfB ok true (y ≠ 0 ∧ quoI up x y = r))) (hf : Hid (Few (x.natAbs + 1))) : Calls Tryd.prog 15 #[a, b, .bool up] w (QPost r ok w) := by
  cases ok
  · obtain ⟨rfl, rfl⟩ := IfB.yes h.out.1
    exact quo_none up ha hb
  · obtain ⟨h1, rfl⟩ := IfB.yes h.out.2
    exact quo_some up ha hb (Lib.hid h1) hf
theorem rfloorB_w {w : World} {a b : Value} {x y : Dy} {N : Nat} {up : Bool} (r : Dy) (hr : nrm (quoI up (intD x) (intD y)) 0 = r) (ha : Hid (RD w a x)) (hb : Hid (RD w b y)) (bx : Hid (Bnd N x)) (by_ : Hid (Bnd N y)) (hN : N ≤ 1000000) (hxe : 0 ≤ x.e) (hye : 0 ≤ y.e) (hy0 : y.z ≠ 0) : Calls Tryd.prog 18 #[a, b, .bool up] w (RDP r w) := hr ▸ rfloor_d up ha hb bx by_ hN hxe hye hy0
theorem cmpB_w {w : World} {a b : Value} {x y : Int} (c : Int) (ha : Hid (IV w a x)) (hb : Hid (IV w b y)) (hc : cmpI x y = c) : Calls Tryd.prog 19 #[a, b] w fun e w' => e = .returned (.int .i64 c) ∧ Only [] w w' := hc ▸ cmp_w ha hb
theorem signB_w {w : World} {a : Value} {z : Int} (q : Int) (ha : Hid (IV w a z)) (hq : z.sign = q) : Calls Tryd.prog 21 #[a] w fun e w' => e = .returned (.int .i64 q) ∧ Only [] w w' := hq ▸ sign_w ha
theorem rnotB_w {w : World} {a : Value} {x : Dy} {N : Nat} (r : Dy) (hr : dNot x = r) (ha : Hid (RD w a x)) (hb : Hid (Bnd N x)) (hN : N ≤ 8000000) : Calls Tryd.prog 23 #[a] w (RDP r w) := hr ▸ rnot_d ha hb hN
theorem raddB_w {w : World} {a b : Value} {x y : Dy} {N : Nat} (r : Dy) (hr : dAdd x y = r) (ha : Hid (RD w a x)) (hb : Hid (RD w b y)) (cx : Hid (Can x)) (cy : Hid (Can y)) (bx : Hid (Bnd N x)) (by_ : Hid (Bnd N y)) (hN : N ≤ 2000000) : Calls Tryd.prog 25 #[a, b] w (RDP r w) := hr ▸ radd_d ha hb cx cy bx by_ hN
theorem rsubB_w {w : World} {a b : Value} {x y : Dy} {N : Nat} (r : Dy) (hr : dSub x y = r) (ha : Hid (RD w a x)) (hb : Hid (RD w b y)) (cx : Hid (Can x)) (bx : Hid (Bnd N x)) (by_ : Hid (Bnd N y)) (hN : N ≤ 1000000) : Calls Tryd.prog 27 #[a, b] w (RDP r w) := hr ▸ rsub_d ha hb cx bx by_ hN
theorem rmulB_w {w : World} {a b : Value} {x y : Dy} {N : Nat} (r : Dy) (hr : dMul x y = r) (ha : Hid (RD w a x)) (hb : Hid (RD w b y)) (bx : Hid (Bnd N x)) (by_ : Hid (Bnd N y)) (hN : N ≤ 2000000) : Calls Tryd.prog 29 #[a, b] w (RDP r w) := hr ▸ rmul_d ha hb bx by_ hN
theorem rintB_w (v : Int) (r : Dy) (hr : nrm v 0 = r) (w : World) (hv : Hid (-9223372036854775808 ≤ v ∧ v ≤ 9223372036854775807)) : Calls Tryd.prog 35 #[.int .i64 v] w (RDP r w) := hr ▸ rint_d v w hv
theorem rtextH_v {w : World} {a : Value} {n : Nat} (S : ByteArray) (ha : Hid (RV w a n)) (hf : Hid (Few n)) (hd : Hid ((Lib.decDigits n).length ≤ 1000000)) (hS : (⟨(Lib.decDigits n).toArray⟩ : ByteArray) = S) : Calls Tryd.prog 31 #[a] w fun e w' => e = .returned (.string S) ∧ Only [] w w' := hS ▸ rtext_v ha hf hd
set_option maxHeartbeats 800000 in
set_option maxRecDepth 100000 in
theorem wtells_out (n1 n2 : Bool) (A B : Option Addr) (p c q d : Nat) (v : Int) (w0 : World) (htab : Hid (Tab w0)) (HL : Hid (lightB [⟨A, p, c⟩, ⟨B, q, d⟩] = false)) :
    Calls Tryd.prog 4 #[.bool n1, .bool n2, .slice A p c, .slice B q d, .int .i64 v] w0 fun e w' => e = .returned (.bool true) ∧ Only [] w0 w' := by
  go_enter Tryd.func4, Tryd.ntmps4
  go_wp2_with fail
  refine (light_v [⟨A, p, c⟩, ⟨B, q, d⟩] 2 (Lib.hid rfl) (by omega)).mono ?_
  rintro e w1 ⟨rfl, ho1⟩
  rw [HL.out]
  have HO1 := Lib.hid ho1
  clear ho1
  go_wp2_with fail
  refine (alive2_any w1 (Lib.hid (htab.out.only HO1.out))).mono ?_
  rintro e w2 ⟨rfl, ho2⟩
  have HO2 := Lib.hid (HO1.out.nil_trans ho2)
  clear ho2
  go_wp2_with fail
  go_ret
  exact ⟨rfl, HO2.out⟩
structure WTF1 (n1 n2 : Bool) (A B : Option Addr) (p c q d N M : Nat) (xs ys : List Nat) (x y v dl du zn za zs zm zmm zaa sx sy cxy : Int) (rx ry fl fu vn va vs vm vmm vaa vo : Dy) (SG ST DG : ByteArray) (w0 : World) : Prop where
  htab : Hid (Tab w0)
  HL : Hid (lightB [⟨A, p, c⟩, ⟨B, q, d⟩] = true)
  hr : Hid (LRead w0 A xs)
  hx : Hid (Limb xs)
  hp : Hid (p = xs.length)
  hs : Hid (LRead w0 B ys)
  hy : Hid (Limb ys)
  hq : Hid (q = ys.length)
  hvx : Hid (sg n1 (val xs) = x)
  hvy : Hid (sg n2 (val ys) = y)
  HA0 : Hid (NV w0 (.slice A p c) N)
  Hrx : Hid (nrm x 0 = rx)
  Hry : Hid (nrm y 0 = ry)
  Hsx : Hid (rx.z.sign = sx)
  Hsy : Hid (ry.z.sign = sy)
  Hwsx : Hid (x.sign = sx)
  Hzr : Hid ((sy == 0) = false)
  Hzk : Hid (false = !true)
  HQdl : Hid (IfB true false (y = 0 ∧ dl = 0) ∧ IfB true true (y ≠ 0 ∧ quoI false x y = dl))
  HQdu : Hid (IfB true false (y = 0 ∧ du = 0) ∧ IfB true true (y ≠ 0 ∧ quoI true x y = du))
  HFq : Hid (Few (x.natAbs + 1))
  Hfl : Hid (nrm (quoI false (intD rx) (intD ry)) 0 = fl)
  Hfu : Hid (nrm (quoI true (intD rx) (intD ry)) 0 = fu)
  Hdl : Hid (IfB true true (nrm dl 0 = fl))
  Hdu : Hid (IfB true true (nrm du 0 = fu))
  Hq0 : Hid (IfB true true (ry.z ≠ 0))
  Hz0 : Hid (IfB true false (nrm dl 0 = ⟨0, 0⟩ ∧ nrm du 0 = ⟨0, 0⟩))
  Hpe : Hid (0 ≤ rx.e)
  Hqe : Hid (0 ≤ ry.e)
  HSG : Hid ((sx < 0 ∧ SG = ⟨#[45]⟩) ∨ (¬ sx < 0 ∧ SG = ⟨#[]⟩))
  Hcxy : Hid (cmpI x y = cxy)
  Hrcxy : Hid (cmpQ rx.q ry.q = cxy)
  Hzn : Hid (-x = zn)
  Hrvn : Hid (dNot rx = vn)
  Hvn : Hid (nrm zn 0 = vn)
  Hza : Hid (x + y = za)
  Hrva : Hid (dAdd rx ry = va)
  Hva : Hid (nrm za 0 = va)
  Hzs : Hid (x - y = zs)
  Hrvs : Hid (dSub rx ry = vs)
  Hvs : Hid (nrm zs 0 = vs)
  Hzm : Hid (x * y = zm)
  Hrvm : Hid (dMul rx ry = vm)
  Hvm : Hid (nrm zm 0 = vm)
  Hzmm : Hid (zm * y = zmm)
  Hrvmm : Hid (dMul vm ry = vmm)
  Hvmm : Hid (nrm zmm 0 = vmm)
  Hzaa : Hid (za + x = zaa)
  Hrvaa : Hid (dAdd va rx = vaa)
  Hvaa : Hid (nrm zaa 0 = vaa)
  Hvo : Hid (nrm v 0 = vo)
  Hv64 : Hid (-9223372036854775808 ≤ v ∧ v ≤ 9223372036854775807)
  HFa : Hid (Few za.natAbs)
  HFs : Hid (Few zs.natAbs)
  HFm : Hid (Few zm.natAbs)
  HFmm : Hid (Few zmm.natAbs)
  HFaa : Hid (Few zaa.natAbs)
  HFN : Hid (Few N)
  HDl : Hid ((Lib.decDigits x.natAbs).length ≤ 1000000)
  HDN : Hid ((Lib.decDigits N).length ≤ 1000000)
  HST : Hid ((⟨((if x < 0 then [45] else []) ++ Lib.decDigits x.natAbs).toArray⟩ : ByteArray) = ST)
  HDG : Hid ((⟨(Lib.decDigits N).toArray⟩ : ByteArray) = DG)
  HCat : Hid (SG ++ DG = ST)
  Crx : Hid (Can rx)
  Cry : Hid (Can ry)
  Cva : Hid (Can va)
  B0 : Hid (Bnd M ⟨0, 0⟩)
  Brx : Hid (Bnd M rx)
  Bry : Hid (Bnd M ry)
  Bfl : Hid (Bnd M fl)
  Bfu : Hid (Bnd M fu)
  Bvn : Hid (Bnd M vn)
  Bva : Hid (Bnd M va)
  Bvs : Hid (Bnd M vs)
  Bvm : Hid (Bnd M vm)
  Bvmm : Hid (Bnd M vmm)
  Bvaa : Hid (Bnd M vaa)
  Bvo : Hid (Bnd M vo)
set_option maxHeartbeats 100000000 in
set_option maxRecDepth 100000 in
theorem wtells_in1F (n1 n2 : Bool) (A B : Option Addr) (p c q d N M : Nat) (xs ys : List Nat) (x y v dl du zn za zs zm zmm zaa sx sy cxy : Int) (rx ry fl fu vn va vs vm vmm vaa vo : Dy) (SG ST DG : ByteArray) (w0 : World) (hM : M ≤ 200000) (_ : p ≤ c) (hp40 : p ≤ 40) (_ : q ≤ d) (hq40 : q ≤ 40) (FF : WTF1 n1 n2 A B p c q d N M xs ys x y v dl du zn za zs zm zmm zaa sx sy cxy rx ry fl fu vn va vs vm vmm vaa vo SG ST DG w0) :
    Calls Tryd.prog 4 #[.bool n1, .bool n2, .slice A p c, .slice B q d, .int .i64 v] w0 fun e w' => e = .returned (.bool true) ∧ Only [] w0 w' := by
  go_enter Tryd.func4, Tryd.ntmps4
  go_wp2_with fail
  refine (light_v [⟨A, p, c⟩, ⟨B, q, d⟩] 2 (Lib.hid rfl) (by omega)).mono ?_
  rintro e w1 ⟨rfl, ho1⟩
  rw [FF.HL.out]
  have HO1 := Lib.hid ho1
  clear ho1
  go_wp2_with fail
  refine (alive2_any w1 (Lib.hid (FF.htab.out.only HO1.out))).mono ?_
  rintro e w2 ⟨rfl, ho2⟩
  have HO2 := Lib.hid (HO1.out.nil_trans ho2)
  clear ho2
  go_wp2_with fail
  refine (lent_any A p c xs w2 (Lib.hid (FF.hr.out.only HO2.out)) FF.hp (by omega)).mono ?_
  rintro e w5 ⟨gL, cL, rfl, hL, -, ho⟩
  have HLa := Lib.hid hL
  have HNa := Lib.hid (FF.hp.out ▸ (hL.nv FF.hx.out (by have := FF.hp.out; omega)) : NV w5 (.slice (some ⟨gL, 0, none⟩) p cL) (val xs))
  have HO5 := Lib.hid (HO2.out.nil_trans ho)
  clear hL ho
  go_wp2_with fail
  refine (lent_any B q d ys w5 (Lib.hid (FF.hs.out.only HO5.out)) FF.hq (by omega)).mono ?_
  rintro e w ⟨gM, cM, rfl, hL, -, ho⟩
  have HLb := Lib.hid hL
  have HNb := Lib.hid (FF.hq.out ▸ (hL.nv FF.hy.out (by have := FF.hq.out; omega)) : NV w (.slice (some ⟨gM, 0, none⟩) q cM) (val ys))
  replace HNa := Lib.hid (HNa.out.only ho)
  replace HLa := Lib.hid (HLa.out.only ho (by simp))
  have HO6 := Lib.hid (HO5.out.nil_trans ho)
  clear hL ho
  have HXv : Hid (IV w (.agg #[.bool n1, .slice (some ⟨gL, 0, none⟩) p cL]) x) := FF.hvx.out ▸ IV.mk HNa.out
  have HYv : Hid (IV w (.agg #[.bool n2, .slice (some ⟨gM, 0, none⟩) q cM]) y) := FF.hvy.out ▸ IV.mk HNb.out
  have hk := ((GB.start w).new 44 [.bool n1, .slice (some ⟨gL, 0, none⟩) p cL] (noLimb2 _ _ _ _)).new 44 [.bool n2, .slice (some ⟨gM, 0, none⟩) q cM] (noLimb2 _ _ _ _)
  simp only [World.size_alloc] at hk
  have hox : Only [] w ((w.alloc (.cells #[.bool n1, .slice (some ⟨gL, 0, none⟩) p cL] 44)).alloc (.cells #[.bool n2, .slice (some ⟨gM, 0, none⟩) q cM] 44)) := ((Only.refl [] w).alloc _).nil_trans ((Only.refl [] _).alloc _)
  have HG := Lib.hid hk
  have HI := Lib.hid (((WL.nil w).cons HXv).cons HYv |>.step hox)
  have HR := Lib.hid (RL.nil ((w.alloc (.cells #[.bool n1, .slice (some ⟨gL, 0, none⟩) p cL] 44)).alloc (.cells #[.bool n2, .slice (some ⟨gM, 0, none⟩) q cM] 44)))
  clear hk hox HXv HYv HNa HNb
  go_upto_region 5 with fail
  generalize (w.alloc _).alloc _ = w7 at *
  have halr : ∀ w : World, (Instr.alloc 47 true (.tuple #[])).run Tryd.prog w = .ok (.pointer (some ⟨w.heap.size, 0, none⟩)) (w.alloc (.cells #[.bool false, .slice none 0 0, .int .i64 0] 47)) := fun _ => by kernel_rfl
  apply wp_region_typed_tail3 6 [4, 5] 47 #[.bool false, .slice none 0 0, .int .i64 0] (by kernel_rfl) (by kernel_rfl) halr (by kernel_rfl) [isV _, isRD rx, isV _, isRD ry, isPtr w7 47 [.bool false, .slice none 0 0, .int .i64 0], isPtr w7 47 [.bool false, .slice none 0 0, .int .i64 0]] [[], [0], [], [2], [], []] (by kernel_rfl) (by kernel_rfl) (by kernel_rfl)
  case ho =>
    simp only [List.take_succ_cons, List.take_zero]
    refine owes2_cons (fun wx hox => ?_) ?_
    · focus
        have hg := Lib.hid (HG.out.step hox)
        have hi := Lib.hid (HI.out.step hox)
        have hr := Lib.hid (HR.out.step hox)
        obtain ⟨x1_0, x1_1⟩ := GB.c2 hg 1 rfl
        clear hg hi hr
        refine withs_plain rfl ?_
        simp only [withs, List.getElem?_cons_zero, List.getElem?_cons_succ, Option.bind, Option.getD]
        repeat (first | (with_reducible refine all_isV ?_) | (with_reducible refine all_isRD ?_; intro sx Ax kx cx hvx hwx))
        go_simp
        exact ⟨Only.refl _ _, isV.self _ _⟩
    refine owes2_cons (fun wx hox => ?_) ?_
    · focus
        have hg := Lib.hid (HG.out.step hox)
        have hi := Lib.hid (HI.out.step hox)
        have hr := Lib.hid (HR.out.step hox)
        have iv_x := (WL.at (z := x) hi 1 rfl)
        clear hg hi hr
        refine withs_plain rfl ?_
        simp only [withs, List.getElem?_cons_zero, List.getElem?_cons_succ, Option.bind, Option.getD]
        repeat (first | (with_reducible refine all_isV ?_) | (with_reducible refine all_isRD ?_; intro sx Ax kx cx hvx hwx))
        go_simp
        (with_reducible exact grow_rd (rrefH_w rx FF.Hrx.out iv_x))
    refine owes2_cons (fun wx hox => ?_) ?_
    · focus
        have hg := Lib.hid (HG.out.step hox)
        have hi := Lib.hid (HI.out.step hox)
        have hr := Lib.hid (HR.out.step hox)
        obtain ⟨x2_0, x2_1⟩ := GB.c2 hg 0 rfl
        clear hg hi hr
        refine withs_plain rfl ?_
        simp only [withs, List.getElem?_cons_zero, List.getElem?_cons_succ, Option.bind, Option.getD]
        repeat (first | (with_reducible refine all_isV ?_) | (with_reducible refine all_isRD ?_; intro sx Ax kx cx hvx hwx))
        go_simp
        exact ⟨Only.refl _ _, isV.self _ _⟩
    refine owes2_cons (fun wx hox => ?_) ?_
    · focus
        have hg := Lib.hid (HG.out.step hox)
        have hi := Lib.hid (HI.out.step hox)
        have hr := Lib.hid (HR.out.step hox)
        have iv_y := (WL.at (z := y) hi 0 rfl)
        clear hg hi hr
        refine withs_plain rfl ?_
        simp only [withs, List.getElem?_cons_zero, List.getElem?_cons_succ, Option.bind, Option.getD]
        repeat (first | (with_reducible refine all_isV ?_) | (with_reducible refine all_isRD ?_; intro sx Ax kx cx hvx hwx))
        go_simp
        (with_reducible exact grow_rd (rrefH_w ry FF.Hry.out iv_y))
    iterate 2
      refine owes2_cons (fun wx hox => ?_) ?_
      · focus
          refine withs_plain rfl ?_
          simp only [withs, List.getElem?_cons_zero, List.getElem?_cons_succ, Option.bind, Option.getD]
          repeat (first | (with_reducible refine all_isV ?_) | (with_reducible refine all_isRD ?_; intro sx Ax kx cx hvx hwx))
          go_simp
          (exact isPtr.new hox _ _)
    exact owes2_nil
  case hl =>
    repeat (refine List.forall_mem_cons.2 ⟨?_, ?_⟩; first | exact isV.lasts _ | exact isRD.lasts _ | exact isPtr.lasts _ _ _)
    exact fun _ h => (by cases h)
  simp only [List.drop_succ_cons, List.drop_zero]
  intro wx hox
  refine withs_of (by simp only [List.length, List.range, List.range.loop]; exact rfl) ?_
  simp only [withs, List.getElem?_cons_zero, List.getElem?_cons_succ, Option.bind, Option.getD]
  with_reducible refine all_isV ?_
  with_reducible refine all_isRD ?_
  intro s1 A1 k1 c1 hv1 hw1
  with_reducible refine all_isV ?_
  with_reducible refine all_isRD ?_
  intro s3 A3 k3 c3 hv3 hw3
  with_reducible refine all_isPtr ?_
  intro g4 hb4 hg4
  with_reducible refine all_isPtr ?_
  intro g5 hb5 hg5
  go_simp
  intro hap
  have n0_1 : ¬ g4 = g5 := fun hc => hap 4 (by decide) 5 (by decide) (by decide) 15 16 rfl rfl (by rw [hc]; rfl)
  have N0_1 := Lib.hid n0_1
  have N1_0 : Hid (¬ g5 = g4) := fun hc => n0_1 hc.symm
  clear n0_1
  clear hap
  have hsz := HG.out.only.size
  have hga0 := hg4.out
  have Ng0 : Hid (w.heap.size ≤ g4) := Nat.le_trans hsz hga0
  have Ne0 := Lib.hid (GB.apart HG.out hg4.out)
  have BL0 := hb4
  clear hga0 hb4 hg4
  have hga1 := hg5.out
  have Ng1 : Hid (w.heap.size ≤ g5) := Nat.le_trans hsz hga1
  have Ne1 := Lib.hid (GB.apart HG.out hg5.out)
  have BL1 := hb5
  clear hga1 hb5 hg5
  clear hsz
  replace HG := Lib.hid (HG.out.step hox)
  replace HI := Lib.hid (HI.out.step hox)
  replace HR := Lib.hid (HR.out.step hox)
  clear hox
  replace HR := Lib.hid (HR.out.cons hv1 hw1)
  replace HR := Lib.hid (HR.out.cons hv3 hw3)
  have HG9 := Lib.hid (HG.out.adopt3 (u := .bool s1) (v := .slice A1 k1 c1) (x := .int .i64 rx.e) BL0.out (noLimb3 _ _ _ _ _) Ng0.out Ne0.out)
  have HI9 := Lib.hid (HI.out.far (only_set3 wx g4 (.bool s1) (.slice A1 k1 c1) (.int .i64 rx.e)) BL0.out (noLimb3 _ _ _ _ _))
  have HR9 := Lib.hid (HR.out.far (only_set3 wx g4 (.bool s1) (.slice A1 k1 c1) (.int .i64 rx.e)) BL0.out (noLimb3 _ _ _ _ _))
  replace BL1 := Lib.hid (Blk.farX BL1.out (only_set3 wx g4 (.bool s1) (.slice A1 k1 c1) (.int .i64 rx.e)) N1_0.out)
  refine wpList_store 47 (.tmp 15) (.tmp 44) rfl rfl rfl (u := .pointer (some ⟨g4, 0, none⟩)) (v := .agg #[.bool s1, .slice A1 k1 c1, .int .i64 rx.e]) (by kernel_rfl) (by kernel_rfl) (store_rd BL0.out _ _ _ _ _) ?_
  clear HG HI HR BL0 Ne0 Ng0
  generalize ((wx.setCell _ _).setCell _ _).setCell _ _ = wy0_w10 at *
  have HG := HG9
  have HI := HI9
  have HR := HR9
  clear HG9 HI9 HR9
  have HG9 := Lib.hid (HG.out.adopt3 (u := .bool s3) (v := .slice A3 k3 c3) (x := .int .i64 ry.e) BL1.out (noLimb3 _ _ _ _ _) Ng1.out (GB.apart1 Ne1.out N0_1.out))
  have HI9 := Lib.hid (HI.out.far (only_set3 wy0_w10 g5 (.bool s3) (.slice A3 k3 c3) (.int .i64 ry.e)) BL1.out (noLimb3 _ _ _ _ _))
  have HR9 := Lib.hid (HR.out.far (only_set3 wy0_w10 g5 (.bool s3) (.slice A3 k3 c3) (.int .i64 ry.e)) BL1.out (noLimb3 _ _ _ _ _))
  refine wpList_store 47 (.tmp 16) (.tmp 46) rfl rfl rfl (u := .pointer (some ⟨g5, 0, none⟩)) (v := .agg #[.bool s3, .slice A3 k3 c3, .int .i64 ry.e]) (by kernel_rfl) (by kernel_rfl) (store_rd BL1.out _ _ _ _ _) ?_
  clear HG HI HR BL1 Ne1 Ng1
  generalize ((wy0_w10.setCell _ _).setCell _ _).setCell _ _ = wy1_w10 at *
  have HG := HG9
  have HI := HI9
  have HR := HR9
  clear HG9 HI9 HR9
  clear N0_1 N1_0
  go_upto_region 6 with fail
  generalize hww_ : wy1_w10 = w10 at *
  clear hww_
  generalize hgg_ : g4 = g_p at *
  clear hgg_
  generalize hgg_ : g5 = g_q at *
  clear hgg_
  clear halr
  obtain ⟨x3_0, x3_1⟩ := GB.c2 HG 3 rfl
  obtain ⟨x4_0, x4_1⟩ := GB.c2 HG 2 rfl
  apply wp_region_lit
  refine wpList_load 44 (.tmp 13) 48 rfl rfl rfl (u := .pointer (some ⟨w.heap.size, 0, none⟩)) (by kernel_rfl) (load_wi x3_0 x3_1) ?_
  simp only [List.setIfInBounds_toArray, List.set_cons_zero, List.set_cons_succ]
  refine wpList_load 44 (.tmp 14) 49 rfl rfl rfl (u := .pointer (some ⟨(w.heap.size + 1), 0, none⟩)) (by kernel_rfl) (load_wi x4_0 x4_1) ?_
  simp only [List.setIfInBounds_toArray, List.set_cons_zero, List.set_cons_succ]
  clear x3_0 x3_1 x4_0 x4_1
  go_wp2_with fail
  (with_reducible refine (quoV_w false true dl (WL.at (z := x) HI 1 rfl) (WL.at (z := y) HI 0 rfl) FF.HQdl FF.HFq).mono ?_)
  rintro e w111 ⟨sdl, Adl, kdl, cdl, rfl, hs_, hr_, hv_, ho⟩
  have HCdl : Hid (Cn sdl kdl dl) := ⟨hs_, hr_.len⟩
  have HV_ := Lib.hid hv_
  clear hs_ hr_ hv_
  have h_ := HG.out.step ho
  have i_ := HI.out.step ho
  have r_ := HR.out.step ho
  replace i_ := i_.cons HV_
  replace h_ := h_.new 44 [.bool sdl, .slice Adl kdl cdl] (noLimb2 _ _ _ _)
  replace i_ := i_.step ((Only.refl [] w111).alloc (.cells #[.bool sdl, .slice Adl kdl cdl] 44))
  replace r_ := r_.step ((Only.refl [] w111).alloc (.cells #[.bool sdl, .slice Adl kdl cdl] 44))
  replace HG := Lib.hid h_
  replace HI := Lib.hid i_
  replace HR := Lib.hid r_
  clear h_ i_ r_ ho
  clear HV_
  go_upto_region 7 with fail
  generalize w111.heap.size = g_dl at *
  generalize w111.alloc _ = w112 at *
  obtain ⟨x5_0, x5_1⟩ := GB.c2 HG 4 rfl
  obtain ⟨x6_0, x6_1⟩ := GB.c2 HG 3 rfl
  apply wp_region_lit
  refine wpList_load 44 (.tmp 13) 54 rfl rfl rfl (u := .pointer (some ⟨w.heap.size, 0, none⟩)) (by kernel_rfl) (load_wi x5_0 x5_1) ?_
  simp only [List.setIfInBounds_toArray, List.set_cons_zero, List.set_cons_succ]
  refine wpList_load 44 (.tmp 14) 55 rfl rfl rfl (u := .pointer (some ⟨(w.heap.size + 1), 0, none⟩)) (by kernel_rfl) (load_wi x6_0 x6_1) ?_
  simp only [List.setIfInBounds_toArray, List.set_cons_zero, List.set_cons_succ]
  clear x5_0 x5_1 x6_0 x6_1
  go_wp2_with fail
  (with_reducible refine (quoV_w true true du (WL.at (z := x) HI 2 rfl) (WL.at (z := y) HI 1 rfl) FF.HQdu FF.HFq).mono ?_)
  rintro e w113 ⟨sdu, Adu, kdu, cdu, rfl, hs_, hr_, hv_, ho⟩
  have HCdu : Hid (Cn sdu kdu du) := ⟨hs_, hr_.len⟩
  have HV_ := Lib.hid hv_
  clear hs_ hr_ hv_
  have h_ := HG.out.step ho
  have i_ := HI.out.step ho
  have r_ := HR.out.step ho
  replace i_ := i_.cons HV_
  replace h_ := h_.new 44 [.bool sdu, .slice Adu kdu cdu] (noLimb2 _ _ _ _)
  replace i_ := i_.step ((Only.refl [] w113).alloc (.cells #[.bool sdu, .slice Adu kdu cdu] 44))
  replace r_ := r_.step ((Only.refl [] w113).alloc (.cells #[.bool sdu, .slice Adu kdu cdu] 44))
  replace HG := Lib.hid h_
  replace HI := Lib.hid i_
  replace HR := Lib.hid r_
  clear h_ i_ r_ ho
  clear HV_
  go_upto_region 8 with fail
  generalize w113.heap.size = g_du at *
  generalize w113.alloc _ = w114 at *
  obtain ⟨x7_0, x7_1, x7_2⟩ := GB.c3 HG 2 rfl
  apply wp_region_lit
  refine wpList_load 47 (.tmp 16) 59 rfl rfl rfl (u := .pointer (some ⟨g_q, 0, none⟩)) (by kernel_rfl) (load_rd x7_0 x7_1 x7_2) ?_
  simp only [List.setIfInBounds_toArray, List.set_cons_zero, List.set_cons_succ]
  clear x7_0 x7_1 x7_2
  go_wp2_with fail
  have hz_ := FF.Hzr.out
  (with_reducible refine (rsign_d sy (RL.rd (x := ry) HR 0 rfl) FF.Hsy.out).mono ?_)
  rintro e w115 ⟨rfl, ho⟩
  replace HG := Lib.hid (HG.out.step ho)
  replace HI := Lib.hid (HI.out.step ho)
  replace HR := Lib.hid (HR.out.step ho)
  clear ho
  go_upto_region 9 with fail
  clear hz_
  go_cut [104] from 62 to 104 (fun v wx => v = .bool false ∧ Hid (GB w wx [⟨g_du, 44, [.bool sdu, .slice Adu kdu cdu]⟩, ⟨g_dl, 44, [.bool sdl, .slice Adl kdl cdl]⟩, ⟨g_q, 47, [.bool s3, .slice A3 k3 c3, .int .i64 ry.e]⟩, ⟨g_p, 47, [.bool s1, .slice A1 k1 c1, .int .i64 rx.e]⟩, ⟨(w.heap.size + 1), 44, [.bool n2, .slice (some ⟨gM, 0, none⟩) q cM]⟩, ⟨w.heap.size, 44, [.bool n1, .slice (some ⟨gL, 0, none⟩) p cL]⟩]) ∧ Hid (WL wx [⟨sdu, Adu, kdu, cdu, du⟩, ⟨sdl, Adl, kdl, cdl, dl⟩, ⟨n2, (some ⟨gM, 0, none⟩), q, cM, y⟩, ⟨n1, (some ⟨gL, 0, none⟩), p, cL, x⟩]) ∧ Hid (RL wx [⟨s3, A3, k3, c3, ry⟩, ⟨s1, A1, k1, c1, rx⟩]))
  case first =>
    apply wp_region_typed2 (by kernel_rfl) [isV _, isV _, isV _, isV _, isV _, isV _, isV _, isV _, isV _, isV _, isV _, isV undef, isV undef, isV undef, isV undef, isV undef, isV undef, isV undef, isV undef, isV undef, isV undef, isV _, isV _, isV _, isV _, isV _, isV _, isV _, isV _, isV _, isRD fl, isV (.bool true), isV _, isV _, isV _, isV _, isV _, isRD fu, isV (.bool true), isV _, isV _, isV _, isV _] [[], [], [0, 1], [2], [3], [3], [3, 4, 5], [3, 6], [7], [8], [8, 9], [10], [10], [10, 11, 12], [10, 13], [10, 14], [15], [15], [15, 16, 17], [15, 18], [10, 15, 19], [8, 10, 20], [8, 21], [22], [23], [23, 24], [23, 25], [26], [26], [26], [26, 28, 29], [26, 27, 30], [26, 31], [26, 32], [33], [33], [33], [33, 35, 36], [33, 34, 37], [33, 38], [26, 33, 39], [23, 26, 40], [23, 41]] (by kernel_rfl) (by kernel_rfl)
    case ho =>
      iterate 4
        refine owes2_cons (fun wx hox => ?_) ?_
        · focus
            refine withs_plain rfl ?_
            simp only [withs, List.getElem?_cons_zero, List.getElem?_cons_succ, Option.bind, Option.getD]
            repeat (first | (with_reducible refine all_isV ?_) | (with_reducible refine all_isRD ?_; intro sx Ax kx cx hvx hwx))
            go_simp
            exact ⟨Only.refl _ _, isV.self _ _⟩
      iterate 3
        refine owes2_cons (fun wx hox => ?_) ?_
        · focus
            refine withs_guard rfl rfl ?_
            simp only [withs, List.getElem?_cons_zero, List.getElem?_cons_succ, Option.bind, Option.getD]
            repeat (first | (with_reducible refine all_isV ?_) | (with_reducible refine all_isRD ?_; intro sx Ax kx cx hvx hwx))
            refine ⟨by kernel_rfl, ?_⟩
            go_simp
            exact ⟨Only.refl _ _, isV.self _ _⟩
      iterate 2
        refine owes2_cons (fun wx hox => ?_) ?_
        · focus
            refine withs_plain rfl ?_
            simp only [withs, List.getElem?_cons_zero, List.getElem?_cons_succ, Option.bind, Option.getD]
            repeat (first | (with_reducible refine all_isV ?_) | (with_reducible refine all_isRD ?_; intro sx Ax kx cx hvx hwx))
            go_simp
            exact ⟨Only.refl _ _, isV.self _ _⟩
      iterate 2
        refine owes2_cons (fun wx hox => ?_) ?_
        · focus
            refine withs_guard rfl rfl ?_
            simp only [withs, List.getElem?_cons_zero, List.getElem?_cons_succ, Option.bind, Option.getD]
            repeat (first | (with_reducible refine all_isV ?_) | (with_reducible refine all_isRD ?_; intro sx Ax kx cx hvx hwx))
            refine ⟨by kernel_rfl, ?_⟩
            go_simp
            exact ⟨Only.refl _ _, isV.self _ _⟩
      iterate 5
        refine owes2_cons (fun wx hox => ?_) ?_
        · refine withs_guardN false rfl rfl rfl ?_
          simp only [withs, List.getElem?_cons_zero, List.getElem?_cons_succ, Option.bind, Option.getD]
          repeat (first | (with_reducible refine all_isV ?_) | (with_reducible refine all_isRD ?_; intro sx Ax kx cx hvx hwx))
          exact ⟨by kernel_rfl, isV.self _ _⟩
      iterate 4
        refine owes2_cons (fun wx hox => ?_) ?_
        · refine withs_guardU rfl rfl ?_
          simp only [withs, List.getElem?_cons_zero, List.getElem?_cons_succ, Option.bind, Option.getD]
          repeat (first | (with_reducible refine all_isV ?_) | (with_reducible refine all_isRD ?_; intro sx Ax kx cx hvx hwx))
          exact ⟨by kernel_rfl, isV.self _ _⟩
      refine owes2_cons (fun wx hox => ?_) ?_
      · refine withs_guardN false rfl rfl rfl ?_
        simp only [withs, List.getElem?_cons_zero, List.getElem?_cons_succ, Option.bind, Option.getD]
        repeat (first | (with_reducible refine all_isV ?_) | (with_reducible refine all_isRD ?_; intro sx Ax kx cx hvx hwx))
        exact ⟨by kernel_rfl, isV.self _ _⟩
      refine owes2_cons (fun wx hox => ?_) ?_
      · focus
          refine withs_guard rfl rfl ?_
          simp only [withs, List.getElem?_cons_zero, List.getElem?_cons_succ, Option.bind, Option.getD]
          repeat (first | (with_reducible refine all_isV ?_) | (with_reducible refine all_isRD ?_; intro sx Ax kx cx hvx hwx))
          refine ⟨by kernel_rfl, ?_⟩
          go_simp
          exact ⟨Only.refl _ _, isV.self _ _⟩
      iterate 2
        refine owes2_cons (fun wx hox => ?_) ?_
        · focus
            refine withs_plain rfl ?_
            simp only [withs, List.getElem?_cons_zero, List.getElem?_cons_succ, Option.bind, Option.getD]
            repeat (first | (with_reducible refine all_isV ?_) | (with_reducible refine all_isRD ?_; intro sx Ax kx cx hvx hwx))
            go_simp
            exact ⟨Only.refl _ _, isV.self _ _⟩
      iterate 3
        refine owes2_cons (fun wx hox => ?_) ?_
        · focus
            refine withs_guard rfl rfl ?_
            simp only [withs, List.getElem?_cons_zero, List.getElem?_cons_succ, Option.bind, Option.getD]
            repeat (first | (with_reducible refine all_isV ?_) | (with_reducible refine all_isRD ?_; intro sx Ax kx cx hvx hwx))
            refine ⟨by kernel_rfl, ?_⟩
            go_simp
            exact ⟨Only.refl _ _, isV.self _ _⟩
      refine owes2_cons (fun wx hox => ?_) ?_
      · focus
          have hg := Lib.hid (HG.out.step hox)
          have hi := Lib.hid (HI.out.step hox)
          have hr := Lib.hid (HR.out.step hox)
          obtain ⟨x10_0, x10_1⟩ := GB.c2 hg 1 rfl
          clear hg hi hr
          refine withs_guard rfl rfl ?_
          simp only [withs, List.getElem?_cons_zero, List.getElem?_cons_succ, Option.bind, Option.getD]
          repeat (first | (with_reducible refine all_isV ?_) | (with_reducible refine all_isRD ?_; intro sx Ax kx cx hvx hwx))
          refine ⟨by kernel_rfl, ?_⟩
          go_simp
          exact ⟨Only.refl _ _, isV.self _ _⟩
      refine owes2_cons (fun wx hox => ?_) ?_
      · focus
          have hg := Lib.hid (HG.out.step hox)
          have hi := Lib.hid (HI.out.step hox)
          have hr := Lib.hid (HR.out.step hox)
          obtain ⟨x11_0, x11_1, x11_2⟩ := GB.c3 hg 3 rfl
          clear hg hi hr
          refine withs_guard rfl rfl ?_
          simp only [withs, List.getElem?_cons_zero, List.getElem?_cons_succ, Option.bind, Option.getD]
          repeat (first | (with_reducible refine all_isV ?_) | (with_reducible refine all_isRD ?_; intro sx Ax kx cx hvx hwx))
          refine ⟨by kernel_rfl, ?_⟩
          go_simp
          exact ⟨Only.refl _ _, isV.self _ _⟩
      refine owes2_cons (fun wx hox => ?_) ?_
      · focus
          have hg := Lib.hid (HG.out.step hox)
          have hi := Lib.hid (HI.out.step hox)
          have hr := Lib.hid (HR.out.step hox)
          obtain ⟨x12_0, x12_1, x12_2⟩ := GB.c3 hg 2 rfl
          clear hg hi hr
          refine withs_guard rfl rfl ?_
          simp only [withs, List.getElem?_cons_zero, List.getElem?_cons_succ, Option.bind, Option.getD]
          repeat (first | (with_reducible refine all_isV ?_) | (with_reducible refine all_isRD ?_; intro sx Ax kx cx hvx hwx))
          refine ⟨by kernel_rfl, ?_⟩
          go_simp
          exact ⟨Only.refl _ _, isV.self _ _⟩
      refine owes2_cons (fun wx hox => ?_) ?_
      · focus
          have hg := Lib.hid (HG.out.step hox)
          have hi := Lib.hid (HI.out.step hox)
          have hr := Lib.hid (HR.out.step hox)
          have rd_rx := (RL.rd (x := rx) hr 1 rfl)
          have rd_ry := (RL.rd (x := ry) hr 0 rfl)
          clear hg hi hr
          refine withs_guard rfl rfl ?_
          simp only [withs, List.getElem?_cons_zero, List.getElem?_cons_succ, Option.bind, Option.getD]
          repeat (first | (with_reducible refine all_isV ?_) | (with_reducible refine all_isRD ?_; intro sx Ax kx cx hvx hwx))
          refine ⟨by kernel_rfl, ?_⟩
          go_simp
          (with_reducible exact grow_rd (rfloorB_w fl FF.Hfl.out rd_rx rd_ry FF.Brx FF.Bry (by omega) FF.Hpe.out FF.Hqe.out (IfB.yes FF.Hq0.out)))
      refine owes2_cons (fun wx hox => ?_) ?_
      · focus
          have hg := Lib.hid (HG.out.step hox)
          have hi := Lib.hid (HI.out.step hox)
          have hr := Lib.hid (HR.out.step hox)
          have iv_dl := (WL.at (z := dl) hi 1 rfl)
          clear hg hi hr
          refine withs_guard rfl rfl ?_
          simp only [withs, List.getElem?_cons_zero, List.getElem?_cons_succ, Option.bind, Option.getD]
          repeat (first | (with_reducible refine all_isV ?_) | (with_reducible refine all_isRD ?_; intro sx Ax kx cx hvx hwx))
          refine ⟨by kernel_rfl, ?_⟩
          go_simp
          (with_reducible exact grow_of (is2H_w fl (IfB.yes FF.Hdl.out) iv_dl HCdl (RD.of (by assumption) (by assumption)) FF.Bfl (by omega)))
      iterate 2
        refine owes2_cons (fun wx hox => ?_) ?_
        · focus
            refine withs_guard rfl rfl ?_
            simp only [withs, List.getElem?_cons_zero, List.getElem?_cons_succ, Option.bind, Option.getD]
            repeat (first | (with_reducible refine all_isV ?_) | (with_reducible refine all_isRD ?_; intro sx Ax kx cx hvx hwx))
            refine ⟨by kernel_rfl, ?_⟩
            go_simp
            exact ⟨Only.refl _ _, isV.self _ _⟩
      refine owes2_cons (fun wx hox => ?_) ?_
      · focus
          have hg := Lib.hid (HG.out.step hox)
          have hi := Lib.hid (HI.out.step hox)
          have hr := Lib.hid (HR.out.step hox)
          obtain ⟨x13_0, x13_1⟩ := GB.c2 hg 0 rfl
          clear hg hi hr
          refine withs_guard rfl rfl ?_
          simp only [withs, List.getElem?_cons_zero, List.getElem?_cons_succ, Option.bind, Option.getD]
          repeat (first | (with_reducible refine all_isV ?_) | (with_reducible refine all_isRD ?_; intro sx Ax kx cx hvx hwx))
          refine ⟨by kernel_rfl, ?_⟩
          go_simp
          exact ⟨Only.refl _ _, isV.self _ _⟩
      refine owes2_cons (fun wx hox => ?_) ?_
      · focus
          have hg := Lib.hid (HG.out.step hox)
          have hi := Lib.hid (HI.out.step hox)
          have hr := Lib.hid (HR.out.step hox)
          obtain ⟨x14_0, x14_1, x14_2⟩ := GB.c3 hg 3 rfl
          clear hg hi hr
          refine withs_guard rfl rfl ?_
          simp only [withs, List.getElem?_cons_zero, List.getElem?_cons_succ, Option.bind, Option.getD]
          repeat (first | (with_reducible refine all_isV ?_) | (with_reducible refine all_isRD ?_; intro sx Ax kx cx hvx hwx))
          refine ⟨by kernel_rfl, ?_⟩
          go_simp
          exact ⟨Only.refl _ _, isV.self _ _⟩
      refine owes2_cons (fun wx hox => ?_) ?_
      · focus
          have hg := Lib.hid (HG.out.step hox)
          have hi := Lib.hid (HI.out.step hox)
          have hr := Lib.hid (HR.out.step hox)
          obtain ⟨x15_0, x15_1, x15_2⟩ := GB.c3 hg 2 rfl
          clear hg hi hr
          refine withs_guard rfl rfl ?_
          simp only [withs, List.getElem?_cons_zero, List.getElem?_cons_succ, Option.bind, Option.getD]
          repeat (first | (with_reducible refine all_isV ?_) | (with_reducible refine all_isRD ?_; intro sx Ax kx cx hvx hwx))
          refine ⟨by kernel_rfl, ?_⟩
          go_simp
          exact ⟨Only.refl _ _, isV.self _ _⟩
      refine owes2_cons (fun wx hox => ?_) ?_
      · focus
          have hg := Lib.hid (HG.out.step hox)
          have hi := Lib.hid (HI.out.step hox)
          have hr := Lib.hid (HR.out.step hox)
          have rd_rx := (RL.rd (x := rx) hr 1 rfl)
          have rd_ry := (RL.rd (x := ry) hr 0 rfl)
          clear hg hi hr
          refine withs_guard rfl rfl ?_
          simp only [withs, List.getElem?_cons_zero, List.getElem?_cons_succ, Option.bind, Option.getD]
          repeat (first | (with_reducible refine all_isV ?_) | (with_reducible refine all_isRD ?_; intro sx Ax kx cx hvx hwx))
          refine ⟨by kernel_rfl, ?_⟩
          go_simp
          (with_reducible exact grow_rd (rfloorB_w fu FF.Hfu.out rd_rx rd_ry FF.Brx FF.Bry (by omega) FF.Hpe.out FF.Hqe.out (IfB.yes FF.Hq0.out)))
      refine owes2_cons (fun wx hox => ?_) ?_
      · focus
          have hg := Lib.hid (HG.out.step hox)
          have hi := Lib.hid (HI.out.step hox)
          have hr := Lib.hid (HR.out.step hox)
          have iv_du := (WL.at (z := du) hi 0 rfl)
          clear hg hi hr
          refine withs_guard rfl rfl ?_
          simp only [withs, List.getElem?_cons_zero, List.getElem?_cons_succ, Option.bind, Option.getD]
          repeat (first | (with_reducible refine all_isV ?_) | (with_reducible refine all_isRD ?_; intro sx Ax kx cx hvx hwx))
          refine ⟨by kernel_rfl, ?_⟩
          go_simp
          (with_reducible exact grow_of (is2H_w fu (IfB.yes FF.Hdu.out) iv_du HCdu (RD.of (by assumption) (by assumption)) FF.Bfu (by omega)))
      iterate 3
        refine owes2_cons (fun wx hox => ?_) ?_
        · focus
            refine withs_guard rfl rfl ?_
            simp only [withs, List.getElem?_cons_zero, List.getElem?_cons_succ, Option.bind, Option.getD]
            repeat (first | (with_reducible refine all_isV ?_) | (with_reducible refine all_isRD ?_; intro sx Ax kx cx hvx hwx))
            refine ⟨by kernel_rfl, ?_⟩
            go_simp
            exact ⟨Only.refl _ _, isV.self _ _⟩
      refine owes2_cons (fun wx hox => ?_) ?_
      · focus
          refine withs_plain rfl ?_
          simp only [withs, List.getElem?_cons_zero, List.getElem?_cons_succ, Option.bind, Option.getD]
          repeat (first | (with_reducible refine all_isV ?_) | (with_reducible refine all_isRD ?_; intro sx Ax kx cx hvx hwx))
          go_simp
          exact ⟨Only.refl _ _, isV.self _ _⟩
      exact owes2_nil
    case hl =>
      repeat (refine List.forall_mem_cons.2 ⟨?_, ?_⟩; first | exact isV.lasts _ | exact isRD.lasts _)
      exact fun _ h => (by cases h)
    intro wx hox
    refine withs_of (by simp only [List.length, List.range, List.range.loop]; exact rfl) ?_
    simp only [withs, List.getElem?_cons_zero, List.getElem?_cons_succ, Option.bind, Option.getD]
    repeat (first | (with_reducible refine all_isV ?_) | (with_reducible refine all_isRD ?_; intro sx Ax kx cx hvx hwx))
    go_simp
    replace HG := Lib.hid (HG.out.step hox)
    replace HI := Lib.hid (HI.out.step hox)
    replace HR := Lib.hid (HR.out.step hox)
    clear hox
    go_wp2_with fail
    go_meet
    exact ⟨rfl, HG, HI, HR⟩
  obtain ⟨rfl, HG2, HI2, HR2⟩ := hcut
  clear HG HI HR
  have HG := HG2
  have HI := HI2
  have HR := HR2
  clear HG2 HI2 HR2
  go_upto_region 12 with fail
  obtain ⟨x8_0, x8_1, x8_2⟩ := GB.c3 HG 3 rfl
  apply wp_region_lit
  refine wpList_load 47 (.tmp 15) 105 rfl rfl rfl (u := .pointer (some ⟨g_p, 0, none⟩)) (by kernel_rfl) (load_rd x8_0 x8_1 x8_2) ?_
  simp only [List.setIfInBounds_toArray, List.set_cons_zero, List.set_cons_succ]
  clear x8_0 x8_1 x8_2
  go_wp2_with fail
  (with_reducible refine (rsign_d sx (RL.rd (x := rx) HR 1 rfl) FF.Hsx.out).mono ?_)
  rintro e w116 ⟨rfl, ho⟩
  replace HG := Lib.hid (HG.out.step ho)
  replace HI := Lib.hid (HI.out.step ho)
  replace HR := Lib.hid (HR.out.step ho)
  clear ho
  go_upto_if 107 with fail
  go_cut [22] from 107 to 107 (fun v wx => v = .string SG ∧ Hid (GB w wx [⟨g_du, 44, [.bool sdu, .slice Adu kdu cdu]⟩, ⟨g_dl, 44, [.bool sdl, .slice Adl kdl cdl]⟩, ⟨g_q, 47, [.bool s3, .slice A3 k3 c3, .int .i64 ry.e]⟩, ⟨g_p, 47, [.bool s1, .slice A1 k1 c1, .int .i64 rx.e]⟩, ⟨(w.heap.size + 1), 44, [.bool n2, .slice (some ⟨gM, 0, none⟩) q cM]⟩, ⟨w.heap.size, 44, [.bool n1, .slice (some ⟨gL, 0, none⟩) p cL]⟩]) ∧ Hid (WL wx [⟨sdu, Adu, kdu, cdu, du⟩, ⟨sdl, Adl, kdl, cdl, dl⟩, ⟨n2, (some ⟨gM, 0, none⟩), q, cM, y⟩, ⟨n1, (some ⟨gL, 0, none⟩), p, cL, x⟩]) ∧ Hid (RL wx [⟨s3, A3, k3, c3, ry⟩, ⟨s1, A1, k1, c1, rx⟩]))
  case first =>
    rcases FF.HSG.out with ⟨hs1, hs2⟩ | ⟨hs1, hs2⟩
    · subst hs2
      go_wp2_with fail
      go_meet
      exact ⟨rfl, HG, HI, HR⟩
    · subst hs2
      go_wp2_with fail
      go_meet
      exact ⟨rfl, HG, HI, HR⟩
  obtain ⟨rfl, HG2, HI2, HR2⟩ := hcut
  clear HG HI HR
  have HG := HG2
  have HI := HI2
  have HR := HR2
  clear HG2 HI2 HR2
  go_upto_region 14 with fail
  simp only [List.append_eq, List.cons_append, List.nil_append]
  refine' wp_region_typed2 (by kernel_rfl) (isV (.agg #[.bool n1, .slice (some ⟨gL, 0, none⟩) p cL]) :: isV (.agg #[.bool n2, .slice (some ⟨gM, 0, none⟩) q cM]) :: isV (.int .i64 cxy) :: isV (.agg #[.bool s1, .slice A1 k1 c1, .int .i64 rx.e]) :: isV (.agg #[.bool s3, .slice A3 k3 c3, .int .i64 ry.e]) :: isV (.int .i64 cxy) :: isV (.bool true) :: isV (.bool true) :: isV (.agg #[.bool n1, .slice (some ⟨gL, 0, none⟩) p cL]) :: isV (.int .i64 sx) :: isV (.agg #[.bool s1, .slice A1 k1 c1, .int .i64 rx.e]) :: isV (.int .i64 sx) :: isV (.bool true) :: isV (.bool true) :: isV (.bool true) :: isV (.agg #[.bool n1, .slice (some ⟨gL, 0, none⟩) p cL]) :: isWC zn :: isV (.agg #[.bool s1, .slice A1 k1 c1, .int .i64 rx.e]) :: isRD vn :: isV (.bool true) :: isV (.bool true) :: isV (.bool true) :: isV (.agg #[.bool n1, .slice (some ⟨gL, 0, none⟩) p cL]) :: isV (.agg #[.bool n2, .slice (some ⟨gM, 0, none⟩) q cM]) :: isRow 44 1 [.bool n2, .slice (some ⟨gM, 0, none⟩) q cM] :: isWC za :: isV (.agg #[.bool s1, .slice A1 k1 c1, .int .i64 rx.e]) :: isV (.agg #[.bool s3, .slice A3 k3 c3, .int .i64 ry.e]) :: isRD va :: isV (.bool true) :: isV (.bool true) :: isV (.bool true) :: isV (.agg #[.bool n1, .slice (some ⟨gL, 0, none⟩) p cL]) :: isV (.agg #[.bool n2, .slice (some ⟨gM, 0, none⟩) q cM]) :: isWC zs :: isV (.agg #[.bool s1, .slice A1 k1 c1, .int .i64 rx.e]) :: isV (.agg #[.bool s3, .slice A3 k3 c3, .int .i64 ry.e]) :: isRD vs :: isV (.bool true) :: isV (.bool true) :: isV (.bool true) :: isV (.agg #[.bool n1, .slice (some ⟨gL, 0, none⟩) p cL]) :: isV (.agg #[.bool n2, .slice (some ⟨gM, 0, none⟩) q cM]) :: isRow 44 1 [.bool n2, .slice (some ⟨gM, 0, none⟩) q cM] :: isWC zm :: isV (.agg #[.bool s1, .slice A1 k1 c1, .int .i64 rx.e]) :: isV (.agg #[.bool s3, .slice A3 k3 c3, .int .i64 ry.e]) :: isRD vm :: isV (.bool true) :: isV (.bool true) :: isV (.bool true) :: isV (.agg #[.bool n1, .slice (some ⟨gL, 0, none⟩) p cL]) :: isWC x :: isV (.agg #[.bool s1, .slice A1 k1 c1, .int .i64 rx.e]) :: isV (.bool true) :: isV (.bool true) :: isV (.bool true) :: isV (.agg #[.bool n1, .slice (some ⟨gL, 0, none⟩) p cL]) :: isV (.agg #[.bool n2, .slice (some ⟨gM, 0, none⟩) q cM]) :: isV (.agg #[.bool n2, .slice (some ⟨gM, 0, none⟩) q cM]) :: isRow 44 2 [.bool n2, .slice (some ⟨gM, 0, none⟩) q cM, .bool n2, .slice (some ⟨gM, 0, none⟩) q cM] :: isWC zmm :: isV (.agg #[.bool s1, .slice A1 k1 c1, .int .i64 rx.e]) :: isV (.agg #[.bool s3, .slice A3 k3 c3, .int .i64 ry.e]) :: isRD vm :: isV (.agg #[.bool s3, .slice A3 k3 c3, .int .i64 ry.e]) :: isRD vmm :: isV (.bool true) :: isV (.bool true) :: isV (.bool true) :: isV (.agg #[.bool n1, .slice (some ⟨gL, 0, none⟩) p cL]) :: isV (.agg #[.bool n2, .slice (some ⟨gM, 0, none⟩) q cM]) :: isV (.agg #[.bool n1, .slice (some ⟨gL, 0, none⟩) p cL]) :: isRow 44 2 [.bool n2, .slice (some ⟨gM, 0, none⟩) q cM, .bool n1, .slice (some ⟨gL, 0, none⟩) p cL] :: isWC zaa :: isV (.agg #[.bool s1, .slice A1 k1 c1, .int .i64 rx.e]) :: isV (.agg #[.bool s3, .slice A3 k3 c3, .int .i64 ry.e]) :: isRD va :: isV (.agg #[.bool s1, .slice A1 k1 c1, .int .i64 rx.e]) :: isRD vaa :: isV (.bool true) :: isV (.bool true) :: isV (.bool true) :: isV (.agg #[.bool n1, .slice (some ⟨gL, 0, none⟩) p cL]) :: isV (.string ST) :: isV (.string SG) :: isV (.slice A p c) :: isRN N :: isV (.string DG) :: isV (.string ST) :: isV (.bool true) :: isV (.bool true) :: isV (.bool true) :: isV (.bool n1) :: isV (.slice (some ⟨gL, 0, none⟩) p cL) :: isWC x :: isV (.agg #[.bool s1, .slice A1 k1 c1, .int .i64 rx.e]) :: isV (.bool true) :: isV (.bool true) :: isV (.bool true) :: isV (.int .i64 v) :: isWC v :: isV (.int .i64 v) :: isRD vo :: isV (.bool true) :: isV (.bool true) :: isV (.bool true) :: isV (.slice (some ⟨gL, 0, none⟩) p cL) :: isV (.slice A p c) :: isV (.bool true) :: isV (.bool true) :: isV (.bool true) :: isV (.slice (some ⟨gM, 0, none⟩) q cM) :: isV (.slice B q d) :: isV (.bool true) :: isV (.bool true) :: isV (.bool true) :: []) ([] :: [] :: [0, 1] :: [] :: [] :: [3, 4] :: [2, 5] :: [6] :: [7] :: [7, 8] :: [7] :: [7, 10] :: [7, 9, 11] :: [7, 12] :: [13] :: [14] :: [14, 15] :: [14] :: [14, 17] :: [14, 16, 18] :: [14, 19] :: [20] :: [21] :: [21] :: [21, 23] :: [21, 22, 24] :: [21] :: [21] :: [21, 26, 27] :: [21, 25, 28] :: [21, 29] :: [30] :: [31] :: [31] :: [31, 32, 33] :: [31] :: [31] :: [31, 35, 36] :: [31, 34, 37] :: [31, 38] :: [39] :: [40] :: [40] :: [40, 42] :: [40, 41, 43] :: [40] :: [40] :: [40, 45, 46] :: [40, 44, 47] :: [40, 48] :: [49] :: [50] :: [50, 51] :: [50] :: [50, 52, 53] :: [50, 54] :: [55] :: [56] :: [56] :: [56] :: [56, 58, 59] :: [56, 57, 60] :: [56] :: [56] :: [56, 62, 63] :: [56] :: [56, 64, 65] :: [56, 61, 66] :: [56, 67] :: [68] :: [69] :: [69] :: [69] :: [69, 71, 72] :: [69, 70, 73] :: [69] :: [69] :: [69, 75, 76] :: [69] :: [69, 77, 78] :: [69, 74, 79] :: [69, 80] :: [81] :: [82] :: [82, 83] :: [82] :: [82] :: [82, 86] :: [82, 87] :: [82, 85, 88] :: [82, 84, 89] :: [82, 90] :: [91] :: [92] :: [92] :: [92, 93, 94] :: [92] :: [92, 95, 96] :: [92, 97] :: [98] :: [99] :: [99, 100] :: [99] :: [99, 102] :: [99, 101, 103] :: [99, 104] :: [105] :: [106] :: [106] :: [106, 107, 108] :: [106, 109] :: [110] :: [111] :: [111] :: [111, 112, 113] :: [111, 114] :: [115] :: []) (by kernel_rfl) (by kernel_rfl) ?hlz ?hoz ?hez
  case hoz =>
    refine owes2_cons (fun wx hox => ?_) ?_
    · focus
        have hg := Lib.hid (HG.out.step hox)
        have hi := Lib.hid (HI.out.step hox)
        have hr := Lib.hid (HR.out.step hox)
        obtain ⟨x9_0, x9_1⟩ := GB.c2 hg 5 rfl
        clear hg hi hr
        refine withs_plain rfl ?_
        simp only [withs, List.getElem?_cons_zero, List.getElem?_cons_succ, Option.bind, Option.getD]
        repeat (first | (with_reducible refine all_isV ?_) | (with_reducible refine all_isRD ?_; intro sx Ax kx cx hvx hwx) | (with_reducible refine all_isRN ?_; intro Ax kx cx hvx) | (with_reducible refine all_isWC ?_; intro sx Ax kx cx hvx hwx) | (with_reducible refine all_isRow ?_; intro gx hvx))
        go_simp
        (exact ⟨Only.refl _ _, isV.self _ _⟩)
    refine owes2_cons (fun wx hox => ?_) ?_
    · focus
        have hg := Lib.hid (HG.out.step hox)
        have hi := Lib.hid (HI.out.step hox)
        have hr := Lib.hid (HR.out.step hox)
        obtain ⟨x10_0, x10_1⟩ := GB.c2 hg 4 rfl
        clear hg hi hr
        refine withs_plain rfl ?_
        simp only [withs, List.getElem?_cons_zero, List.getElem?_cons_succ, Option.bind, Option.getD]
        repeat (first | (with_reducible refine all_isV ?_) | (with_reducible refine all_isRD ?_; intro sx Ax kx cx hvx hwx) | (with_reducible refine all_isRN ?_; intro Ax kx cx hvx) | (with_reducible refine all_isWC ?_; intro sx Ax kx cx hvx hwx) | (with_reducible refine all_isRow ?_; intro gx hvx))
        go_simp
        (exact ⟨Only.refl _ _, isV.self _ _⟩)
    refine owes2_cons (fun wx hox => ?_) ?_
    · focus
        have hg := Lib.hid (HG.out.step hox)
        have hi := Lib.hid (HI.out.step hox)
        have hr := Lib.hid (HR.out.step hox)
        have iv_x := (WL.at (z := x) hi 3 rfl)
        have iv_y := (WL.at (z := y) hi 2 rfl)
        clear hg hi hr
        refine withs_plain rfl ?_
        simp only [withs, List.getElem?_cons_zero, List.getElem?_cons_succ, Option.bind, Option.getD]
        repeat (first | (with_reducible refine all_isV ?_) | (with_reducible refine all_isRD ?_; intro sx Ax kx cx hvx hwx) | (with_reducible refine all_isRN ?_; intro Ax kx cx hvx) | (with_reducible refine all_isWC ?_; intro sx Ax kx cx hvx hwx) | (with_reducible refine all_isRow ?_; intro gx hvx))
        go_simp
        (with_reducible exact grow_of (cmpB_w cxy iv_x iv_y FF.Hcxy.out))
    refine owes2_cons (fun wx hox => ?_) ?_
    · focus
        have hg := Lib.hid (HG.out.step hox)
        have hi := Lib.hid (HI.out.step hox)
        have hr := Lib.hid (HR.out.step hox)
        obtain ⟨x11_0, x11_1, x11_2⟩ := GB.c3 hg 3 rfl
        clear hg hi hr
        refine withs_plain rfl ?_
        simp only [withs, List.getElem?_cons_zero, List.getElem?_cons_succ, Option.bind, Option.getD]
        repeat (first | (with_reducible refine all_isV ?_) | (with_reducible refine all_isRD ?_; intro sx Ax kx cx hvx hwx) | (with_reducible refine all_isRN ?_; intro Ax kx cx hvx) | (with_reducible refine all_isWC ?_; intro sx Ax kx cx hvx hwx) | (with_reducible refine all_isRow ?_; intro gx hvx))
        go_simp
        (exact ⟨Only.refl _ _, isV.self _ _⟩)
    refine owes2_cons (fun wx hox => ?_) ?_
    · focus
        have hg := Lib.hid (HG.out.step hox)
        have hi := Lib.hid (HI.out.step hox)
        have hr := Lib.hid (HR.out.step hox)
        obtain ⟨x12_0, x12_1, x12_2⟩ := GB.c3 hg 2 rfl
        clear hg hi hr
        refine withs_plain rfl ?_
        simp only [withs, List.getElem?_cons_zero, List.getElem?_cons_succ, Option.bind, Option.getD]
        repeat (first | (with_reducible refine all_isV ?_) | (with_reducible refine all_isRD ?_; intro sx Ax kx cx hvx hwx) | (with_reducible refine all_isRN ?_; intro Ax kx cx hvx) | (with_reducible refine all_isWC ?_; intro sx Ax kx cx hvx hwx) | (with_reducible refine all_isRow ?_; intro gx hvx))
        go_simp
        (exact ⟨Only.refl _ _, isV.self _ _⟩)
    refine owes2_cons (fun wx hox => ?_) ?_
    · focus
        have hg := Lib.hid (HG.out.step hox)
        have hi := Lib.hid (HI.out.step hox)
        have hr := Lib.hid (HR.out.step hox)
        have rd_rx := (RL.rd (x := rx) hr 1 rfl)
        have rd_ry := (RL.rd (x := ry) hr 0 rfl)
        clear hg hi hr
        refine withs_plain rfl ?_
        simp only [withs, List.getElem?_cons_zero, List.getElem?_cons_succ, Option.bind, Option.getD]
        repeat (first | (with_reducible refine all_isV ?_) | (with_reducible refine all_isRD ?_; intro sx Ax kx cx hvx hwx) | (with_reducible refine all_isRN ?_; intro Ax kx cx hvx) | (with_reducible refine all_isWC ?_; intro sx Ax kx cx hvx hwx) | (with_reducible refine all_isRow ?_; intro gx hvx))
        go_simp
        (with_reducible exact grow_of (rcmp_d (x := rx) (y := ry) cxy rd_rx rd_ry FF.Crx FF.Brx FF.Bry (by omega) FF.Hrcxy.out))
    iterate 2
      refine owes2_cons (fun wx hox => ?_) ?_
      · focus
          refine withs_plain rfl ?_
          simp only [withs, List.getElem?_cons_zero, List.getElem?_cons_succ, Option.bind, Option.getD]
          repeat (first | (with_reducible refine all_isV ?_) | (with_reducible refine all_isRD ?_; intro sx Ax kx cx hvx hwx) | (with_reducible refine all_isRN ?_; intro Ax kx cx hvx) | (with_reducible refine all_isWC ?_; intro sx Ax kx cx hvx hwx) | (with_reducible refine all_isRow ?_; intro gx hvx))
          go_simp
          (exact ⟨Only.refl _ _, isV.self _ _⟩)
    refine owes2_cons (fun wx hox => ?_) ?_
    · focus
        have hg := Lib.hid (HG.out.step hox)
        have hi := Lib.hid (HI.out.step hox)
        have hr := Lib.hid (HR.out.step hox)
        obtain ⟨x13_0, x13_1⟩ := GB.c2 hg 5 rfl
        clear hg hi hr
        refine withs_guard rfl rfl ?_
        simp only [withs, List.getElem?_cons_zero, List.getElem?_cons_succ, Option.bind, Option.getD]
        repeat (first | (with_reducible refine all_isV ?_) | (with_reducible refine all_isRD ?_; intro sx Ax kx cx hvx hwx) | (with_reducible refine all_isRN ?_; intro Ax kx cx hvx) | (with_reducible refine all_isWC ?_; intro sx Ax kx cx hvx hwx) | (with_reducible refine all_isRow ?_; intro gx hvx))
        refine ⟨by kernel_rfl, ?_⟩
        go_simp
        (exact ⟨Only.refl _ _, isV.self _ _⟩)
    refine owes2_cons (fun wx hox => ?_) ?_
    · focus
        have hg := Lib.hid (HG.out.step hox)
        have hi := Lib.hid (HI.out.step hox)
        have hr := Lib.hid (HR.out.step hox)
        have iv_x := (WL.at (z := x) hi 3 rfl)
        clear hg hi hr
        refine withs_guard rfl rfl ?_
        simp only [withs, List.getElem?_cons_zero, List.getElem?_cons_succ, Option.bind, Option.getD]
        repeat (first | (with_reducible refine all_isV ?_) | (with_reducible refine all_isRD ?_; intro sx Ax kx cx hvx hwx) | (with_reducible refine all_isRN ?_; intro Ax kx cx hvx) | (with_reducible refine all_isWC ?_; intro sx Ax kx cx hvx hwx) | (with_reducible refine all_isRow ?_; intro gx hvx))
        refine ⟨by kernel_rfl, ?_⟩
        go_simp
        (with_reducible exact grow_of (signB_w sx iv_x FF.Hwsx.out))
    refine owes2_cons (fun wx hox => ?_) ?_
    · focus
        have hg := Lib.hid (HG.out.step hox)
        have hi := Lib.hid (HI.out.step hox)
        have hr := Lib.hid (HR.out.step hox)
        obtain ⟨x14_0, x14_1, x14_2⟩ := GB.c3 hg 3 rfl
        clear hg hi hr
        refine withs_guard rfl rfl ?_
        simp only [withs, List.getElem?_cons_zero, List.getElem?_cons_succ, Option.bind, Option.getD]
        repeat (first | (with_reducible refine all_isV ?_) | (with_reducible refine all_isRD ?_; intro sx Ax kx cx hvx hwx) | (with_reducible refine all_isRN ?_; intro Ax kx cx hvx) | (with_reducible refine all_isWC ?_; intro sx Ax kx cx hvx hwx) | (with_reducible refine all_isRow ?_; intro gx hvx))
        refine ⟨by kernel_rfl, ?_⟩
        go_simp
        (exact ⟨Only.refl _ _, isV.self _ _⟩)
    refine owes2_cons (fun wx hox => ?_) ?_
    · focus
        have hg := Lib.hid (HG.out.step hox)
        have hi := Lib.hid (HI.out.step hox)
        have hr := Lib.hid (HR.out.step hox)
        have rd_rx := (RL.rd (x := rx) hr 1 rfl)
        clear hg hi hr
        refine withs_guard rfl rfl ?_
        simp only [withs, List.getElem?_cons_zero, List.getElem?_cons_succ, Option.bind, Option.getD]
        repeat (first | (with_reducible refine all_isV ?_) | (with_reducible refine all_isRD ?_; intro sx Ax kx cx hvx hwx) | (with_reducible refine all_isRN ?_; intro Ax kx cx hvx) | (with_reducible refine all_isWC ?_; intro sx Ax kx cx hvx hwx) | (with_reducible refine all_isRow ?_; intro gx hvx))
        refine ⟨by kernel_rfl, ?_⟩
        go_simp
        (with_reducible exact grow_of (rsign_d sx rd_rx FF.Hsx.out))
    refine owes2_cons (fun wx hox => ?_) ?_
    · focus
        refine withs_guard rfl rfl ?_
        simp only [withs, List.getElem?_cons_zero, List.getElem?_cons_succ, Option.bind, Option.getD]
        repeat (first | (with_reducible refine all_isV ?_) | (with_reducible refine all_isRD ?_; intro sx Ax kx cx hvx hwx) | (with_reducible refine all_isRN ?_; intro Ax kx cx hvx) | (with_reducible refine all_isWC ?_; intro sx Ax kx cx hvx hwx) | (with_reducible refine all_isRow ?_; intro gx hvx))
        refine ⟨by kernel_rfl, ?_⟩
        go_simp
        (exact ⟨Only.refl _ _, isV.self _ _⟩)
    iterate 2
      refine owes2_cons (fun wx hox => ?_) ?_
      · focus
          refine withs_plain rfl ?_
          simp only [withs, List.getElem?_cons_zero, List.getElem?_cons_succ, Option.bind, Option.getD]
          repeat (first | (with_reducible refine all_isV ?_) | (with_reducible refine all_isRD ?_; intro sx Ax kx cx hvx hwx) | (with_reducible refine all_isRN ?_; intro Ax kx cx hvx) | (with_reducible refine all_isWC ?_; intro sx Ax kx cx hvx hwx) | (with_reducible refine all_isRow ?_; intro gx hvx))
          go_simp
          (exact ⟨Only.refl _ _, isV.self _ _⟩)
    refine owes2_cons (fun wx hox => ?_) ?_
    · focus
        have hg := Lib.hid (HG.out.step hox)
        have hi := Lib.hid (HI.out.step hox)
        have hr := Lib.hid (HR.out.step hox)
        obtain ⟨x15_0, x15_1⟩ := GB.c2 hg 5 rfl
        clear hg hi hr
        refine withs_guard rfl rfl ?_
        simp only [withs, List.getElem?_cons_zero, List.getElem?_cons_succ, Option.bind, Option.getD]
        repeat (first | (with_reducible refine all_isV ?_) | (with_reducible refine all_isRD ?_; intro sx Ax kx cx hvx hwx) | (with_reducible refine all_isRN ?_; intro Ax kx cx hvx) | (with_reducible refine all_isWC ?_; intro sx Ax kx cx hvx hwx) | (with_reducible refine all_isRow ?_; intro gx hvx))
        refine ⟨by kernel_rfl, ?_⟩
        go_simp
        (exact ⟨Only.refl _ _, isV.self _ _⟩)
    refine owes2_cons (fun wx hox => ?_) ?_
    · focus
        have hg := Lib.hid (HG.out.step hox)
        have hi := Lib.hid (HI.out.step hox)
        have hr := Lib.hid (HR.out.step hox)
        have iv_x := (WL.at (z := x) hi 3 rfl)
        clear hg hi hr
        refine withs_guard rfl rfl ?_
        simp only [withs, List.getElem?_cons_zero, List.getElem?_cons_succ, Option.bind, Option.getD]
        repeat (first | (with_reducible refine all_isV ?_) | (with_reducible refine all_isRD ?_; intro sx Ax kx cx hvx hwx) | (with_reducible refine all_isRN ?_; intro Ax kx cx hvx) | (with_reducible refine all_isWC ?_; intro sx Ax kx cx hvx hwx) | (with_reducible refine all_isRow ?_; intro gx hvx))
        refine ⟨by kernel_rfl, ?_⟩
        go_simp
        (with_reducible exact grow_wcc (notC_w zn iv_x FF.Hzn.out))
    refine owes2_cons (fun wx hox => ?_) ?_
    · focus
        have hg := Lib.hid (HG.out.step hox)
        have hi := Lib.hid (HI.out.step hox)
        have hr := Lib.hid (HR.out.step hox)
        obtain ⟨x16_0, x16_1, x16_2⟩ := GB.c3 hg 3 rfl
        clear hg hi hr
        refine withs_guard rfl rfl ?_
        simp only [withs, List.getElem?_cons_zero, List.getElem?_cons_succ, Option.bind, Option.getD]
        repeat (first | (with_reducible refine all_isV ?_) | (with_reducible refine all_isRD ?_; intro sx Ax kx cx hvx hwx) | (with_reducible refine all_isRN ?_; intro Ax kx cx hvx) | (with_reducible refine all_isWC ?_; intro sx Ax kx cx hvx hwx) | (with_reducible refine all_isRow ?_; intro gx hvx))
        refine ⟨by kernel_rfl, ?_⟩
        go_simp
        (exact ⟨Only.refl _ _, isV.self _ _⟩)
    refine owes2_cons (fun wx hox => ?_) ?_
    · focus
        have hg := Lib.hid (HG.out.step hox)
        have hi := Lib.hid (HI.out.step hox)
        have hr := Lib.hid (HR.out.step hox)
        have rd_rx := (RL.rd (x := rx) hr 1 rfl)
        clear hg hi hr
        refine withs_guard rfl rfl ?_
        simp only [withs, List.getElem?_cons_zero, List.getElem?_cons_succ, Option.bind, Option.getD]
        repeat (first | (with_reducible refine all_isV ?_) | (with_reducible refine all_isRD ?_; intro sx Ax kx cx hvx hwx) | (with_reducible refine all_isRN ?_; intro Ax kx cx hvx) | (with_reducible refine all_isWC ?_; intro sx Ax kx cx hvx hwx) | (with_reducible refine all_isRow ?_; intro gx hvx))
        refine ⟨by kernel_rfl, ?_⟩
        go_simp
        (with_reducible exact grow_rd (rnotB_w vn FF.Hrvn.out rd_rx FF.Brx (by omega)))
    refine owes2_cons (fun wx hox => ?_) ?_
    · focus
        refine withs_guard rfl rfl ?_
        simp only [withs, List.getElem?_cons_zero, List.getElem?_cons_succ, Option.bind, Option.getD]
        repeat (first | (with_reducible refine all_isV ?_) | (with_reducible refine all_isRD ?_; intro sx Ax kx cx hvx hwx) | (with_reducible refine all_isRN ?_; intro Ax kx cx hvx) | (with_reducible refine all_isWC ?_; intro sx Ax kx cx hvx hwx) | (with_reducible refine all_isRow ?_; intro gx hvx))
        refine ⟨by kernel_rfl, ?_⟩
        go_simp
        (with_reducible exact grow_of (is2H_w vn FF.Hvn.out (by assumption) (by assumption) (RD.of (by assumption) (by assumption)) FF.Bvn (by omega)))
    iterate 2
      refine owes2_cons (fun wx hox => ?_) ?_
      · focus
          refine withs_plain rfl ?_
          simp only [withs, List.getElem?_cons_zero, List.getElem?_cons_succ, Option.bind, Option.getD]
          repeat (first | (with_reducible refine all_isV ?_) | (with_reducible refine all_isRD ?_; intro sx Ax kx cx hvx hwx) | (with_reducible refine all_isRN ?_; intro Ax kx cx hvx) | (with_reducible refine all_isWC ?_; intro sx Ax kx cx hvx hwx) | (with_reducible refine all_isRow ?_; intro gx hvx))
          go_simp
          (exact ⟨Only.refl _ _, isV.self _ _⟩)
    refine owes2_cons (fun wx hox => ?_) ?_
    · focus
        have hg := Lib.hid (HG.out.step hox)
        have hi := Lib.hid (HI.out.step hox)
        have hr := Lib.hid (HR.out.step hox)
        obtain ⟨x17_0, x17_1⟩ := GB.c2 hg 5 rfl
        clear hg hi hr
        refine withs_guard rfl rfl ?_
        simp only [withs, List.getElem?_cons_zero, List.getElem?_cons_succ, Option.bind, Option.getD]
        repeat (first | (with_reducible refine all_isV ?_) | (with_reducible refine all_isRD ?_; intro sx Ax kx cx hvx hwx) | (with_reducible refine all_isRN ?_; intro Ax kx cx hvx) | (with_reducible refine all_isWC ?_; intro sx Ax kx cx hvx hwx) | (with_reducible refine all_isRow ?_; intro gx hvx))
        refine ⟨by kernel_rfl, ?_⟩
        go_simp
        (exact ⟨Only.refl _ _, isV.self _ _⟩)
    refine owes2_cons (fun wx hox => ?_) ?_
    · focus
        have hg := Lib.hid (HG.out.step hox)
        have hi := Lib.hid (HI.out.step hox)
        have hr := Lib.hid (HR.out.step hox)
        obtain ⟨x18_0, x18_1⟩ := GB.c2 hg 4 rfl
        clear hg hi hr
        refine withs_guard rfl rfl ?_
        simp only [withs, List.getElem?_cons_zero, List.getElem?_cons_succ, Option.bind, Option.getD]
        repeat (first | (with_reducible refine all_isV ?_) | (with_reducible refine all_isRD ?_; intro sx Ax kx cx hvx hwx) | (with_reducible refine all_isRN ?_; intro Ax kx cx hvx) | (with_reducible refine all_isWC ?_; intro sx Ax kx cx hvx hwx) | (with_reducible refine all_isRow ?_; intro gx hvx))
        refine ⟨by kernel_rfl, ?_⟩
        go_simp
        (exact ⟨Only.refl _ _, isV.self _ _⟩)
    refine owes2_cons (fun wx hox => ?_) ?_
    · focus
        refine withs_guard rfl rfl ?_
        simp only [withs, List.getElem?_cons_zero, List.getElem?_cons_succ, Option.bind, Option.getD]
        repeat (first | (with_reducible refine all_isV ?_) | (with_reducible refine all_isRD ?_; intro sx Ax kx cx hvx hwx) | (with_reducible refine all_isRN ?_; intro Ax kx cx hvx) | (with_reducible refine all_isWC ?_; intro sx Ax kx cx hvx hwx) | (with_reducible refine all_isRow ?_; intro gx hvx))
        refine ⟨by kernel_rfl, ?_⟩
        go_simp
        (exact isRow.new _ _ _ _)
    refine owes2_cons (fun wx hox => ?_) ?_
    · focus
        have hg := Lib.hid (HG.out.step hox)
        have hi := Lib.hid (HI.out.step hox)
        have hr := Lib.hid (HR.out.step hox)
        have iv_x := (WL.at (z := x) hi 3 rfl)
        have iv_y := (WL.at (z := y) hi 2 rfl)
        clear hg hi hr
        refine withs_guard rfl rfl ?_
        simp only [withs, List.getElem?_cons_zero, List.getElem?_cons_succ, Option.bind, Option.getD]
        repeat (first | (with_reducible refine all_isV ?_) | (with_reducible refine all_isRD ?_; intro sx Ax kx cx hvx hwx) | (with_reducible refine all_isRN ?_; intro Ax kx cx hvx) | (with_reducible refine all_isWC ?_; intro sx Ax kx cx hvx hwx) | (with_reducible refine all_isRow ?_; intro gx hvx))
        refine ⟨by kernel_rfl, ?_⟩
        go_simp
        (with_reducible exact grow_wcc (add1C_w za (by assumption) iv_x iv_y FF.Hza.out FF.HFa))
    refine owes2_cons (fun wx hox => ?_) ?_
    · focus
        have hg := Lib.hid (HG.out.step hox)
        have hi := Lib.hid (HI.out.step hox)
        have hr := Lib.hid (HR.out.step hox)
        obtain ⟨x19_0, x19_1, x19_2⟩ := GB.c3 hg 3 rfl
        clear hg hi hr
        refine withs_guard rfl rfl ?_
        simp only [withs, List.getElem?_cons_zero, List.getElem?_cons_succ, Option.bind, Option.getD]
        repeat (first | (with_reducible refine all_isV ?_) | (with_reducible refine all_isRD ?_; intro sx Ax kx cx hvx hwx) | (with_reducible refine all_isRN ?_; intro Ax kx cx hvx) | (with_reducible refine all_isWC ?_; intro sx Ax kx cx hvx hwx) | (with_reducible refine all_isRow ?_; intro gx hvx))
        refine ⟨by kernel_rfl, ?_⟩
        go_simp
        (exact ⟨Only.refl _ _, isV.self _ _⟩)
    refine owes2_cons (fun wx hox => ?_) ?_
    · focus
        have hg := Lib.hid (HG.out.step hox)
        have hi := Lib.hid (HI.out.step hox)
        have hr := Lib.hid (HR.out.step hox)
        obtain ⟨x20_0, x20_1, x20_2⟩ := GB.c3 hg 2 rfl
        clear hg hi hr
        refine withs_guard rfl rfl ?_
        simp only [withs, List.getElem?_cons_zero, List.getElem?_cons_succ, Option.bind, Option.getD]
        repeat (first | (with_reducible refine all_isV ?_) | (with_reducible refine all_isRD ?_; intro sx Ax kx cx hvx hwx) | (with_reducible refine all_isRN ?_; intro Ax kx cx hvx) | (with_reducible refine all_isWC ?_; intro sx Ax kx cx hvx hwx) | (with_reducible refine all_isRow ?_; intro gx hvx))
        refine ⟨by kernel_rfl, ?_⟩
        go_simp
        (exact ⟨Only.refl _ _, isV.self _ _⟩)
    refine owes2_cons (fun wx hox => ?_) ?_
    · focus
        have hg := Lib.hid (HG.out.step hox)
        have hi := Lib.hid (HI.out.step hox)
        have hr := Lib.hid (HR.out.step hox)
        have rd_rx := (RL.rd (x := rx) hr 1 rfl)
        have rd_ry := (RL.rd (x := ry) hr 0 rfl)
        clear hg hi hr
        refine withs_guard rfl rfl ?_
        simp only [withs, List.getElem?_cons_zero, List.getElem?_cons_succ, Option.bind, Option.getD]
        repeat (first | (with_reducible refine all_isV ?_) | (with_reducible refine all_isRD ?_; intro sx Ax kx cx hvx hwx) | (with_reducible refine all_isRN ?_; intro Ax kx cx hvx) | (with_reducible refine all_isWC ?_; intro sx Ax kx cx hvx hwx) | (with_reducible refine all_isRow ?_; intro gx hvx))
        refine ⟨by kernel_rfl, ?_⟩
        go_simp
        (with_reducible exact grow_rd (raddB_w va FF.Hrva.out rd_rx rd_ry FF.Crx FF.Cry FF.Brx FF.Bry (by omega)))
    refine owes2_cons (fun wx hox => ?_) ?_
    · focus
        refine withs_guard rfl rfl ?_
        simp only [withs, List.getElem?_cons_zero, List.getElem?_cons_succ, Option.bind, Option.getD]
        repeat (first | (with_reducible refine all_isV ?_) | (with_reducible refine all_isRD ?_; intro sx Ax kx cx hvx hwx) | (with_reducible refine all_isRN ?_; intro Ax kx cx hvx) | (with_reducible refine all_isWC ?_; intro sx Ax kx cx hvx hwx) | (with_reducible refine all_isRow ?_; intro gx hvx))
        refine ⟨by kernel_rfl, ?_⟩
        go_simp
        (with_reducible exact grow_of (is2H_w va FF.Hva.out (by assumption) (by assumption) (RD.of (by assumption) (by assumption)) FF.Bva (by omega)))
    iterate 2
      refine owes2_cons (fun wx hox => ?_) ?_
      · focus
          refine withs_plain rfl ?_
          simp only [withs, List.getElem?_cons_zero, List.getElem?_cons_succ, Option.bind, Option.getD]
          repeat (first | (with_reducible refine all_isV ?_) | (with_reducible refine all_isRD ?_; intro sx Ax kx cx hvx hwx) | (with_reducible refine all_isRN ?_; intro Ax kx cx hvx) | (with_reducible refine all_isWC ?_; intro sx Ax kx cx hvx hwx) | (with_reducible refine all_isRow ?_; intro gx hvx))
          go_simp
          (exact ⟨Only.refl _ _, isV.self _ _⟩)
    refine owes2_cons (fun wx hox => ?_) ?_
    · focus
        have hg := Lib.hid (HG.out.step hox)
        have hi := Lib.hid (HI.out.step hox)
        have hr := Lib.hid (HR.out.step hox)
        obtain ⟨x21_0, x21_1⟩ := GB.c2 hg 5 rfl
        clear hg hi hr
        refine withs_guard rfl rfl ?_
        simp only [withs, List.getElem?_cons_zero, List.getElem?_cons_succ, Option.bind, Option.getD]
        repeat (first | (with_reducible refine all_isV ?_) | (with_reducible refine all_isRD ?_; intro sx Ax kx cx hvx hwx) | (with_reducible refine all_isRN ?_; intro Ax kx cx hvx) | (with_reducible refine all_isWC ?_; intro sx Ax kx cx hvx hwx) | (with_reducible refine all_isRow ?_; intro gx hvx))
        refine ⟨by kernel_rfl, ?_⟩
        go_simp
        (exact ⟨Only.refl _ _, isV.self _ _⟩)
    refine owes2_cons (fun wx hox => ?_) ?_
    · focus
        have hg := Lib.hid (HG.out.step hox)
        have hi := Lib.hid (HI.out.step hox)
        have hr := Lib.hid (HR.out.step hox)
        obtain ⟨x22_0, x22_1⟩ := GB.c2 hg 4 rfl
        clear hg hi hr
        refine withs_guard rfl rfl ?_
        simp only [withs, List.getElem?_cons_zero, List.getElem?_cons_succ, Option.bind, Option.getD]
        repeat (first | (with_reducible refine all_isV ?_) | (with_reducible refine all_isRD ?_; intro sx Ax kx cx hvx hwx) | (with_reducible refine all_isRN ?_; intro Ax kx cx hvx) | (with_reducible refine all_isWC ?_; intro sx Ax kx cx hvx hwx) | (with_reducible refine all_isRow ?_; intro gx hvx))
        refine ⟨by kernel_rfl, ?_⟩
        go_simp
        (exact ⟨Only.refl _ _, isV.self _ _⟩)
    refine owes2_cons (fun wx hox => ?_) ?_
    · focus
        have hg := Lib.hid (HG.out.step hox)
        have hi := Lib.hid (HI.out.step hox)
        have hr := Lib.hid (HR.out.step hox)
        have iv_x := (WL.at (z := x) hi 3 rfl)
        have iv_y := (WL.at (z := y) hi 2 rfl)
        clear hg hi hr
        refine withs_guard rfl rfl ?_
        simp only [withs, List.getElem?_cons_zero, List.getElem?_cons_succ, Option.bind, Option.getD]
        repeat (first | (with_reducible refine all_isV ?_) | (with_reducible refine all_isRD ?_; intro sx Ax kx cx hvx hwx) | (with_reducible refine all_isRN ?_; intro Ax kx cx hvx) | (with_reducible refine all_isWC ?_; intro sx Ax kx cx hvx hwx) | (with_reducible refine all_isRow ?_; intro gx hvx))
        refine ⟨by kernel_rfl, ?_⟩
        go_simp
        (with_reducible exact grow_wcc (subC_w zs iv_x iv_y FF.Hzs.out FF.HFs))
    refine owes2_cons (fun wx hox => ?_) ?_
    · focus
        have hg := Lib.hid (HG.out.step hox)
        have hi := Lib.hid (HI.out.step hox)
        have hr := Lib.hid (HR.out.step hox)
        obtain ⟨x23_0, x23_1, x23_2⟩ := GB.c3 hg 3 rfl
        clear hg hi hr
        refine withs_guard rfl rfl ?_
        simp only [withs, List.getElem?_cons_zero, List.getElem?_cons_succ, Option.bind, Option.getD]
        repeat (first | (with_reducible refine all_isV ?_) | (with_reducible refine all_isRD ?_; intro sx Ax kx cx hvx hwx) | (with_reducible refine all_isRN ?_; intro Ax kx cx hvx) | (with_reducible refine all_isWC ?_; intro sx Ax kx cx hvx hwx) | (with_reducible refine all_isRow ?_; intro gx hvx))
        refine ⟨by kernel_rfl, ?_⟩
        go_simp
        (exact ⟨Only.refl _ _, isV.self _ _⟩)
    refine owes2_cons (fun wx hox => ?_) ?_
    · focus
        have hg := Lib.hid (HG.out.step hox)
        have hi := Lib.hid (HI.out.step hox)
        have hr := Lib.hid (HR.out.step hox)
        obtain ⟨x24_0, x24_1, x24_2⟩ := GB.c3 hg 2 rfl
        clear hg hi hr
        refine withs_guard rfl rfl ?_
        simp only [withs, List.getElem?_cons_zero, List.getElem?_cons_succ, Option.bind, Option.getD]
        repeat (first | (with_reducible refine all_isV ?_) | (with_reducible refine all_isRD ?_; intro sx Ax kx cx hvx hwx) | (with_reducible refine all_isRN ?_; intro Ax kx cx hvx) | (with_reducible refine all_isWC ?_; intro sx Ax kx cx hvx hwx) | (with_reducible refine all_isRow ?_; intro gx hvx))
        refine ⟨by kernel_rfl, ?_⟩
        go_simp
        (exact ⟨Only.refl _ _, isV.self _ _⟩)
    refine owes2_cons (fun wx hox => ?_) ?_
    · focus
        have hg := Lib.hid (HG.out.step hox)
        have hi := Lib.hid (HI.out.step hox)
        have hr := Lib.hid (HR.out.step hox)
        have rd_rx := (RL.rd (x := rx) hr 1 rfl)
        have rd_ry := (RL.rd (x := ry) hr 0 rfl)
        clear hg hi hr
        refine withs_guard rfl rfl ?_
        simp only [withs, List.getElem?_cons_zero, List.getElem?_cons_succ, Option.bind, Option.getD]
        repeat (first | (with_reducible refine all_isV ?_) | (with_reducible refine all_isRD ?_; intro sx Ax kx cx hvx hwx) | (with_reducible refine all_isRN ?_; intro Ax kx cx hvx) | (with_reducible refine all_isWC ?_; intro sx Ax kx cx hvx hwx) | (with_reducible refine all_isRow ?_; intro gx hvx))
        refine ⟨by kernel_rfl, ?_⟩
        go_simp
        (with_reducible exact grow_rd (rsubB_w vs FF.Hrvs.out rd_rx rd_ry FF.Crx FF.Brx FF.Bry (by omega)))
    refine owes2_cons (fun wx hox => ?_) ?_
    · focus
        refine withs_guard rfl rfl ?_
        simp only [withs, List.getElem?_cons_zero, List.getElem?_cons_succ, Option.bind, Option.getD]
        repeat (first | (with_reducible refine all_isV ?_) | (with_reducible refine all_isRD ?_; intro sx Ax kx cx hvx hwx) | (with_reducible refine all_isRN ?_; intro Ax kx cx hvx) | (with_reducible refine all_isWC ?_; intro sx Ax kx cx hvx hwx) | (with_reducible refine all_isRow ?_; intro gx hvx))
        refine ⟨by kernel_rfl, ?_⟩
        go_simp
        (with_reducible exact grow_of (is2H_w vs FF.Hvs.out (by assumption) (by assumption) (RD.of (by assumption) (by assumption)) FF.Bvs (by omega)))
    iterate 2
      refine owes2_cons (fun wx hox => ?_) ?_
      · focus
          refine withs_plain rfl ?_
          simp only [withs, List.getElem?_cons_zero, List.getElem?_cons_succ, Option.bind, Option.getD]
          repeat (first | (with_reducible refine all_isV ?_) | (with_reducible refine all_isRD ?_; intro sx Ax kx cx hvx hwx) | (with_reducible refine all_isRN ?_; intro Ax kx cx hvx) | (with_reducible refine all_isWC ?_; intro sx Ax kx cx hvx hwx) | (with_reducible refine all_isRow ?_; intro gx hvx))
          go_simp
          (exact ⟨Only.refl _ _, isV.self _ _⟩)
    refine owes2_cons (fun wx hox => ?_) ?_
    · focus
        have hg := Lib.hid (HG.out.step hox)
        have hi := Lib.hid (HI.out.step hox)
        have hr := Lib.hid (HR.out.step hox)
        obtain ⟨x25_0, x25_1⟩ := GB.c2 hg 5 rfl
        clear hg hi hr
        refine withs_guard rfl rfl ?_
        simp only [withs, List.getElem?_cons_zero, List.getElem?_cons_succ, Option.bind, Option.getD]
        repeat (first | (with_reducible refine all_isV ?_) | (with_reducible refine all_isRD ?_; intro sx Ax kx cx hvx hwx) | (with_reducible refine all_isRN ?_; intro Ax kx cx hvx) | (with_reducible refine all_isWC ?_; intro sx Ax kx cx hvx hwx) | (with_reducible refine all_isRow ?_; intro gx hvx))
        refine ⟨by kernel_rfl, ?_⟩
        go_simp
        (exact ⟨Only.refl _ _, isV.self _ _⟩)
    refine owes2_cons (fun wx hox => ?_) ?_
    · focus
        have hg := Lib.hid (HG.out.step hox)
        have hi := Lib.hid (HI.out.step hox)
        have hr := Lib.hid (HR.out.step hox)
        obtain ⟨x26_0, x26_1⟩ := GB.c2 hg 4 rfl
        clear hg hi hr
        refine withs_guard rfl rfl ?_
        simp only [withs, List.getElem?_cons_zero, List.getElem?_cons_succ, Option.bind, Option.getD]
        repeat (first | (with_reducible refine all_isV ?_) | (with_reducible refine all_isRD ?_; intro sx Ax kx cx hvx hwx) | (with_reducible refine all_isRN ?_; intro Ax kx cx hvx) | (with_reducible refine all_isWC ?_; intro sx Ax kx cx hvx hwx) | (with_reducible refine all_isRow ?_; intro gx hvx))
        refine ⟨by kernel_rfl, ?_⟩
        go_simp
        (exact ⟨Only.refl _ _, isV.self _ _⟩)
    refine owes2_cons (fun wx hox => ?_) ?_
    · focus
        refine withs_guard rfl rfl ?_
        simp only [withs, List.getElem?_cons_zero, List.getElem?_cons_succ, Option.bind, Option.getD]
        repeat (first | (with_reducible refine all_isV ?_) | (with_reducible refine all_isRD ?_; intro sx Ax kx cx hvx hwx) | (with_reducible refine all_isRN ?_; intro Ax kx cx hvx) | (with_reducible refine all_isWC ?_; intro sx Ax kx cx hvx hwx) | (with_reducible refine all_isRow ?_; intro gx hvx))
        refine ⟨by kernel_rfl, ?_⟩
        go_simp
        (exact isRow.new _ _ _ _)
    refine owes2_cons (fun wx hox => ?_) ?_
    · focus
        have hg := Lib.hid (HG.out.step hox)
        have hi := Lib.hid (HI.out.step hox)
        have hr := Lib.hid (HR.out.step hox)
        have iv_x := (WL.at (z := x) hi 3 rfl)
        have iv_y := (WL.at (z := y) hi 2 rfl)
        clear hg hi hr
        refine withs_guard rfl rfl ?_
        simp only [withs, List.getElem?_cons_zero, List.getElem?_cons_succ, Option.bind, Option.getD]
        repeat (first | (with_reducible refine all_isV ?_) | (with_reducible refine all_isRD ?_; intro sx Ax kx cx hvx hwx) | (with_reducible refine all_isRN ?_; intro Ax kx cx hvx) | (with_reducible refine all_isWC ?_; intro sx Ax kx cx hvx hwx) | (with_reducible refine all_isRow ?_; intro gx hvx))
        refine ⟨by kernel_rfl, ?_⟩
        go_simp
        (with_reducible exact grow_wcc (mul1C_w zm (by assumption) iv_x iv_y FF.Hzm.out FF.HFm))
    refine owes2_cons (fun wx hox => ?_) ?_
    · focus
        have hg := Lib.hid (HG.out.step hox)
        have hi := Lib.hid (HI.out.step hox)
        have hr := Lib.hid (HR.out.step hox)
        obtain ⟨x27_0, x27_1, x27_2⟩ := GB.c3 hg 3 rfl
        clear hg hi hr
        refine withs_guard rfl rfl ?_
        simp only [withs, List.getElem?_cons_zero, List.getElem?_cons_succ, Option.bind, Option.getD]
        repeat (first | (with_reducible refine all_isV ?_) | (with_reducible refine all_isRD ?_; intro sx Ax kx cx hvx hwx) | (with_reducible refine all_isRN ?_; intro Ax kx cx hvx) | (with_reducible refine all_isWC ?_; intro sx Ax kx cx hvx hwx) | (with_reducible refine all_isRow ?_; intro gx hvx))
        refine ⟨by kernel_rfl, ?_⟩
        go_simp
        (exact ⟨Only.refl _ _, isV.self _ _⟩)
    refine owes2_cons (fun wx hox => ?_) ?_
    · focus
        have hg := Lib.hid (HG.out.step hox)
        have hi := Lib.hid (HI.out.step hox)
        have hr := Lib.hid (HR.out.step hox)
        obtain ⟨x28_0, x28_1, x28_2⟩ := GB.c3 hg 2 rfl
        clear hg hi hr
        refine withs_guard rfl rfl ?_
        simp only [withs, List.getElem?_cons_zero, List.getElem?_cons_succ, Option.bind, Option.getD]
        repeat (first | (with_reducible refine all_isV ?_) | (with_reducible refine all_isRD ?_; intro sx Ax kx cx hvx hwx) | (with_reducible refine all_isRN ?_; intro Ax kx cx hvx) | (with_reducible refine all_isWC ?_; intro sx Ax kx cx hvx hwx) | (with_reducible refine all_isRow ?_; intro gx hvx))
        refine ⟨by kernel_rfl, ?_⟩
        go_simp
        (exact ⟨Only.refl _ _, isV.self _ _⟩)
    refine owes2_cons (fun wx hox => ?_) ?_
    · focus
        have hg := Lib.hid (HG.out.step hox)
        have hi := Lib.hid (HI.out.step hox)
        have hr := Lib.hid (HR.out.step hox)
        have rd_rx := (RL.rd (x := rx) hr 1 rfl)
        have rd_ry := (RL.rd (x := ry) hr 0 rfl)
        clear hg hi hr
        refine withs_guard rfl rfl ?_
        simp only [withs, List.getElem?_cons_zero, List.getElem?_cons_succ, Option.bind, Option.getD]
        repeat (first | (with_reducible refine all_isV ?_) | (with_reducible refine all_isRD ?_; intro sx Ax kx cx hvx hwx) | (with_reducible refine all_isRN ?_; intro Ax kx cx hvx) | (with_reducible refine all_isWC ?_; intro sx Ax kx cx hvx hwx) | (with_reducible refine all_isRow ?_; intro gx hvx))
        refine ⟨by kernel_rfl, ?_⟩
        go_simp
        (with_reducible exact grow_rd (rmulB_w vm FF.Hrvm.out rd_rx rd_ry FF.Brx FF.Bry (by omega)))
    refine owes2_cons (fun wx hox => ?_) ?_
    · focus
        refine withs_guard rfl rfl ?_
        simp only [withs, List.getElem?_cons_zero, List.getElem?_cons_succ, Option.bind, Option.getD]
        repeat (first | (with_reducible refine all_isV ?_) | (with_reducible refine all_isRD ?_; intro sx Ax kx cx hvx hwx) | (with_reducible refine all_isRN ?_; intro Ax kx cx hvx) | (with_reducible refine all_isWC ?_; intro sx Ax kx cx hvx hwx) | (with_reducible refine all_isRow ?_; intro gx hvx))
        refine ⟨by kernel_rfl, ?_⟩
        go_simp
        (with_reducible exact grow_of (is2H_w vm FF.Hvm.out (by assumption) (by assumption) (RD.of (by assumption) (by assumption)) FF.Bvm (by omega)))
    iterate 2
      refine owes2_cons (fun wx hox => ?_) ?_
      · focus
          refine withs_plain rfl ?_
          simp only [withs, List.getElem?_cons_zero, List.getElem?_cons_succ, Option.bind, Option.getD]
          repeat (first | (with_reducible refine all_isV ?_) | (with_reducible refine all_isRD ?_; intro sx Ax kx cx hvx hwx) | (with_reducible refine all_isRN ?_; intro Ax kx cx hvx) | (with_reducible refine all_isWC ?_; intro sx Ax kx cx hvx hwx) | (with_reducible refine all_isRow ?_; intro gx hvx))
          go_simp
          (exact ⟨Only.refl _ _, isV.self _ _⟩)
    refine owes2_cons (fun wx hox => ?_) ?_
    · focus
        have hg := Lib.hid (HG.out.step hox)
        have hi := Lib.hid (HI.out.step hox)
        have hr := Lib.hid (HR.out.step hox)
        obtain ⟨x29_0, x29_1⟩ := GB.c2 hg 5 rfl
        clear hg hi hr
        refine withs_guard rfl rfl ?_
        simp only [withs, List.getElem?_cons_zero, List.getElem?_cons_succ, Option.bind, Option.getD]
        repeat (first | (with_reducible refine all_isV ?_) | (with_reducible refine all_isRD ?_; intro sx Ax kx cx hvx hwx) | (with_reducible refine all_isRN ?_; intro Ax kx cx hvx) | (with_reducible refine all_isWC ?_; intro sx Ax kx cx hvx hwx) | (with_reducible refine all_isRow ?_; intro gx hvx))
        refine ⟨by kernel_rfl, ?_⟩
        go_simp
        (exact ⟨Only.refl _ _, isV.self _ _⟩)
    refine owes2_cons (fun wx hox => ?_) ?_
    · focus
        have hg := Lib.hid (HG.out.step hox)
        have hi := Lib.hid (HI.out.step hox)
        have hr := Lib.hid (HR.out.step hox)
        have iv_x := (WL.at (z := x) hi 3 rfl)
        clear hg hi hr
        refine withs_guard rfl rfl ?_
        simp only [withs, List.getElem?_cons_zero, List.getElem?_cons_succ, Option.bind, Option.getD]
        repeat (first | (with_reducible refine all_isV ?_) | (with_reducible refine all_isRD ?_; intro sx Ax kx cx hvx hwx) | (with_reducible refine all_isRN ?_; intro Ax kx cx hvx) | (with_reducible refine all_isWC ?_; intro sx Ax kx cx hvx hwx) | (with_reducible refine all_isRow ?_; intro gx hvx))
        refine ⟨by kernel_rfl, ?_⟩
        go_simp
        (with_reducible exact grow_wcc (add0C_w iv_x))
    refine owes2_cons (fun wx hox => ?_) ?_
    · focus
        have hg := Lib.hid (HG.out.step hox)
        have hi := Lib.hid (HI.out.step hox)
        have hr := Lib.hid (HR.out.step hox)
        obtain ⟨x30_0, x30_1, x30_2⟩ := GB.c3 hg 3 rfl
        clear hg hi hr
        refine withs_guard rfl rfl ?_
        simp only [withs, List.getElem?_cons_zero, List.getElem?_cons_succ, Option.bind, Option.getD]
        repeat (first | (with_reducible refine all_isV ?_) | (with_reducible refine all_isRD ?_; intro sx Ax kx cx hvx hwx) | (with_reducible refine all_isRN ?_; intro Ax kx cx hvx) | (with_reducible refine all_isWC ?_; intro sx Ax kx cx hvx hwx) | (with_reducible refine all_isRow ?_; intro gx hvx))
        refine ⟨by kernel_rfl, ?_⟩
        go_simp
        (exact ⟨Only.refl _ _, isV.self _ _⟩)
    refine owes2_cons (fun wx hox => ?_) ?_
    · focus
        have hg := Lib.hid (HG.out.step hox)
        have hi := Lib.hid (HI.out.step hox)
        have hr := Lib.hid (HR.out.step hox)
        have rd_rx := (RL.rd (x := rx) hr 1 rfl)
        clear hg hi hr
        refine withs_guard rfl rfl ?_
        simp only [withs, List.getElem?_cons_zero, List.getElem?_cons_succ, Option.bind, Option.getD]
        repeat (first | (with_reducible refine all_isV ?_) | (with_reducible refine all_isRD ?_; intro sx Ax kx cx hvx hwx) | (with_reducible refine all_isRN ?_; intro Ax kx cx hvx) | (with_reducible refine all_isWC ?_; intro sx Ax kx cx hvx hwx) | (with_reducible refine all_isRow ?_; intro gx hvx))
        refine ⟨by kernel_rfl, ?_⟩
        go_simp
        (with_reducible exact grow_of (is2H_w rx FF.Hrx.out (by assumption) (by assumption) rd_rx FF.Brx (by omega)))
    iterate 2
      refine owes2_cons (fun wx hox => ?_) ?_
      · focus
          refine withs_plain rfl ?_
          simp only [withs, List.getElem?_cons_zero, List.getElem?_cons_succ, Option.bind, Option.getD]
          repeat (first | (with_reducible refine all_isV ?_) | (with_reducible refine all_isRD ?_; intro sx Ax kx cx hvx hwx) | (with_reducible refine all_isRN ?_; intro Ax kx cx hvx) | (with_reducible refine all_isWC ?_; intro sx Ax kx cx hvx hwx) | (with_reducible refine all_isRow ?_; intro gx hvx))
          go_simp
          (exact ⟨Only.refl _ _, isV.self _ _⟩)
    refine owes2_cons (fun wx hox => ?_) ?_
    · focus
        have hg := Lib.hid (HG.out.step hox)
        have hi := Lib.hid (HI.out.step hox)
        have hr := Lib.hid (HR.out.step hox)
        obtain ⟨x31_0, x31_1⟩ := GB.c2 hg 5 rfl
        clear hg hi hr
        refine withs_guard rfl rfl ?_
        simp only [withs, List.getElem?_cons_zero, List.getElem?_cons_succ, Option.bind, Option.getD]
        repeat (first | (with_reducible refine all_isV ?_) | (with_reducible refine all_isRD ?_; intro sx Ax kx cx hvx hwx) | (with_reducible refine all_isRN ?_; intro Ax kx cx hvx) | (with_reducible refine all_isWC ?_; intro sx Ax kx cx hvx hwx) | (with_reducible refine all_isRow ?_; intro gx hvx))
        refine ⟨by kernel_rfl, ?_⟩
        go_simp
        (exact ⟨Only.refl _ _, isV.self _ _⟩)
    refine owes2_cons (fun wx hox => ?_) ?_
    · focus
        have hg := Lib.hid (HG.out.step hox)
        have hi := Lib.hid (HI.out.step hox)
        have hr := Lib.hid (HR.out.step hox)
        obtain ⟨x32_0, x32_1⟩ := GB.c2 hg 4 rfl
        clear hg hi hr
        refine withs_guard rfl rfl ?_
        simp only [withs, List.getElem?_cons_zero, List.getElem?_cons_succ, Option.bind, Option.getD]
        repeat (first | (with_reducible refine all_isV ?_) | (with_reducible refine all_isRD ?_; intro sx Ax kx cx hvx hwx) | (with_reducible refine all_isRN ?_; intro Ax kx cx hvx) | (with_reducible refine all_isWC ?_; intro sx Ax kx cx hvx hwx) | (with_reducible refine all_isRow ?_; intro gx hvx))
        refine ⟨by kernel_rfl, ?_⟩
        go_simp
        (exact ⟨Only.refl _ _, isV.self _ _⟩)
    refine owes2_cons (fun wx hox => ?_) ?_
    · focus
        have hg := Lib.hid (HG.out.step hox)
        have hi := Lib.hid (HI.out.step hox)
        have hr := Lib.hid (HR.out.step hox)
        obtain ⟨x33_0, x33_1⟩ := GB.c2 hg 4 rfl
        clear hg hi hr
        refine withs_guard rfl rfl ?_
        simp only [withs, List.getElem?_cons_zero, List.getElem?_cons_succ, Option.bind, Option.getD]
        repeat (first | (with_reducible refine all_isV ?_) | (with_reducible refine all_isRD ?_; intro sx Ax kx cx hvx hwx) | (with_reducible refine all_isRN ?_; intro Ax kx cx hvx) | (with_reducible refine all_isWC ?_; intro sx Ax kx cx hvx hwx) | (with_reducible refine all_isRow ?_; intro gx hvx))
        refine ⟨by kernel_rfl, ?_⟩
        go_simp
        (exact ⟨Only.refl _ _, isV.self _ _⟩)
    refine owes2_cons (fun wx hox => ?_) ?_
    · focus
        refine withs_guard rfl rfl ?_
        simp only [withs, List.getElem?_cons_zero, List.getElem?_cons_succ, Option.bind, Option.getD]
        repeat (first | (with_reducible refine all_isV ?_) | (with_reducible refine all_isRD ?_; intro sx Ax kx cx hvx hwx) | (with_reducible refine all_isRN ?_; intro Ax kx cx hvx) | (with_reducible refine all_isWC ?_; intro sx Ax kx cx hvx hwx) | (with_reducible refine all_isRow ?_; intro gx hvx))
        refine ⟨by kernel_rfl, ?_⟩
        go_simp
        (exact isRow.new _ _ _ _)
    refine owes2_cons (fun wx hox => ?_) ?_
    · focus
        have hg := Lib.hid (HG.out.step hox)
        have hi := Lib.hid (HI.out.step hox)
        have hr := Lib.hid (HR.out.step hox)
        have iv_x := (WL.at (z := x) hi 3 rfl)
        have iv_y := (WL.at (z := y) hi 2 rfl)
        clear hg hi hr
        refine withs_guard rfl rfl ?_
        simp only [withs, List.getElem?_cons_zero, List.getElem?_cons_succ, Option.bind, Option.getD]
        repeat (first | (with_reducible refine all_isV ?_) | (with_reducible refine all_isRD ?_; intro sx Ax kx cx hvx hwx) | (with_reducible refine all_isRN ?_; intro Ax kx cx hvx) | (with_reducible refine all_isWC ?_; intro sx Ax kx cx hvx hwx) | (with_reducible refine all_isRow ?_; intro gx hvx))
        refine ⟨by kernel_rfl, ?_⟩
        go_simp
        (with_reducible exact grow_wcc (mul2C_w zm zmm (by assumption) iv_x iv_y iv_y FF.Hzm.out FF.Hzmm.out FF.HFm FF.HFmm))
    refine owes2_cons (fun wx hox => ?_) ?_
    · focus
        have hg := Lib.hid (HG.out.step hox)
        have hi := Lib.hid (HI.out.step hox)
        have hr := Lib.hid (HR.out.step hox)
        obtain ⟨x34_0, x34_1, x34_2⟩ := GB.c3 hg 3 rfl
        clear hg hi hr
        refine withs_guard rfl rfl ?_
        simp only [withs, List.getElem?_cons_zero, List.getElem?_cons_succ, Option.bind, Option.getD]
        repeat (first | (with_reducible refine all_isV ?_) | (with_reducible refine all_isRD ?_; intro sx Ax kx cx hvx hwx) | (with_reducible refine all_isRN ?_; intro Ax kx cx hvx) | (with_reducible refine all_isWC ?_; intro sx Ax kx cx hvx hwx) | (with_reducible refine all_isRow ?_; intro gx hvx))
        refine ⟨by kernel_rfl, ?_⟩
        go_simp
        (exact ⟨Only.refl _ _, isV.self _ _⟩)
    refine owes2_cons (fun wx hox => ?_) ?_
    · focus
        have hg := Lib.hid (HG.out.step hox)
        have hi := Lib.hid (HI.out.step hox)
        have hr := Lib.hid (HR.out.step hox)
        obtain ⟨x35_0, x35_1, x35_2⟩ := GB.c3 hg 2 rfl
        clear hg hi hr
        refine withs_guard rfl rfl ?_
        simp only [withs, List.getElem?_cons_zero, List.getElem?_cons_succ, Option.bind, Option.getD]
        repeat (first | (with_reducible refine all_isV ?_) | (with_reducible refine all_isRD ?_; intro sx Ax kx cx hvx hwx) | (with_reducible refine all_isRN ?_; intro Ax kx cx hvx) | (with_reducible refine all_isWC ?_; intro sx Ax kx cx hvx hwx) | (with_reducible refine all_isRow ?_; intro gx hvx))
        refine ⟨by kernel_rfl, ?_⟩
        go_simp
        (exact ⟨Only.refl _ _, isV.self _ _⟩)
    refine owes2_cons (fun wx hox => ?_) ?_
    · focus
        have hg := Lib.hid (HG.out.step hox)
        have hi := Lib.hid (HI.out.step hox)
        have hr := Lib.hid (HR.out.step hox)
        have rd_rx := (RL.rd (x := rx) hr 1 rfl)
        have rd_ry := (RL.rd (x := ry) hr 0 rfl)
        clear hg hi hr
        refine withs_guard rfl rfl ?_
        simp only [withs, List.getElem?_cons_zero, List.getElem?_cons_succ, Option.bind, Option.getD]
        repeat (first | (with_reducible refine all_isV ?_) | (with_reducible refine all_isRD ?_; intro sx Ax kx cx hvx hwx) | (with_reducible refine all_isRN ?_; intro Ax kx cx hvx) | (with_reducible refine all_isWC ?_; intro sx Ax kx cx hvx hwx) | (with_reducible refine all_isRow ?_; intro gx hvx))
        refine ⟨by kernel_rfl, ?_⟩
        go_simp
        (with_reducible exact grow_rd (rmulB_w vm FF.Hrvm.out rd_rx rd_ry FF.Brx FF.Bry (by omega)))
    refine owes2_cons (fun wx hox => ?_) ?_
    · focus
        have hg := Lib.hid (HG.out.step hox)
        have hi := Lib.hid (HI.out.step hox)
        have hr := Lib.hid (HR.out.step hox)
        obtain ⟨x36_0, x36_1, x36_2⟩ := GB.c3 hg 2 rfl
        clear hg hi hr
        refine withs_guard rfl rfl ?_
        simp only [withs, List.getElem?_cons_zero, List.getElem?_cons_succ, Option.bind, Option.getD]
        repeat (first | (with_reducible refine all_isV ?_) | (with_reducible refine all_isRD ?_; intro sx Ax kx cx hvx hwx) | (with_reducible refine all_isRN ?_; intro Ax kx cx hvx) | (with_reducible refine all_isWC ?_; intro sx Ax kx cx hvx hwx) | (with_reducible refine all_isRow ?_; intro gx hvx))
        refine ⟨by kernel_rfl, ?_⟩
        go_simp
        (exact ⟨Only.refl _ _, isV.self _ _⟩)
    refine owes2_cons (fun wx hox => ?_) ?_
    · focus
        have hg := Lib.hid (HG.out.step hox)
        have hi := Lib.hid (HI.out.step hox)
        have hr := Lib.hid (HR.out.step hox)
        have rd_ry := (RL.rd (x := ry) hr 0 rfl)
        clear hg hi hr
        refine withs_guard rfl rfl ?_
        simp only [withs, List.getElem?_cons_zero, List.getElem?_cons_succ, Option.bind, Option.getD]
        repeat (first | (with_reducible refine all_isV ?_) | (with_reducible refine all_isRD ?_; intro sx Ax kx cx hvx hwx) | (with_reducible refine all_isRN ?_; intro Ax kx cx hvx) | (with_reducible refine all_isWC ?_; intro sx Ax kx cx hvx hwx) | (with_reducible refine all_isRow ?_; intro gx hvx))
        refine ⟨by kernel_rfl, ?_⟩
        go_simp
        (with_reducible exact grow_rd (rmulB_w vmm FF.Hrvmm.out (RD.of (by assumption) (by assumption)) rd_ry FF.Bvm FF.Bry (by omega)))
    refine owes2_cons (fun wx hox => ?_) ?_
    · focus
        refine withs_guard rfl rfl ?_
        simp only [withs, List.getElem?_cons_zero, List.getElem?_cons_succ, Option.bind, Option.getD]
        repeat (first | (with_reducible refine all_isV ?_) | (with_reducible refine all_isRD ?_; intro sx Ax kx cx hvx hwx) | (with_reducible refine all_isRN ?_; intro Ax kx cx hvx) | (with_reducible refine all_isWC ?_; intro sx Ax kx cx hvx hwx) | (with_reducible refine all_isRow ?_; intro gx hvx))
        refine ⟨by kernel_rfl, ?_⟩
        go_simp
        (with_reducible exact grow_of (is2H_w vmm FF.Hvmm.out (by assumption) (by assumption) (RD.of (by assumption) (by assumption)) FF.Bvmm (by omega)))
    iterate 2
      refine owes2_cons (fun wx hox => ?_) ?_
      · focus
          refine withs_plain rfl ?_
          simp only [withs, List.getElem?_cons_zero, List.getElem?_cons_succ, Option.bind, Option.getD]
          repeat (first | (with_reducible refine all_isV ?_) | (with_reducible refine all_isRD ?_; intro sx Ax kx cx hvx hwx) | (with_reducible refine all_isRN ?_; intro Ax kx cx hvx) | (with_reducible refine all_isWC ?_; intro sx Ax kx cx hvx hwx) | (with_reducible refine all_isRow ?_; intro gx hvx))
          go_simp
          (exact ⟨Only.refl _ _, isV.self _ _⟩)
    refine owes2_cons (fun wx hox => ?_) ?_
    · focus
        have hg := Lib.hid (HG.out.step hox)
        have hi := Lib.hid (HI.out.step hox)
        have hr := Lib.hid (HR.out.step hox)
        obtain ⟨x37_0, x37_1⟩ := GB.c2 hg 5 rfl
        clear hg hi hr
        refine withs_guard rfl rfl ?_
        simp only [withs, List.getElem?_cons_zero, List.getElem?_cons_succ, Option.bind, Option.getD]
        repeat (first | (with_reducible refine all_isV ?_) | (with_reducible refine all_isRD ?_; intro sx Ax kx cx hvx hwx) | (with_reducible refine all_isRN ?_; intro Ax kx cx hvx) | (with_reducible refine all_isWC ?_; intro sx Ax kx cx hvx hwx) | (with_reducible refine all_isRow ?_; intro gx hvx))
        refine ⟨by kernel_rfl, ?_⟩
        go_simp
        (exact ⟨Only.refl _ _, isV.self _ _⟩)
    refine owes2_cons (fun wx hox => ?_) ?_
    · focus
        have hg := Lib.hid (HG.out.step hox)
        have hi := Lib.hid (HI.out.step hox)
        have hr := Lib.hid (HR.out.step hox)
        obtain ⟨x38_0, x38_1⟩ := GB.c2 hg 4 rfl
        clear hg hi hr
        refine withs_guard rfl rfl ?_
        simp only [withs, List.getElem?_cons_zero, List.getElem?_cons_succ, Option.bind, Option.getD]
        repeat (first | (with_reducible refine all_isV ?_) | (with_reducible refine all_isRD ?_; intro sx Ax kx cx hvx hwx) | (with_reducible refine all_isRN ?_; intro Ax kx cx hvx) | (with_reducible refine all_isWC ?_; intro sx Ax kx cx hvx hwx) | (with_reducible refine all_isRow ?_; intro gx hvx))
        refine ⟨by kernel_rfl, ?_⟩
        go_simp
        (exact ⟨Only.refl _ _, isV.self _ _⟩)
    refine owes2_cons (fun wx hox => ?_) ?_
    · focus
        have hg := Lib.hid (HG.out.step hox)
        have hi := Lib.hid (HI.out.step hox)
        have hr := Lib.hid (HR.out.step hox)
        obtain ⟨x39_0, x39_1⟩ := GB.c2 hg 5 rfl
        clear hg hi hr
        refine withs_guard rfl rfl ?_
        simp only [withs, List.getElem?_cons_zero, List.getElem?_cons_succ, Option.bind, Option.getD]
        repeat (first | (with_reducible refine all_isV ?_) | (with_reducible refine all_isRD ?_; intro sx Ax kx cx hvx hwx) | (with_reducible refine all_isRN ?_; intro Ax kx cx hvx) | (with_reducible refine all_isWC ?_; intro sx Ax kx cx hvx hwx) | (with_reducible refine all_isRow ?_; intro gx hvx))
        refine ⟨by kernel_rfl, ?_⟩
        go_simp
        (exact ⟨Only.refl _ _, isV.self _ _⟩)
    refine owes2_cons (fun wx hox => ?_) ?_
    · focus
        refine withs_guard rfl rfl ?_
        simp only [withs, List.getElem?_cons_zero, List.getElem?_cons_succ, Option.bind, Option.getD]
        repeat (first | (with_reducible refine all_isV ?_) | (with_reducible refine all_isRD ?_; intro sx Ax kx cx hvx hwx) | (with_reducible refine all_isRN ?_; intro Ax kx cx hvx) | (with_reducible refine all_isWC ?_; intro sx Ax kx cx hvx hwx) | (with_reducible refine all_isRow ?_; intro gx hvx))
        refine ⟨by kernel_rfl, ?_⟩
        go_simp
        (exact isRow.new _ _ _ _)
    refine owes2_cons (fun wx hox => ?_) ?_
    · focus
        have hg := Lib.hid (HG.out.step hox)
        have hi := Lib.hid (HI.out.step hox)
        have hr := Lib.hid (HR.out.step hox)
        have iv_x := (WL.at (z := x) hi 3 rfl)
        have iv_y := (WL.at (z := y) hi 2 rfl)
        clear hg hi hr
        refine withs_guard rfl rfl ?_
        simp only [withs, List.getElem?_cons_zero, List.getElem?_cons_succ, Option.bind, Option.getD]
        repeat (first | (with_reducible refine all_isV ?_) | (with_reducible refine all_isRD ?_; intro sx Ax kx cx hvx hwx) | (with_reducible refine all_isRN ?_; intro Ax kx cx hvx) | (with_reducible refine all_isWC ?_; intro sx Ax kx cx hvx hwx) | (with_reducible refine all_isRow ?_; intro gx hvx))
        refine ⟨by kernel_rfl, ?_⟩
        go_simp
        (with_reducible exact grow_wcc (add2C_w za zaa (by assumption) iv_x iv_y iv_x FF.Hza.out FF.Hzaa.out FF.HFa FF.HFaa))
    refine owes2_cons (fun wx hox => ?_) ?_
    · focus
        have hg := Lib.hid (HG.out.step hox)
        have hi := Lib.hid (HI.out.step hox)
        have hr := Lib.hid (HR.out.step hox)
        obtain ⟨x40_0, x40_1, x40_2⟩ := GB.c3 hg 3 rfl
        clear hg hi hr
        refine withs_guard rfl rfl ?_
        simp only [withs, List.getElem?_cons_zero, List.getElem?_cons_succ, Option.bind, Option.getD]
        repeat (first | (with_reducible refine all_isV ?_) | (with_reducible refine all_isRD ?_; intro sx Ax kx cx hvx hwx) | (with_reducible refine all_isRN ?_; intro Ax kx cx hvx) | (with_reducible refine all_isWC ?_; intro sx Ax kx cx hvx hwx) | (with_reducible refine all_isRow ?_; intro gx hvx))
        refine ⟨by kernel_rfl, ?_⟩
        go_simp
        (exact ⟨Only.refl _ _, isV.self _ _⟩)
    refine owes2_cons (fun wx hox => ?_) ?_
    · focus
        have hg := Lib.hid (HG.out.step hox)
        have hi := Lib.hid (HI.out.step hox)
        have hr := Lib.hid (HR.out.step hox)
        obtain ⟨x41_0, x41_1, x41_2⟩ := GB.c3 hg 2 rfl
        clear hg hi hr
        refine withs_guard rfl rfl ?_
        simp only [withs, List.getElem?_cons_zero, List.getElem?_cons_succ, Option.bind, Option.getD]
        repeat (first | (with_reducible refine all_isV ?_) | (with_reducible refine all_isRD ?_; intro sx Ax kx cx hvx hwx) | (with_reducible refine all_isRN ?_; intro Ax kx cx hvx) | (with_reducible refine all_isWC ?_; intro sx Ax kx cx hvx hwx) | (with_reducible refine all_isRow ?_; intro gx hvx))
        refine ⟨by kernel_rfl, ?_⟩
        go_simp
        (exact ⟨Only.refl _ _, isV.self _ _⟩)
    refine owes2_cons (fun wx hox => ?_) ?_
    · focus
        have hg := Lib.hid (HG.out.step hox)
        have hi := Lib.hid (HI.out.step hox)
        have hr := Lib.hid (HR.out.step hox)
        have rd_rx := (RL.rd (x := rx) hr 1 rfl)
        have rd_ry := (RL.rd (x := ry) hr 0 rfl)
        clear hg hi hr
        refine withs_guard rfl rfl ?_
        simp only [withs, List.getElem?_cons_zero, List.getElem?_cons_succ, Option.bind, Option.getD]
        repeat (first | (with_reducible refine all_isV ?_) | (with_reducible refine all_isRD ?_; intro sx Ax kx cx hvx hwx) | (with_reducible refine all_isRN ?_; intro Ax kx cx hvx) | (with_reducible refine all_isWC ?_; intro sx Ax kx cx hvx hwx) | (with_reducible refine all_isRow ?_; intro gx hvx))
        refine ⟨by kernel_rfl, ?_⟩
        go_simp
        (with_reducible exact grow_rd (raddB_w va FF.Hrva.out rd_rx rd_ry FF.Crx FF.Cry FF.Brx FF.Bry (by omega)))
    refine owes2_cons (fun wx hox => ?_) ?_
    · focus
        have hg := Lib.hid (HG.out.step hox)
        have hi := Lib.hid (HI.out.step hox)
        have hr := Lib.hid (HR.out.step hox)
        obtain ⟨x42_0, x42_1, x42_2⟩ := GB.c3 hg 3 rfl
        clear hg hi hr
        refine withs_guard rfl rfl ?_
        simp only [withs, List.getElem?_cons_zero, List.getElem?_cons_succ, Option.bind, Option.getD]
        repeat (first | (with_reducible refine all_isV ?_) | (with_reducible refine all_isRD ?_; intro sx Ax kx cx hvx hwx) | (with_reducible refine all_isRN ?_; intro Ax kx cx hvx) | (with_reducible refine all_isWC ?_; intro sx Ax kx cx hvx hwx) | (with_reducible refine all_isRow ?_; intro gx hvx))
        refine ⟨by kernel_rfl, ?_⟩
        go_simp
        (exact ⟨Only.refl _ _, isV.self _ _⟩)
    refine owes2_cons (fun wx hox => ?_) ?_
    · focus
        have hg := Lib.hid (HG.out.step hox)
        have hi := Lib.hid (HI.out.step hox)
        have hr := Lib.hid (HR.out.step hox)
        have rd_rx := (RL.rd (x := rx) hr 1 rfl)
        clear hg hi hr
        refine withs_guard rfl rfl ?_
        simp only [withs, List.getElem?_cons_zero, List.getElem?_cons_succ, Option.bind, Option.getD]
        repeat (first | (with_reducible refine all_isV ?_) | (with_reducible refine all_isRD ?_; intro sx Ax kx cx hvx hwx) | (with_reducible refine all_isRN ?_; intro Ax kx cx hvx) | (with_reducible refine all_isWC ?_; intro sx Ax kx cx hvx hwx) | (with_reducible refine all_isRow ?_; intro gx hvx))
        refine ⟨by kernel_rfl, ?_⟩
        go_simp
        (with_reducible exact grow_rd (raddB_w vaa FF.Hrvaa.out (RD.of (by assumption) (by assumption)) rd_rx FF.Cva FF.Crx FF.Bva FF.Brx (by omega)))
    refine owes2_cons (fun wx hox => ?_) ?_
    · focus
        refine withs_guard rfl rfl ?_
        simp only [withs, List.getElem?_cons_zero, List.getElem?_cons_succ, Option.bind, Option.getD]
        repeat (first | (with_reducible refine all_isV ?_) | (with_reducible refine all_isRD ?_; intro sx Ax kx cx hvx hwx) | (with_reducible refine all_isRN ?_; intro Ax kx cx hvx) | (with_reducible refine all_isWC ?_; intro sx Ax kx cx hvx hwx) | (with_reducible refine all_isRow ?_; intro gx hvx))
        refine ⟨by kernel_rfl, ?_⟩
        go_simp
        (with_reducible exact grow_of (is2H_w vaa FF.Hvaa.out (by assumption) (by assumption) (RD.of (by assumption) (by assumption)) FF.Bvaa (by omega)))
    iterate 2
      refine owes2_cons (fun wx hox => ?_) ?_
      · focus
          refine withs_plain rfl ?_
          simp only [withs, List.getElem?_cons_zero, List.getElem?_cons_succ, Option.bind, Option.getD]
          repeat (first | (with_reducible refine all_isV ?_) | (with_reducible refine all_isRD ?_; intro sx Ax kx cx hvx hwx) | (with_reducible refine all_isRN ?_; intro Ax kx cx hvx) | (with_reducible refine all_isWC ?_; intro sx Ax kx cx hvx hwx) | (with_reducible refine all_isRow ?_; intro gx hvx))
          go_simp
          (exact ⟨Only.refl _ _, isV.self _ _⟩)
    refine owes2_cons (fun wx hox => ?_) ?_
    · focus
        have hg := Lib.hid (HG.out.step hox)
        have hi := Lib.hid (HI.out.step hox)
        have hr := Lib.hid (HR.out.step hox)
        obtain ⟨x43_0, x43_1⟩ := GB.c2 hg 5 rfl
        clear hg hi hr
        refine withs_guard rfl rfl ?_
        simp only [withs, List.getElem?_cons_zero, List.getElem?_cons_succ, Option.bind, Option.getD]
        repeat (first | (with_reducible refine all_isV ?_) | (with_reducible refine all_isRD ?_; intro sx Ax kx cx hvx hwx) | (with_reducible refine all_isRN ?_; intro Ax kx cx hvx) | (with_reducible refine all_isWC ?_; intro sx Ax kx cx hvx hwx) | (with_reducible refine all_isRow ?_; intro gx hvx))
        refine ⟨by kernel_rfl, ?_⟩
        go_simp
        (exact ⟨Only.refl _ _, isV.self _ _⟩)
    refine owes2_cons (fun wx hox => ?_) ?_
    · focus
        have hg := Lib.hid (HG.out.step hox)
        have hi := Lib.hid (HI.out.step hox)
        have hr := Lib.hid (HR.out.step hox)
        have iv_x := (WL.at (z := x) hi 3 rfl)
        clear hg hi hr
        refine withs_guard rfl rfl ?_
        simp only [withs, List.getElem?_cons_zero, List.getElem?_cons_succ, Option.bind, Option.getD]
        repeat (first | (with_reducible refine all_isV ?_) | (with_reducible refine all_isRD ?_; intro sx Ax kx cx hvx hwx) | (with_reducible refine all_isRN ?_; intro Ax kx cx hvx) | (with_reducible refine all_isWC ?_; intro sx Ax kx cx hvx hwx) | (with_reducible refine all_isRow ?_; intro gx hvx))
        refine ⟨by kernel_rfl, ?_⟩
        go_simp
        (with_reducible exact grow_of (textH_w ST iv_x (Lib.hid (FF.htab.out.only (HO6.out.nil_trans (HG.out.step hox).only))) FF.HDl.out FF.HST.out))
    iterate 2
      refine owes2_cons (fun wx hox => ?_) ?_
      · focus
          refine withs_guard rfl rfl ?_
          simp only [withs, List.getElem?_cons_zero, List.getElem?_cons_succ, Option.bind, Option.getD]
          repeat (first | (with_reducible refine all_isV ?_) | (with_reducible refine all_isRD ?_; intro sx Ax kx cx hvx hwx) | (with_reducible refine all_isRN ?_; intro Ax kx cx hvx) | (with_reducible refine all_isWC ?_; intro sx Ax kx cx hvx hwx) | (with_reducible refine all_isRow ?_; intro gx hvx))
          refine ⟨by kernel_rfl, ?_⟩
          go_simp
          (exact ⟨Only.refl _ _, isV.self _ _⟩)
    refine owes2_cons (fun wx hox => ?_) ?_
    · focus
        refine withs_guard rfl rfl ?_
        simp only [withs, List.getElem?_cons_zero, List.getElem?_cons_succ, Option.bind, Option.getD]
        repeat (first | (with_reducible refine all_isV ?_) | (with_reducible refine all_isRD ?_; intro sx Ax kx cx hvx hwx) | (with_reducible refine all_isRN ?_; intro Ax kx cx hvx) | (with_reducible refine all_isWC ?_; intro sx Ax kx cx hvx hwx) | (with_reducible refine all_isRow ?_; intro gx hvx))
        refine ⟨by kernel_rfl, ?_⟩
        go_simp
        (with_reducible exact grow_rn (from_v (Lib.hid (FF.HA0.out.only (HO6.out.nil_trans (HG.out.step hox).only)))))
    refine owes2_cons (fun wx hox => ?_) ?_
    · focus
        refine withs_guard rfl rfl ?_
        simp only [withs, List.getElem?_cons_zero, List.getElem?_cons_succ, Option.bind, Option.getD]
        repeat (first | (with_reducible refine all_isV ?_) | (with_reducible refine all_isRD ?_; intro sx Ax kx cx hvx hwx) | (with_reducible refine all_isRN ?_; intro Ax kx cx hvx) | (with_reducible refine all_isWC ?_; intro sx Ax kx cx hvx hwx) | (with_reducible refine all_isRow ?_; intro gx hvx))
        refine ⟨by kernel_rfl, ?_⟩
        go_simp
        (with_reducible exact grow_of (rtextH_v DG (by assumption) FF.HFN FF.HDN FF.HDG.out))
    refine owes2_cons (fun wx hox => ?_) ?_
    · focus
        refine withs_guard rfl rfl ?_
        simp only [withs, List.getElem?_cons_zero, List.getElem?_cons_succ, Option.bind, Option.getD]
        repeat (first | (with_reducible refine all_isV ?_) | (with_reducible refine all_isRD ?_; intro sx Ax kx cx hvx hwx) | (with_reducible refine all_isRN ?_; intro Ax kx cx hvx) | (with_reducible refine all_isWC ?_; intro sx Ax kx cx hvx hwx) | (with_reducible refine all_isRow ?_; intro gx hvx))
        refine ⟨by kernel_rfl, ?_⟩
        go_simp
        ((rw [if_neg (cat_small FF.HSG.out FF.HDN.out FF.HDG.out), FF.HCat.out]; exact ⟨Only.refl _ _, isV.self _ _⟩))
    refine owes2_cons (fun wx hox => ?_) ?_
    · focus
        refine withs_guard rfl rfl ?_
        simp only [withs, List.getElem?_cons_zero, List.getElem?_cons_succ, Option.bind, Option.getD]
        repeat (first | (with_reducible refine all_isV ?_) | (with_reducible refine all_isRD ?_; intro sx Ax kx cx hvx hwx) | (with_reducible refine all_isRN ?_; intro Ax kx cx hvx) | (with_reducible refine all_isWC ?_; intro sx Ax kx cx hvx hwx) | (with_reducible refine all_isRow ?_; intro gx hvx))
        refine ⟨by kernel_rfl, ?_⟩
        go_simp
        (exact ⟨Only.refl _ _, isV.self _ _⟩)
    iterate 2
      refine owes2_cons (fun wx hox => ?_) ?_
      · focus
          refine withs_plain rfl ?_
          simp only [withs, List.getElem?_cons_zero, List.getElem?_cons_succ, Option.bind, Option.getD]
          repeat (first | (with_reducible refine all_isV ?_) | (with_reducible refine all_isRD ?_; intro sx Ax kx cx hvx hwx) | (with_reducible refine all_isRN ?_; intro Ax kx cx hvx) | (with_reducible refine all_isWC ?_; intro sx Ax kx cx hvx hwx) | (with_reducible refine all_isRow ?_; intro gx hvx))
          go_simp
          (exact ⟨Only.refl _ _, isV.self _ _⟩)
    iterate 2
      refine owes2_cons (fun wx hox => ?_) ?_
      · focus
          refine withs_guard rfl rfl ?_
          simp only [withs, List.getElem?_cons_zero, List.getElem?_cons_succ, Option.bind, Option.getD]
          repeat (first | (with_reducible refine all_isV ?_) | (with_reducible refine all_isRD ?_; intro sx Ax kx cx hvx hwx) | (with_reducible refine all_isRN ?_; intro Ax kx cx hvx) | (with_reducible refine all_isWC ?_; intro sx Ax kx cx hvx hwx) | (with_reducible refine all_isRow ?_; intro gx hvx))
          refine ⟨by kernel_rfl, ?_⟩
          go_simp
          (exact ⟨Only.refl _ _, isV.self _ _⟩)
    refine owes2_cons (fun wx hox => ?_) ?_
    · focus
        have hg := Lib.hid (HG.out.step hox)
        have hi := Lib.hid (HI.out.step hox)
        have hr := Lib.hid (HR.out.step hox)
        have iv_x := (WL.at (z := x) hi 3 rfl)
        clear hg hi hr
        refine withs_guard rfl rfl ?_
        simp only [withs, List.getElem?_cons_zero, List.getElem?_cons_succ, Option.bind, Option.getD]
        repeat (first | (with_reducible refine all_isV ?_) | (with_reducible refine all_isRD ?_; intro sx Ax kx cx hvx hwx) | (with_reducible refine all_isRN ?_; intro Ax kx cx hvx) | (with_reducible refine all_isWC ?_; intro sx Ax kx cx hvx hwx) | (with_reducible refine all_isRow ?_; intro gx hvx))
        refine ⟨by kernel_rfl, ?_⟩
        go_simp
        (with_reducible exact grow_wcc (makeC_w n1 (Lib.hid iv_x.out.mag) iv_x.out.sign))
    refine owes2_cons (fun wx hox => ?_) ?_
    · focus
        have hg := Lib.hid (HG.out.step hox)
        have hi := Lib.hid (HI.out.step hox)
        have hr := Lib.hid (HR.out.step hox)
        obtain ⟨x44_0, x44_1, x44_2⟩ := GB.c3 hg 3 rfl
        clear hg hi hr
        refine withs_guard rfl rfl ?_
        simp only [withs, List.getElem?_cons_zero, List.getElem?_cons_succ, Option.bind, Option.getD]
        repeat (first | (with_reducible refine all_isV ?_) | (with_reducible refine all_isRD ?_; intro sx Ax kx cx hvx hwx) | (with_reducible refine all_isRN ?_; intro Ax kx cx hvx) | (with_reducible refine all_isWC ?_; intro sx Ax kx cx hvx hwx) | (with_reducible refine all_isRow ?_; intro gx hvx))
        refine ⟨by kernel_rfl, ?_⟩
        go_simp
        (exact ⟨Only.refl _ _, isV.self _ _⟩)
    refine owes2_cons (fun wx hox => ?_) ?_
    · focus
        have hg := Lib.hid (HG.out.step hox)
        have hi := Lib.hid (HI.out.step hox)
        have hr := Lib.hid (HR.out.step hox)
        have rd_rx := (RL.rd (x := rx) hr 1 rfl)
        clear hg hi hr
        refine withs_guard rfl rfl ?_
        simp only [withs, List.getElem?_cons_zero, List.getElem?_cons_succ, Option.bind, Option.getD]
        repeat (first | (with_reducible refine all_isV ?_) | (with_reducible refine all_isRD ?_; intro sx Ax kx cx hvx hwx) | (with_reducible refine all_isRN ?_; intro Ax kx cx hvx) | (with_reducible refine all_isWC ?_; intro sx Ax kx cx hvx hwx) | (with_reducible refine all_isRow ?_; intro gx hvx))
        refine ⟨by kernel_rfl, ?_⟩
        go_simp
        (with_reducible exact grow_of (is2H_w rx FF.Hrx.out (by assumption) (by assumption) rd_rx FF.Brx (by omega)))
    iterate 2
      refine owes2_cons (fun wx hox => ?_) ?_
      · focus
          refine withs_plain rfl ?_
          simp only [withs, List.getElem?_cons_zero, List.getElem?_cons_succ, Option.bind, Option.getD]
          repeat (first | (with_reducible refine all_isV ?_) | (with_reducible refine all_isRD ?_; intro sx Ax kx cx hvx hwx) | (with_reducible refine all_isRN ?_; intro Ax kx cx hvx) | (with_reducible refine all_isWC ?_; intro sx Ax kx cx hvx hwx) | (with_reducible refine all_isRow ?_; intro gx hvx))
          go_simp
          (exact ⟨Only.refl _ _, isV.self _ _⟩)
    refine owes2_cons (fun wx hox => ?_) ?_
    · focus
        refine withs_guard rfl rfl ?_
        simp only [withs, List.getElem?_cons_zero, List.getElem?_cons_succ, Option.bind, Option.getD]
        repeat (first | (with_reducible refine all_isV ?_) | (with_reducible refine all_isRD ?_; intro sx Ax kx cx hvx hwx) | (with_reducible refine all_isRN ?_; intro Ax kx cx hvx) | (with_reducible refine all_isWC ?_; intro sx Ax kx cx hvx hwx) | (with_reducible refine all_isRow ?_; intro gx hvx))
        refine ⟨by kernel_rfl, ?_⟩
        go_simp
        (exact ⟨Only.refl _ _, isV.self _ _⟩)
    refine owes2_cons (fun wx hox => ?_) ?_
    · focus
        refine withs_guard rfl rfl ?_
        simp only [withs, List.getElem?_cons_zero, List.getElem?_cons_succ, Option.bind, Option.getD]
        repeat (first | (with_reducible refine all_isV ?_) | (with_reducible refine all_isRD ?_; intro sx Ax kx cx hvx hwx) | (with_reducible refine all_isRN ?_; intro Ax kx cx hvx) | (with_reducible refine all_isWC ?_; intro sx Ax kx cx hvx hwx) | (with_reducible refine all_isRow ?_; intro gx hvx))
        refine ⟨by kernel_rfl, ?_⟩
        go_simp
        (with_reducible exact grow_wcc (ofC_w v _ FF.Hv64))
    refine owes2_cons (fun wx hox => ?_) ?_
    · focus
        refine withs_guard rfl rfl ?_
        simp only [withs, List.getElem?_cons_zero, List.getElem?_cons_succ, Option.bind, Option.getD]
        repeat (first | (with_reducible refine all_isV ?_) | (with_reducible refine all_isRD ?_; intro sx Ax kx cx hvx hwx) | (with_reducible refine all_isRN ?_; intro Ax kx cx hvx) | (with_reducible refine all_isWC ?_; intro sx Ax kx cx hvx hwx) | (with_reducible refine all_isRow ?_; intro gx hvx))
        refine ⟨by kernel_rfl, ?_⟩
        go_simp
        (exact ⟨Only.refl _ _, isV.self _ _⟩)
    refine owes2_cons (fun wx hox => ?_) ?_
    · focus
        refine withs_guard rfl rfl ?_
        simp only [withs, List.getElem?_cons_zero, List.getElem?_cons_succ, Option.bind, Option.getD]
        repeat (first | (with_reducible refine all_isV ?_) | (with_reducible refine all_isRD ?_; intro sx Ax kx cx hvx hwx) | (with_reducible refine all_isRN ?_; intro Ax kx cx hvx) | (with_reducible refine all_isWC ?_; intro sx Ax kx cx hvx hwx) | (with_reducible refine all_isRow ?_; intro gx hvx))
        refine ⟨by kernel_rfl, ?_⟩
        go_simp
        (with_reducible exact grow_rd (rintB_w v vo FF.Hvo.out _ FF.Hv64))
    refine owes2_cons (fun wx hox => ?_) ?_
    · focus
        refine withs_guard rfl rfl ?_
        simp only [withs, List.getElem?_cons_zero, List.getElem?_cons_succ, Option.bind, Option.getD]
        repeat (first | (with_reducible refine all_isV ?_) | (with_reducible refine all_isRD ?_; intro sx Ax kx cx hvx hwx) | (with_reducible refine all_isRN ?_; intro Ax kx cx hvx) | (with_reducible refine all_isWC ?_; intro sx Ax kx cx hvx hwx) | (with_reducible refine all_isRow ?_; intro gx hvx))
        refine ⟨by kernel_rfl, ?_⟩
        go_simp
        (with_reducible exact grow_of (is2H_w vo FF.Hvo.out (by assumption) (by assumption) (RD.of (by assumption) (by assumption)) FF.Bvo (by omega)))
    iterate 2
      refine owes2_cons (fun wx hox => ?_) ?_
      · focus
          refine withs_plain rfl ?_
          simp only [withs, List.getElem?_cons_zero, List.getElem?_cons_succ, Option.bind, Option.getD]
          repeat (first | (with_reducible refine all_isV ?_) | (with_reducible refine all_isRD ?_; intro sx Ax kx cx hvx hwx) | (with_reducible refine all_isRN ?_; intro Ax kx cx hvx) | (with_reducible refine all_isWC ?_; intro sx Ax kx cx hvx hwx) | (with_reducible refine all_isRow ?_; intro gx hvx))
          go_simp
          (exact ⟨Only.refl _ _, isV.self _ _⟩)
    iterate 2
      refine owes2_cons (fun wx hox => ?_) ?_
      · focus
          refine withs_guard rfl rfl ?_
          simp only [withs, List.getElem?_cons_zero, List.getElem?_cons_succ, Option.bind, Option.getD]
          repeat (first | (with_reducible refine all_isV ?_) | (with_reducible refine all_isRD ?_; intro sx Ax kx cx hvx hwx) | (with_reducible refine all_isRN ?_; intro Ax kx cx hvx) | (with_reducible refine all_isWC ?_; intro sx Ax kx cx hvx hwx) | (with_reducible refine all_isRow ?_; intro gx hvx))
          refine ⟨by kernel_rfl, ?_⟩
          go_simp
          (exact ⟨Only.refl _ _, isV.self _ _⟩)
    refine owes2_cons (fun wx hox => ?_) ?_
    · focus
        refine withs_guard rfl rfl ?_
        simp only [withs, List.getElem?_cons_zero, List.getElem?_cons_succ, Option.bind, Option.getD]
        repeat (first | (with_reducible refine all_isV ?_) | (with_reducible refine all_isRD ?_; intro sx Ax kx cx hvx hwx) | (with_reducible refine all_isRN ?_; intro Ax kx cx hvx) | (with_reducible refine all_isWC ?_; intro sx Ax kx cx hvx hwx) | (with_reducible refine all_isRow ?_; intro gx hvx))
        refine ⟨by kernel_rfl, ?_⟩
        go_simp
        (with_reducible exact grow_of (stays_any gL p cL c A xs _ (Lib.hid (HLa.out.only (HG.out.step hox).only (by simp))) (Lib.hid (FF.hr.out.only (HO6.out.nil_trans (HG.out.step hox).only))) FF.hp (by omega)))
    iterate 2
      refine owes2_cons (fun wx hox => ?_) ?_
      · focus
          refine withs_plain rfl ?_
          simp only [withs, List.getElem?_cons_zero, List.getElem?_cons_succ, Option.bind, Option.getD]
          repeat (first | (with_reducible refine all_isV ?_) | (with_reducible refine all_isRD ?_; intro sx Ax kx cx hvx hwx) | (with_reducible refine all_isRN ?_; intro Ax kx cx hvx) | (with_reducible refine all_isWC ?_; intro sx Ax kx cx hvx hwx) | (with_reducible refine all_isRow ?_; intro gx hvx))
          go_simp
          (exact ⟨Only.refl _ _, isV.self _ _⟩)
    iterate 2
      refine owes2_cons (fun wx hox => ?_) ?_
      · focus
          refine withs_guard rfl rfl ?_
          simp only [withs, List.getElem?_cons_zero, List.getElem?_cons_succ, Option.bind, Option.getD]
          repeat (first | (with_reducible refine all_isV ?_) | (with_reducible refine all_isRD ?_; intro sx Ax kx cx hvx hwx) | (with_reducible refine all_isRN ?_; intro Ax kx cx hvx) | (with_reducible refine all_isWC ?_; intro sx Ax kx cx hvx hwx) | (with_reducible refine all_isRow ?_; intro gx hvx))
          refine ⟨by kernel_rfl, ?_⟩
          go_simp
          (exact ⟨Only.refl _ _, isV.self _ _⟩)
    refine owes2_cons (fun wx hox => ?_) ?_
    · focus
        refine withs_guard rfl rfl ?_
        simp only [withs, List.getElem?_cons_zero, List.getElem?_cons_succ, Option.bind, Option.getD]
        repeat (first | (with_reducible refine all_isV ?_) | (with_reducible refine all_isRD ?_; intro sx Ax kx cx hvx hwx) | (with_reducible refine all_isRN ?_; intro Ax kx cx hvx) | (with_reducible refine all_isWC ?_; intro sx Ax kx cx hvx hwx) | (with_reducible refine all_isRow ?_; intro gx hvx))
        refine ⟨by kernel_rfl, ?_⟩
        go_simp
        (with_reducible exact grow_of (stays_any gM q cM d B ys _ (Lib.hid (HLb.out.only (HG.out.step hox).only (by simp))) (Lib.hid (FF.hs.out.only (HO6.out.nil_trans (HG.out.step hox).only))) FF.hq (by omega)))
    iterate 2
      refine owes2_cons (fun wx hox => ?_) ?_
      · focus
          refine withs_plain rfl ?_
          simp only [withs, List.getElem?_cons_zero, List.getElem?_cons_succ, Option.bind, Option.getD]
          repeat (first | (with_reducible refine all_isV ?_) | (with_reducible refine all_isRD ?_; intro sx Ax kx cx hvx hwx) | (with_reducible refine all_isRN ?_; intro Ax kx cx hvx) | (with_reducible refine all_isWC ?_; intro sx Ax kx cx hvx hwx) | (with_reducible refine all_isRow ?_; intro gx hvx))
          go_simp
          (exact ⟨Only.refl _ _, isV.self _ _⟩)
    exact owes2_nil
  case hlz =>
    repeat (refine List.forall_mem_cons.2 ⟨?_, ?_⟩; first | exact isV.lasts _ | exact isRD.lasts _ | exact isRN.lasts _ | exact isWC.lasts _ | exact isRow.lasts _ _ _)
    exact fun _ h => (by cases h)
  intro wx hox
  refine he_last 116 10 (.bool true) rfl (by kernel_rfl) (by kernel_rfl) (fun a' hde hsz => ?_)
  have hsz2 : 10 < a'.tmps.size := by rw [hsz]; exact (by decide : 10 < 224)
  replace HG := Lib.hid (HG.out.step hox)
  replace HI := Lib.hid (HI.out.step hox)
  replace HR := Lib.hid (HR.out.step hox)
  clear hox
  go_wp2_with fail
  refine bodyPost_ret (v := .bool true) (by simp [results, Tryd.results4, go_sem, hsz2]) rfl ⟨rfl, HO6.out.nil_trans HG.out.only⟩
theorem wtells_in1 (n1 n2 : Bool) (A B : Option Addr) (p c q d N M : Nat) (xs ys : List Nat) (x y v dl du zn za zs zm zmm zaa sx sy cxy : Int) (rx ry fl fu vn va vs vm vmm vaa vo : Dy) (SG ST DG : ByteArray) (w0 : World) (hM : M ≤ 200000)
    (htab : Hid (Tab w0)) (HL : Hid (lightB [⟨A, p, c⟩, ⟨B, q, d⟩] = true)) (hr : Hid (LRead w0 A xs)) (hx : Hid (Limb xs)) (hp : Hid (p = xs.length)) (hpc : p ≤ c) (hp40 : p ≤ 40) (hs : Hid (LRead w0 B ys)) (hy : Hid (Limb ys)) (hq : Hid (q = ys.length)) (hqd : q ≤ d) (hq40 : q ≤ 40) (hvx : Hid (sg n1 (val xs) = x)) (hvy : Hid (sg n2 (val ys) = y)) (HA0 : Hid (NV w0 (.slice A p c) N))
    (Hrx : Hid (nrm x 0 = rx))
    (Hry : Hid (nrm y 0 = ry))
    (Hsx : Hid (rx.z.sign = sx))
    (Hsy : Hid (ry.z.sign = sy))
    (Hwsx : Hid (x.sign = sx))
    (Hzr : Hid ((sy == 0) = false))
    (Hzk : Hid (false = !true))
    (HQdl : Hid (IfB true false (y = 0 ∧ dl = 0) ∧ IfB true true (y ≠ 0 ∧ quoI false x y = dl)))
    (HQdu : Hid (IfB true false (y = 0 ∧ du = 0) ∧ IfB true true (y ≠ 0 ∧ quoI true x y = du)))
    (HFq : Hid (Few (x.natAbs + 1)))
    (Hfl : Hid (nrm (quoI false (intD rx) (intD ry)) 0 = fl))
    (Hfu : Hid (nrm (quoI true (intD rx) (intD ry)) 0 = fu))
    (Hdl : Hid (IfB true true (nrm dl 0 = fl)))
    (Hdu : Hid (IfB true true (nrm du 0 = fu)))
    (Hq0 : Hid (IfB true true (ry.z ≠ 0)))
    (Hz0 : Hid (IfB true false (nrm dl 0 = ⟨0, 0⟩ ∧ nrm du 0 = ⟨0, 0⟩)))
    (Hpe : Hid (0 ≤ rx.e))
    (Hqe : Hid (0 ≤ ry.e))
    (HSG : Hid ((sx < 0 ∧ SG = ⟨#[45]⟩) ∨ (¬ sx < 0 ∧ SG = ⟨#[]⟩)))
    (Hcxy : Hid (cmpI x y = cxy))
    (Hrcxy : Hid (cmpQ rx.q ry.q = cxy))
    (Hzn : Hid (-x = zn)) (Hrvn : Hid (dNot rx = vn)) (Hvn : Hid (nrm zn 0 = vn)) (Hza : Hid (x + y = za)) (Hrva : Hid (dAdd rx ry = va)) (Hva : Hid (nrm za 0 = va)) (Hzs : Hid (x - y = zs)) (Hrvs : Hid (dSub rx ry = vs)) (Hvs : Hid (nrm zs 0 = vs)) (Hzm : Hid (x * y = zm)) (Hrvm : Hid (dMul rx ry = vm)) (Hvm : Hid (nrm zm 0 = vm)) (Hzmm : Hid (zm * y = zmm)) (Hrvmm : Hid (dMul vm ry = vmm)) (Hvmm : Hid (nrm zmm 0 = vmm)) (Hzaa : Hid (za + x = zaa)) (Hrvaa : Hid (dAdd va rx = vaa)) (Hvaa : Hid (nrm zaa 0 = vaa))
    (Hvo : Hid (nrm v 0 = vo))
    (Hv64 : Hid (-9223372036854775808 ≤ v ∧ v ≤ 9223372036854775807))
    (HFa : Hid (Few za.natAbs)) (HFs : Hid (Few zs.natAbs)) (HFm : Hid (Few zm.natAbs)) (HFmm : Hid (Few zmm.natAbs)) (HFaa : Hid (Few zaa.natAbs)) (HFN : Hid (Few N)) (HDl : Hid ((Lib.decDigits x.natAbs).length ≤ 1000000)) (HDN : Hid ((Lib.decDigits N).length ≤ 1000000))
    (HST : Hid ((⟨((if x < 0 then [45] else []) ++ Lib.decDigits x.natAbs).toArray⟩ : ByteArray) = ST))
    (HDG : Hid ((⟨(Lib.decDigits N).toArray⟩ : ByteArray) = DG))
    (HCat : Hid (SG ++ DG = ST))
    (Crx : Hid (Can rx)) (Cry : Hid (Can ry)) (Cva : Hid (Can va)) (B0 : Hid (Bnd M ⟨0, 0⟩)) (Brx : Hid (Bnd M rx)) (Bry : Hid (Bnd M ry)) (Bfl : Hid (Bnd M fl)) (Bfu : Hid (Bnd M fu)) (Bvn : Hid (Bnd M vn)) (Bva : Hid (Bnd M va)) (Bvs : Hid (Bnd M vs)) (Bvm : Hid (Bnd M vm)) (Bvmm : Hid (Bnd M vmm)) (Bvaa : Hid (Bnd M vaa)) (Bvo : Hid (Bnd M vo)) :
    Calls Tryd.prog 4 #[.bool n1, .bool n2, .slice A p c, .slice B q d, .int .i64 v] w0 fun e w' => e = .returned (.bool true) ∧ Only [] w0 w' :=
  wtells_in1F n1 n2 A B p c q d N M xs ys x y v dl du zn za zs zm zmm zaa sx sy cxy rx ry fl fu vn va vs vm vmm vaa vo SG ST DG w0 hM hpc hp40 hqd hq40 ⟨htab, HL, hr, hx, hp, hs, hy, hq, hvx, hvy, HA0, Hrx, Hry, Hsx, Hsy, Hwsx, Hzr, Hzk, HQdl, HQdu, HFq, Hfl, Hfu, Hdl, Hdu, Hq0, Hz0, Hpe, Hqe, HSG, Hcxy, Hrcxy, Hzn, Hrvn, Hvn, Hza, Hrva, Hva, Hzs, Hrvs, Hvs, Hzm, Hrvm, Hvm, Hzmm, Hrvmm, Hvmm, Hzaa, Hrvaa, Hvaa, Hvo, Hv64, HFa, HFs, HFm, HFmm, HFaa, HFN, HDl, HDN, HST, HDG, HCat, Crx, Cry, Cva, B0, Brx, Bry, Bfl, Bfu, Bvn, Bva, Bvs, Bvm, Bvmm, Bvaa, Bvo⟩

structure WTF0 (n1 n2 : Bool) (A B : Option Addr) (p c q d N M : Nat) (xs ys : List Nat) (x y v dl du zn za zs zm zmm zaa sx sy cxy : Int) (rx ry fl fu vn va vs vm vmm vaa vo : Dy) (SG ST DG : ByteArray) (w0 : World) : Prop where
  htab : Hid (Tab w0)
  HL : Hid (lightB [⟨A, p, c⟩, ⟨B, q, d⟩] = true)
  hr : Hid (LRead w0 A xs)
  hx : Hid (Limb xs)
  hp : Hid (p = xs.length)
  hs : Hid (LRead w0 B ys)
  hy : Hid (Limb ys)
  hq : Hid (q = ys.length)
  hvx : Hid (sg n1 (val xs) = x)
  hvy : Hid (sg n2 (val ys) = y)
  HA0 : Hid (NV w0 (.slice A p c) N)
  Hrx : Hid (nrm x 0 = rx)
  Hry : Hid (nrm y 0 = ry)
  Hsx : Hid (rx.z.sign = sx)
  Hsy : Hid (ry.z.sign = sy)
  Hwsx : Hid (x.sign = sx)
  Hzr : Hid ((sy == 0) = true)
  Hzk : Hid (true = !false)
  HQdl : Hid (IfB false false (y = 0 ∧ dl = 0) ∧ IfB false true (y ≠ 0 ∧ quoI false x y = dl))
  HQdu : Hid (IfB false false (y = 0 ∧ du = 0) ∧ IfB false true (y ≠ 0 ∧ quoI true x y = du))
  HFq : Hid (Few (x.natAbs + 1))
  Hfl : Hid (nrm (quoI false (intD rx) (intD ry)) 0 = fl)
  Hfu : Hid (nrm (quoI true (intD rx) (intD ry)) 0 = fu)
  Hdl : Hid (IfB false true (nrm dl 0 = fl))
  Hdu : Hid (IfB false true (nrm du 0 = fu))
  Hq0 : Hid (IfB false true (ry.z ≠ 0))
  Hz0 : Hid (IfB false false (nrm dl 0 = ⟨0, 0⟩ ∧ nrm du 0 = ⟨0, 0⟩))
  Hpe : Hid (0 ≤ rx.e)
  Hqe : Hid (0 ≤ ry.e)
  HSG : Hid ((sx < 0 ∧ SG = ⟨#[45]⟩) ∨ (¬ sx < 0 ∧ SG = ⟨#[]⟩))
  Hcxy : Hid (cmpI x y = cxy)
  Hrcxy : Hid (cmpQ rx.q ry.q = cxy)
  Hzn : Hid (-x = zn)
  Hrvn : Hid (dNot rx = vn)
  Hvn : Hid (nrm zn 0 = vn)
  Hza : Hid (x + y = za)
  Hrva : Hid (dAdd rx ry = va)
  Hva : Hid (nrm za 0 = va)
  Hzs : Hid (x - y = zs)
  Hrvs : Hid (dSub rx ry = vs)
  Hvs : Hid (nrm zs 0 = vs)
  Hzm : Hid (x * y = zm)
  Hrvm : Hid (dMul rx ry = vm)
  Hvm : Hid (nrm zm 0 = vm)
  Hzmm : Hid (zm * y = zmm)
  Hrvmm : Hid (dMul vm ry = vmm)
  Hvmm : Hid (nrm zmm 0 = vmm)
  Hzaa : Hid (za + x = zaa)
  Hrvaa : Hid (dAdd va rx = vaa)
  Hvaa : Hid (nrm zaa 0 = vaa)
  Hvo : Hid (nrm v 0 = vo)
  Hv64 : Hid (-9223372036854775808 ≤ v ∧ v ≤ 9223372036854775807)
  HFa : Hid (Few za.natAbs)
  HFs : Hid (Few zs.natAbs)
  HFm : Hid (Few zm.natAbs)
  HFmm : Hid (Few zmm.natAbs)
  HFaa : Hid (Few zaa.natAbs)
  HFN : Hid (Few N)
  HDl : Hid ((Lib.decDigits x.natAbs).length ≤ 1000000)
  HDN : Hid ((Lib.decDigits N).length ≤ 1000000)
  HST : Hid ((⟨((if x < 0 then [45] else []) ++ Lib.decDigits x.natAbs).toArray⟩ : ByteArray) = ST)
  HDG : Hid ((⟨(Lib.decDigits N).toArray⟩ : ByteArray) = DG)
  HCat : Hid (SG ++ DG = ST)
  Crx : Hid (Can rx)
  Cry : Hid (Can ry)
  Cva : Hid (Can va)
  B0 : Hid (Bnd M ⟨0, 0⟩)
  Brx : Hid (Bnd M rx)
  Bry : Hid (Bnd M ry)
  Bfl : Hid (Bnd M fl)
  Bfu : Hid (Bnd M fu)
  Bvn : Hid (Bnd M vn)
  Bva : Hid (Bnd M va)
  Bvs : Hid (Bnd M vs)
  Bvm : Hid (Bnd M vm)
  Bvmm : Hid (Bnd M vmm)
  Bvaa : Hid (Bnd M vaa)
  Bvo : Hid (Bnd M vo)
set_option maxHeartbeats 100000000 in
set_option maxRecDepth 100000 in
theorem wtells_in0F (n1 n2 : Bool) (A B : Option Addr) (p c q d N M : Nat) (xs ys : List Nat) (x y v dl du zn za zs zm zmm zaa sx sy cxy : Int) (rx ry fl fu vn va vs vm vmm vaa vo : Dy) (SG ST DG : ByteArray) (w0 : World) (hM : M ≤ 200000) (_ : p ≤ c) (hp40 : p ≤ 40) (_ : q ≤ d) (hq40 : q ≤ 40) (FF : WTF0 n1 n2 A B p c q d N M xs ys x y v dl du zn za zs zm zmm zaa sx sy cxy rx ry fl fu vn va vs vm vmm vaa vo SG ST DG w0) :
    Calls Tryd.prog 4 #[.bool n1, .bool n2, .slice A p c, .slice B q d, .int .i64 v] w0 fun e w' => e = .returned (.bool true) ∧ Only [] w0 w' := by
  go_enter Tryd.func4, Tryd.ntmps4
  go_wp2_with fail
  refine (light_v [⟨A, p, c⟩, ⟨B, q, d⟩] 2 (Lib.hid rfl) (by omega)).mono ?_
  rintro e w1 ⟨rfl, ho1⟩
  rw [FF.HL.out]
  have HO1 := Lib.hid ho1
  clear ho1
  go_wp2_with fail
  refine (alive2_any w1 (Lib.hid (FF.htab.out.only HO1.out))).mono ?_
  rintro e w2 ⟨rfl, ho2⟩
  have HO2 := Lib.hid (HO1.out.nil_trans ho2)
  clear ho2
  go_wp2_with fail
  refine (lent_any A p c xs w2 (Lib.hid (FF.hr.out.only HO2.out)) FF.hp (by omega)).mono ?_
  rintro e w5 ⟨gL, cL, rfl, hL, -, ho⟩
  have HLa := Lib.hid hL
  have HNa := Lib.hid (FF.hp.out ▸ (hL.nv FF.hx.out (by have := FF.hp.out; omega)) : NV w5 (.slice (some ⟨gL, 0, none⟩) p cL) (val xs))
  have HO5 := Lib.hid (HO2.out.nil_trans ho)
  clear hL ho
  go_wp2_with fail
  refine (lent_any B q d ys w5 (Lib.hid (FF.hs.out.only HO5.out)) FF.hq (by omega)).mono ?_
  rintro e w ⟨gM, cM, rfl, hL, -, ho⟩
  have HLb := Lib.hid hL
  have HNb := Lib.hid (FF.hq.out ▸ (hL.nv FF.hy.out (by have := FF.hq.out; omega)) : NV w (.slice (some ⟨gM, 0, none⟩) q cM) (val ys))
  replace HNa := Lib.hid (HNa.out.only ho)
  replace HLa := Lib.hid (HLa.out.only ho (by simp))
  have HO6 := Lib.hid (HO5.out.nil_trans ho)
  clear hL ho
  have HXv : Hid (IV w (.agg #[.bool n1, .slice (some ⟨gL, 0, none⟩) p cL]) x) := FF.hvx.out ▸ IV.mk HNa.out
  have HYv : Hid (IV w (.agg #[.bool n2, .slice (some ⟨gM, 0, none⟩) q cM]) y) := FF.hvy.out ▸ IV.mk HNb.out
  have hk := ((GB.start w).new 44 [.bool n1, .slice (some ⟨gL, 0, none⟩) p cL] (noLimb2 _ _ _ _)).new 44 [.bool n2, .slice (some ⟨gM, 0, none⟩) q cM] (noLimb2 _ _ _ _)
  simp only [World.size_alloc] at hk
  have hox : Only [] w ((w.alloc (.cells #[.bool n1, .slice (some ⟨gL, 0, none⟩) p cL] 44)).alloc (.cells #[.bool n2, .slice (some ⟨gM, 0, none⟩) q cM] 44)) := ((Only.refl [] w).alloc _).nil_trans ((Only.refl [] _).alloc _)
  have HG := Lib.hid hk
  have HI := Lib.hid (((WL.nil w).cons HXv).cons HYv |>.step hox)
  have HR := Lib.hid (RL.nil ((w.alloc (.cells #[.bool n1, .slice (some ⟨gL, 0, none⟩) p cL] 44)).alloc (.cells #[.bool n2, .slice (some ⟨gM, 0, none⟩) q cM] 44)))
  clear hk hox HXv HYv HNa HNb
  go_upto_region 5 with fail
  generalize (w.alloc _).alloc _ = w7 at *
  have halr : ∀ w : World, (Instr.alloc 47 true (.tuple #[])).run Tryd.prog w = .ok (.pointer (some ⟨w.heap.size, 0, none⟩)) (w.alloc (.cells #[.bool false, .slice none 0 0, .int .i64 0] 47)) := fun _ => by kernel_rfl
  apply wp_region_typed_tail3 6 [4, 5] 47 #[.bool false, .slice none 0 0, .int .i64 0] (by kernel_rfl) (by kernel_rfl) halr (by kernel_rfl) [isV _, isRD rx, isV _, isRD ry, isPtr w7 47 [.bool false, .slice none 0 0, .int .i64 0], isPtr w7 47 [.bool false, .slice none 0 0, .int .i64 0]] [[], [0], [], [2], [], []] (by kernel_rfl) (by kernel_rfl) (by kernel_rfl)
  case ho =>
    simp only [List.take_succ_cons, List.take_zero]
    refine owes2_cons (fun wx hox => ?_) ?_
    · focus
        have hg := Lib.hid (HG.out.step hox)
        have hi := Lib.hid (HI.out.step hox)
        have hr := Lib.hid (HR.out.step hox)
        obtain ⟨x1_0, x1_1⟩ := GB.c2 hg 1 rfl
        clear hg hi hr
        refine withs_plain rfl ?_
        simp only [withs, List.getElem?_cons_zero, List.getElem?_cons_succ, Option.bind, Option.getD]
        repeat (first | (with_reducible refine all_isV ?_) | (with_reducible refine all_isRD ?_; intro sx Ax kx cx hvx hwx))
        go_simp
        exact ⟨Only.refl _ _, isV.self _ _⟩
    refine owes2_cons (fun wx hox => ?_) ?_
    · focus
        have hg := Lib.hid (HG.out.step hox)
        have hi := Lib.hid (HI.out.step hox)
        have hr := Lib.hid (HR.out.step hox)
        have iv_x := (WL.at (z := x) hi 1 rfl)
        clear hg hi hr
        refine withs_plain rfl ?_
        simp only [withs, List.getElem?_cons_zero, List.getElem?_cons_succ, Option.bind, Option.getD]
        repeat (first | (with_reducible refine all_isV ?_) | (with_reducible refine all_isRD ?_; intro sx Ax kx cx hvx hwx))
        go_simp
        (with_reducible exact grow_rd (rrefH_w rx FF.Hrx.out iv_x))
    refine owes2_cons (fun wx hox => ?_) ?_
    · focus
        have hg := Lib.hid (HG.out.step hox)
        have hi := Lib.hid (HI.out.step hox)
        have hr := Lib.hid (HR.out.step hox)
        obtain ⟨x2_0, x2_1⟩ := GB.c2 hg 0 rfl
        clear hg hi hr
        refine withs_plain rfl ?_
        simp only [withs, List.getElem?_cons_zero, List.getElem?_cons_succ, Option.bind, Option.getD]
        repeat (first | (with_reducible refine all_isV ?_) | (with_reducible refine all_isRD ?_; intro sx Ax kx cx hvx hwx))
        go_simp
        exact ⟨Only.refl _ _, isV.self _ _⟩
    refine owes2_cons (fun wx hox => ?_) ?_
    · focus
        have hg := Lib.hid (HG.out.step hox)
        have hi := Lib.hid (HI.out.step hox)
        have hr := Lib.hid (HR.out.step hox)
        have iv_y := (WL.at (z := y) hi 0 rfl)
        clear hg hi hr
        refine withs_plain rfl ?_
        simp only [withs, List.getElem?_cons_zero, List.getElem?_cons_succ, Option.bind, Option.getD]
        repeat (first | (with_reducible refine all_isV ?_) | (with_reducible refine all_isRD ?_; intro sx Ax kx cx hvx hwx))
        go_simp
        (with_reducible exact grow_rd (rrefH_w ry FF.Hry.out iv_y))
    iterate 2
      refine owes2_cons (fun wx hox => ?_) ?_
      · focus
          refine withs_plain rfl ?_
          simp only [withs, List.getElem?_cons_zero, List.getElem?_cons_succ, Option.bind, Option.getD]
          repeat (first | (with_reducible refine all_isV ?_) | (with_reducible refine all_isRD ?_; intro sx Ax kx cx hvx hwx))
          go_simp
          (exact isPtr.new hox _ _)
    exact owes2_nil
  case hl =>
    repeat (refine List.forall_mem_cons.2 ⟨?_, ?_⟩; first | exact isV.lasts _ | exact isRD.lasts _ | exact isPtr.lasts _ _ _)
    exact fun _ h => (by cases h)
  simp only [List.drop_succ_cons, List.drop_zero]
  intro wx hox
  refine withs_of (by simp only [List.length, List.range, List.range.loop]; exact rfl) ?_
  simp only [withs, List.getElem?_cons_zero, List.getElem?_cons_succ, Option.bind, Option.getD]
  with_reducible refine all_isV ?_
  with_reducible refine all_isRD ?_
  intro s1 A1 k1 c1 hv1 hw1
  with_reducible refine all_isV ?_
  with_reducible refine all_isRD ?_
  intro s3 A3 k3 c3 hv3 hw3
  with_reducible refine all_isPtr ?_
  intro g4 hb4 hg4
  with_reducible refine all_isPtr ?_
  intro g5 hb5 hg5
  go_simp
  intro hap
  have n0_1 : ¬ g4 = g5 := fun hc => hap 4 (by decide) 5 (by decide) (by decide) 15 16 rfl rfl (by rw [hc]; rfl)
  have N0_1 := Lib.hid n0_1
  have N1_0 : Hid (¬ g5 = g4) := fun hc => n0_1 hc.symm
  clear n0_1
  clear hap
  have hsz := HG.out.only.size
  have hga0 := hg4.out
  have Ng0 : Hid (w.heap.size ≤ g4) := Nat.le_trans hsz hga0
  have Ne0 := Lib.hid (GB.apart HG.out hg4.out)
  have BL0 := hb4
  clear hga0 hb4 hg4
  have hga1 := hg5.out
  have Ng1 : Hid (w.heap.size ≤ g5) := Nat.le_trans hsz hga1
  have Ne1 := Lib.hid (GB.apart HG.out hg5.out)
  have BL1 := hb5
  clear hga1 hb5 hg5
  clear hsz
  replace HG := Lib.hid (HG.out.step hox)
  replace HI := Lib.hid (HI.out.step hox)
  replace HR := Lib.hid (HR.out.step hox)
  clear hox
  replace HR := Lib.hid (HR.out.cons hv1 hw1)
  replace HR := Lib.hid (HR.out.cons hv3 hw3)
  have HG9 := Lib.hid (HG.out.adopt3 (u := .bool s1) (v := .slice A1 k1 c1) (x := .int .i64 rx.e) BL0.out (noLimb3 _ _ _ _ _) Ng0.out Ne0.out)
  have HI9 := Lib.hid (HI.out.far (only_set3 wx g4 (.bool s1) (.slice A1 k1 c1) (.int .i64 rx.e)) BL0.out (noLimb3 _ _ _ _ _))
  have HR9 := Lib.hid (HR.out.far (only_set3 wx g4 (.bool s1) (.slice A1 k1 c1) (.int .i64 rx.e)) BL0.out (noLimb3 _ _ _ _ _))
  replace BL1 := Lib.hid (Blk.farX BL1.out (only_set3 wx g4 (.bool s1) (.slice A1 k1 c1) (.int .i64 rx.e)) N1_0.out)
  refine wpList_store 47 (.tmp 15) (.tmp 44) rfl rfl rfl (u := .pointer (some ⟨g4, 0, none⟩)) (v := .agg #[.bool s1, .slice A1 k1 c1, .int .i64 rx.e]) (by kernel_rfl) (by kernel_rfl) (store_rd BL0.out _ _ _ _ _) ?_
  clear HG HI HR BL0 Ne0 Ng0
  generalize ((wx.setCell _ _).setCell _ _).setCell _ _ = wy0_w10 at *
  have HG := HG9
  have HI := HI9
  have HR := HR9
  clear HG9 HI9 HR9
  have HG9 := Lib.hid (HG.out.adopt3 (u := .bool s3) (v := .slice A3 k3 c3) (x := .int .i64 ry.e) BL1.out (noLimb3 _ _ _ _ _) Ng1.out (GB.apart1 Ne1.out N0_1.out))
  have HI9 := Lib.hid (HI.out.far (only_set3 wy0_w10 g5 (.bool s3) (.slice A3 k3 c3) (.int .i64 ry.e)) BL1.out (noLimb3 _ _ _ _ _))
  have HR9 := Lib.hid (HR.out.far (only_set3 wy0_w10 g5 (.bool s3) (.slice A3 k3 c3) (.int .i64 ry.e)) BL1.out (noLimb3 _ _ _ _ _))
  refine wpList_store 47 (.tmp 16) (.tmp 46) rfl rfl rfl (u := .pointer (some ⟨g5, 0, none⟩)) (v := .agg #[.bool s3, .slice A3 k3 c3, .int .i64 ry.e]) (by kernel_rfl) (by kernel_rfl) (store_rd BL1.out _ _ _ _ _) ?_
  clear HG HI HR BL1 Ne1 Ng1
  generalize ((wy0_w10.setCell _ _).setCell _ _).setCell _ _ = wy1_w10 at *
  have HG := HG9
  have HI := HI9
  have HR := HR9
  clear HG9 HI9 HR9
  clear N0_1 N1_0
  go_upto_region 6 with fail
  generalize hww_ : wy1_w10 = w10 at *
  clear hww_
  generalize hgg_ : g4 = g_p at *
  clear hgg_
  generalize hgg_ : g5 = g_q at *
  clear hgg_
  clear halr
  obtain ⟨x3_0, x3_1⟩ := GB.c2 HG 3 rfl
  obtain ⟨x4_0, x4_1⟩ := GB.c2 HG 2 rfl
  apply wp_region_lit
  refine wpList_load 44 (.tmp 13) 48 rfl rfl rfl (u := .pointer (some ⟨w.heap.size, 0, none⟩)) (by kernel_rfl) (load_wi x3_0 x3_1) ?_
  simp only [List.setIfInBounds_toArray, List.set_cons_zero, List.set_cons_succ]
  refine wpList_load 44 (.tmp 14) 49 rfl rfl rfl (u := .pointer (some ⟨(w.heap.size + 1), 0, none⟩)) (by kernel_rfl) (load_wi x4_0 x4_1) ?_
  simp only [List.setIfInBounds_toArray, List.set_cons_zero, List.set_cons_succ]
  clear x3_0 x3_1 x4_0 x4_1
  go_wp2_with fail
  (with_reducible refine (quoV_w false false dl (WL.at (z := x) HI 1 rfl) (WL.at (z := y) HI 0 rfl) FF.HQdl FF.HFq).mono ?_)
  rintro e w111 ⟨sdl, Adl, kdl, cdl, rfl, hs_, hr_, hv_, ho⟩
  have HCdl : Hid (Cn sdl kdl dl) := ⟨hs_, hr_.len⟩
  have HV_ := Lib.hid hv_
  clear hs_ hr_ hv_
  have h_ := HG.out.step ho
  have i_ := HI.out.step ho
  have r_ := HR.out.step ho
  replace i_ := i_.cons HV_
  replace h_ := h_.new 44 [.bool sdl, .slice Adl kdl cdl] (noLimb2 _ _ _ _)
  replace i_ := i_.step ((Only.refl [] w111).alloc (.cells #[.bool sdl, .slice Adl kdl cdl] 44))
  replace r_ := r_.step ((Only.refl [] w111).alloc (.cells #[.bool sdl, .slice Adl kdl cdl] 44))
  replace HG := Lib.hid h_
  replace HI := Lib.hid i_
  replace HR := Lib.hid r_
  clear h_ i_ r_ ho
  clear HV_
  go_upto_region 7 with fail
  generalize w111.heap.size = g_dl at *
  generalize w111.alloc _ = w112 at *
  obtain ⟨x5_0, x5_1⟩ := GB.c2 HG 4 rfl
  obtain ⟨x6_0, x6_1⟩ := GB.c2 HG 3 rfl
  apply wp_region_lit
  refine wpList_load 44 (.tmp 13) 54 rfl rfl rfl (u := .pointer (some ⟨w.heap.size, 0, none⟩)) (by kernel_rfl) (load_wi x5_0 x5_1) ?_
  simp only [List.setIfInBounds_toArray, List.set_cons_zero, List.set_cons_succ]
  refine wpList_load 44 (.tmp 14) 55 rfl rfl rfl (u := .pointer (some ⟨(w.heap.size + 1), 0, none⟩)) (by kernel_rfl) (load_wi x6_0 x6_1) ?_
  simp only [List.setIfInBounds_toArray, List.set_cons_zero, List.set_cons_succ]
  clear x5_0 x5_1 x6_0 x6_1
  go_wp2_with fail
  (with_reducible refine (quoV_w true false du (WL.at (z := x) HI 2 rfl) (WL.at (z := y) HI 1 rfl) FF.HQdu FF.HFq).mono ?_)
  rintro e w113 ⟨sdu, Adu, kdu, cdu, rfl, hs_, hr_, hv_, ho⟩
  have HCdu : Hid (Cn sdu kdu du) := ⟨hs_, hr_.len⟩
  have HV_ := Lib.hid hv_
  clear hs_ hr_ hv_
  have h_ := HG.out.step ho
  have i_ := HI.out.step ho
  have r_ := HR.out.step ho
  replace i_ := i_.cons HV_
  replace h_ := h_.new 44 [.bool sdu, .slice Adu kdu cdu] (noLimb2 _ _ _ _)
  replace i_ := i_.step ((Only.refl [] w113).alloc (.cells #[.bool sdu, .slice Adu kdu cdu] 44))
  replace r_ := r_.step ((Only.refl [] w113).alloc (.cells #[.bool sdu, .slice Adu kdu cdu] 44))
  replace HG := Lib.hid h_
  replace HI := Lib.hid i_
  replace HR := Lib.hid r_
  clear h_ i_ r_ ho
  clear HV_
  go_upto_region 8 with fail
  generalize w113.heap.size = g_du at *
  generalize w113.alloc _ = w114 at *
  obtain ⟨x7_0, x7_1, x7_2⟩ := GB.c3 HG 2 rfl
  apply wp_region_lit
  refine wpList_load 47 (.tmp 16) 59 rfl rfl rfl (u := .pointer (some ⟨g_q, 0, none⟩)) (by kernel_rfl) (load_rd x7_0 x7_1 x7_2) ?_
  simp only [List.setIfInBounds_toArray, List.set_cons_zero, List.set_cons_succ]
  clear x7_0 x7_1 x7_2
  go_wp2_with fail
  have hz_ := FF.Hzr.out
  (with_reducible refine (rsign_d sy (RL.rd (x := ry) HR 0 rfl) FF.Hsy.out).mono ?_)
  rintro e w115 ⟨rfl, ho⟩
  replace HG := Lib.hid (HG.out.step ho)
  replace HI := Lib.hid (HI.out.step ho)
  replace HR := Lib.hid (HR.out.step ho)
  clear ho
  go_upto_region 9 with fail
  clear hz_
  go_cut [104] from 62 to 104 (fun v wx => v = .bool false ∧ Hid (GB w wx [⟨g_du, 44, [.bool sdu, .slice Adu kdu cdu]⟩, ⟨g_dl, 44, [.bool sdl, .slice Adl kdl cdl]⟩, ⟨g_q, 47, [.bool s3, .slice A3 k3 c3, .int .i64 ry.e]⟩, ⟨g_p, 47, [.bool s1, .slice A1 k1 c1, .int .i64 rx.e]⟩, ⟨(w.heap.size + 1), 44, [.bool n2, .slice (some ⟨gM, 0, none⟩) q cM]⟩, ⟨w.heap.size, 44, [.bool n1, .slice (some ⟨gL, 0, none⟩) p cL]⟩]) ∧ Hid (WL wx [⟨sdu, Adu, kdu, cdu, du⟩, ⟨sdl, Adl, kdl, cdl, dl⟩, ⟨n2, (some ⟨gM, 0, none⟩), q, cM, y⟩, ⟨n1, (some ⟨gL, 0, none⟩), p, cL, x⟩]) ∧ Hid (RL wx [⟨s3, A3, k3, c3, ry⟩, ⟨s1, A1, k1, c1, rx⟩]))
  case first =>
    apply wp_region_typed2 (by kernel_rfl) [isV _, isV _, isV _, isV _, isV _, isV _, isV _, isV _, isV _, isV _, isV _, isV _, isV _, isV (.bool true), isV _, isV _, isV _, isV _, isV (.bool true), isV _, isV _, isV _, isV _, isV _, isV _, isV _, isV _, isV undef, isV undef, isV undef, isV undef, isV undef, isV undef, isV undef, isV undef, isV undef, isV undef, isV undef, isV undef, isV undef, isV undef, isV _, isV _] [[], [], [0, 1], [2], [3], [3], [3, 4, 5], [3, 6], [7], [8], [8, 9], [10], [10], [10, 11, 12], [10, 13], [10, 14], [15], [15], [15, 16, 17], [15, 18], [10, 15, 19], [8, 10, 20], [8, 21], [22], [23], [23, 24], [23, 25], [26], [26], [26], [26, 28, 29], [26, 27, 30], [26, 31], [26, 32], [33], [33], [33], [33, 35, 36], [33, 34, 37], [33, 38], [26, 33, 39], [23, 26, 40], [23, 41]] (by kernel_rfl) (by kernel_rfl)
    case ho =>
      iterate 4
        refine owes2_cons (fun wx hox => ?_) ?_
        · focus
            refine withs_plain rfl ?_
            simp only [withs, List.getElem?_cons_zero, List.getElem?_cons_succ, Option.bind, Option.getD]
            repeat (with_reducible refine all_isV ?_)
            go_simp
            exact ⟨Only.refl _ _, isV.self _ _⟩
      iterate 3
        refine owes2_cons (fun wx hox => ?_) ?_
        · focus
            refine withs_guard rfl rfl ?_
            simp only [withs, List.getElem?_cons_zero, List.getElem?_cons_succ, Option.bind, Option.getD]
            repeat (with_reducible refine all_isV ?_)
            refine ⟨by kernel_rfl, ?_⟩
            go_simp
            exact ⟨Only.refl _ _, isV.self _ _⟩
      iterate 2
        refine owes2_cons (fun wx hox => ?_) ?_
        · focus
            refine withs_plain rfl ?_
            simp only [withs, List.getElem?_cons_zero, List.getElem?_cons_succ, Option.bind, Option.getD]
            repeat (with_reducible refine all_isV ?_)
            go_simp
            exact ⟨Only.refl _ _, isV.self _ _⟩
      iterate 2
        refine owes2_cons (fun wx hox => ?_) ?_
        · focus
            refine withs_guard rfl rfl ?_
            simp only [withs, List.getElem?_cons_zero, List.getElem?_cons_succ, Option.bind, Option.getD]
            repeat (with_reducible refine all_isV ?_)
            refine ⟨by kernel_rfl, ?_⟩
            go_simp
            exact ⟨Only.refl _ _, isV.self _ _⟩
      refine owes2_cons (fun wx hox => ?_) ?_
      · focus
          have hg := Lib.hid (HG.out.step hox)
          have hi := Lib.hid (HI.out.step hox)
          have hr := Lib.hid (HR.out.step hox)
          obtain ⟨x8_0, x8_1⟩ := GB.c2 hg 1 rfl
          clear hg hi hr
          refine withs_guard rfl rfl ?_
          simp only [withs, List.getElem?_cons_zero, List.getElem?_cons_succ, Option.bind, Option.getD]
          repeat (with_reducible refine all_isV ?_)
          refine ⟨by kernel_rfl, ?_⟩
          go_simp
          exact ⟨Only.refl _ _, isV.self _ _⟩
      refine owes2_cons (fun wx hox => ?_) ?_
      · focus
          refine withs_guard rfl rfl ?_
          simp only [withs, List.getElem?_cons_zero, List.getElem?_cons_succ, Option.bind, Option.getD]
          repeat (with_reducible refine all_isV ?_)
          refine ⟨by kernel_rfl, ?_⟩
          go_simp
          exact ⟨Only.refl _ _, isV.self _ _⟩
      refine owes2_cons (fun wx hox => ?_) ?_
      · focus
          have hg := Lib.hid (HG.out.step hox)
          have hi := Lib.hid (HI.out.step hox)
          have hr := Lib.hid (HR.out.step hox)
          have iv_dl := (WL.at (z := dl) hi 1 rfl)
          clear hg hi hr
          refine withs_guard rfl rfl ?_
          simp only [withs, List.getElem?_cons_zero, List.getElem?_cons_succ, Option.bind, Option.getD]
          repeat (with_reducible refine all_isV ?_)
          refine ⟨by kernel_rfl, ?_⟩
          go_simp
          (with_reducible exact grow_of (is2H_w ⟨0, 0⟩ (IfB.yes FF.Hz0.out).1 iv_dl HCdl (RD.of (x := ⟨0, 0⟩) (rvz0 _) (Lib.hid crz0)) FF.B0 (by omega)))
      iterate 2
        refine owes2_cons (fun wx hox => ?_) ?_
        · focus
            refine withs_guard rfl rfl ?_
            simp only [withs, List.getElem?_cons_zero, List.getElem?_cons_succ, Option.bind, Option.getD]
            repeat (with_reducible refine all_isV ?_)
            refine ⟨by kernel_rfl, ?_⟩
            go_simp
            exact ⟨Only.refl _ _, isV.self _ _⟩
      refine owes2_cons (fun wx hox => ?_) ?_
      · focus
          have hg := Lib.hid (HG.out.step hox)
          have hi := Lib.hid (HI.out.step hox)
          have hr := Lib.hid (HR.out.step hox)
          obtain ⟨x9_0, x9_1⟩ := GB.c2 hg 0 rfl
          clear hg hi hr
          refine withs_guard rfl rfl ?_
          simp only [withs, List.getElem?_cons_zero, List.getElem?_cons_succ, Option.bind, Option.getD]
          repeat (with_reducible refine all_isV ?_)
          refine ⟨by kernel_rfl, ?_⟩
          go_simp
          exact ⟨Only.refl _ _, isV.self _ _⟩
      refine owes2_cons (fun wx hox => ?_) ?_
      · focus
          refine withs_guard rfl rfl ?_
          simp only [withs, List.getElem?_cons_zero, List.getElem?_cons_succ, Option.bind, Option.getD]
          repeat (with_reducible refine all_isV ?_)
          refine ⟨by kernel_rfl, ?_⟩
          go_simp
          exact ⟨Only.refl _ _, isV.self _ _⟩
      refine owes2_cons (fun wx hox => ?_) ?_
      · focus
          have hg := Lib.hid (HG.out.step hox)
          have hi := Lib.hid (HI.out.step hox)
          have hr := Lib.hid (HR.out.step hox)
          have iv_du := (WL.at (z := du) hi 0 rfl)
          clear hg hi hr
          refine withs_guard rfl rfl ?_
          simp only [withs, List.getElem?_cons_zero, List.getElem?_cons_succ, Option.bind, Option.getD]
          repeat (with_reducible refine all_isV ?_)
          refine ⟨by kernel_rfl, ?_⟩
          go_simp
          (with_reducible exact grow_of (is2H_w ⟨0, 0⟩ (IfB.yes FF.Hz0.out).2 iv_du HCdu (RD.of (x := ⟨0, 0⟩) (rvz0 _) (Lib.hid crz0)) FF.B0 (by omega)))
      iterate 3
        refine owes2_cons (fun wx hox => ?_) ?_
        · focus
            refine withs_guard rfl rfl ?_
            simp only [withs, List.getElem?_cons_zero, List.getElem?_cons_succ, Option.bind, Option.getD]
            repeat (with_reducible refine all_isV ?_)
            refine ⟨by kernel_rfl, ?_⟩
            go_simp
            exact ⟨Only.refl _ _, isV.self _ _⟩
      iterate 2
        refine owes2_cons (fun wx hox => ?_) ?_
        · focus
            refine withs_plain rfl ?_
            simp only [withs, List.getElem?_cons_zero, List.getElem?_cons_succ, Option.bind, Option.getD]
            repeat (with_reducible refine all_isV ?_)
            go_simp
            exact ⟨Only.refl _ _, isV.self _ _⟩
      iterate 3
        refine owes2_cons (fun wx hox => ?_) ?_
        · focus
            refine withs_guard rfl rfl ?_
            simp only [withs, List.getElem?_cons_zero, List.getElem?_cons_succ, Option.bind, Option.getD]
            repeat (with_reducible refine all_isV ?_)
            refine ⟨by kernel_rfl, ?_⟩
            go_simp
            exact ⟨Only.refl _ _, isV.self _ _⟩
      iterate 7
        refine owes2_cons (fun wx hox => ?_) ?_
        · refine withs_guardN false rfl rfl rfl ?_
          simp only [withs, List.getElem?_cons_zero, List.getElem?_cons_succ, Option.bind, Option.getD]
          repeat (with_reducible refine all_isV ?_)
          exact ⟨by kernel_rfl, isV.self _ _⟩
      iterate 6
        refine owes2_cons (fun wx hox => ?_) ?_
        · refine withs_guardU rfl rfl ?_
          simp only [withs, List.getElem?_cons_zero, List.getElem?_cons_succ, Option.bind, Option.getD]
          repeat (with_reducible refine all_isV ?_)
          exact ⟨by kernel_rfl, isV.self _ _⟩
      refine owes2_cons (fun wx hox => ?_) ?_
      · refine withs_guardN false rfl rfl rfl ?_
        simp only [withs, List.getElem?_cons_zero, List.getElem?_cons_succ, Option.bind, Option.getD]
        repeat (with_reducible refine all_isV ?_)
        exact ⟨by kernel_rfl, isV.self _ _⟩
      refine owes2_cons (fun wx hox => ?_) ?_
      · focus
          refine withs_guard rfl rfl ?_
          simp only [withs, List.getElem?_cons_zero, List.getElem?_cons_succ, Option.bind, Option.getD]
          repeat (with_reducible refine all_isV ?_)
          refine ⟨by kernel_rfl, ?_⟩
          go_simp
          exact ⟨Only.refl _ _, isV.self _ _⟩
      refine owes2_cons (fun wx hox => ?_) ?_
      · focus
          refine withs_plain rfl ?_
          simp only [withs, List.getElem?_cons_zero, List.getElem?_cons_succ, Option.bind, Option.getD]
          repeat (with_reducible refine all_isV ?_)
          go_simp
          exact ⟨Only.refl _ _, isV.self _ _⟩
      exact owes2_nil
    case hl =>
      repeat (refine List.forall_mem_cons.2 ⟨?_, ?_⟩; exact isV.lasts _)
      exact fun _ h => (by cases h)
    intro wx hox
    refine withs_of (by simp only [List.length, List.range, List.range.loop]; exact rfl) ?_
    simp only [withs, List.getElem?_cons_zero, List.getElem?_cons_succ, Option.bind, Option.getD]
    repeat (with_reducible refine all_isV ?_)
    go_simp
    replace HG := Lib.hid (HG.out.step hox)
    replace HI := Lib.hid (HI.out.step hox)
    replace HR := Lib.hid (HR.out.step hox)
    clear hox
    go_wp2_with fail
    go_meet
    exact ⟨rfl, HG, HI, HR⟩
  obtain ⟨rfl, HG2, HI2, HR2⟩ := hcut
  clear HG HI HR
  have HG := HG2
  have HI := HI2
  have HR := HR2
  clear HG2 HI2 HR2
  go_upto_region 12 with fail
  obtain ⟨x8_0, x8_1, x8_2⟩ := GB.c3 HG 3 rfl
  apply wp_region_lit
  refine wpList_load 47 (.tmp 15) 105 rfl rfl rfl (u := .pointer (some ⟨g_p, 0, none⟩)) (by kernel_rfl) (load_rd x8_0 x8_1 x8_2) ?_
  simp only [List.setIfInBounds_toArray, List.set_cons_zero, List.set_cons_succ]
  clear x8_0 x8_1 x8_2
  go_wp2_with fail
  (with_reducible refine (rsign_d sx (RL.rd (x := rx) HR 1 rfl) FF.Hsx.out).mono ?_)
  rintro e w116 ⟨rfl, ho⟩
  replace HG := Lib.hid (HG.out.step ho)
  replace HI := Lib.hid (HI.out.step ho)
  replace HR := Lib.hid (HR.out.step ho)
  clear ho
  go_upto_if 107 with fail
  go_cut [22] from 107 to 107 (fun v wx => v = .string SG ∧ Hid (GB w wx [⟨g_du, 44, [.bool sdu, .slice Adu kdu cdu]⟩, ⟨g_dl, 44, [.bool sdl, .slice Adl kdl cdl]⟩, ⟨g_q, 47, [.bool s3, .slice A3 k3 c3, .int .i64 ry.e]⟩, ⟨g_p, 47, [.bool s1, .slice A1 k1 c1, .int .i64 rx.e]⟩, ⟨(w.heap.size + 1), 44, [.bool n2, .slice (some ⟨gM, 0, none⟩) q cM]⟩, ⟨w.heap.size, 44, [.bool n1, .slice (some ⟨gL, 0, none⟩) p cL]⟩]) ∧ Hid (WL wx [⟨sdu, Adu, kdu, cdu, du⟩, ⟨sdl, Adl, kdl, cdl, dl⟩, ⟨n2, (some ⟨gM, 0, none⟩), q, cM, y⟩, ⟨n1, (some ⟨gL, 0, none⟩), p, cL, x⟩]) ∧ Hid (RL wx [⟨s3, A3, k3, c3, ry⟩, ⟨s1, A1, k1, c1, rx⟩]))
  case first =>
    rcases FF.HSG.out with ⟨hs1, hs2⟩ | ⟨hs1, hs2⟩
    · subst hs2
      go_wp2_with fail
      go_meet
      exact ⟨rfl, HG, HI, HR⟩
    · subst hs2
      go_wp2_with fail
      go_meet
      exact ⟨rfl, HG, HI, HR⟩
  obtain ⟨rfl, HG2, HI2, HR2⟩ := hcut
  clear HG HI HR
  have HG := HG2
  have HI := HI2
  have HR := HR2
  clear HG2 HI2 HR2
  go_upto_region 14 with fail
  simp only [List.append_eq, List.cons_append, List.nil_append]
  refine' wp_region_typed2 (by kernel_rfl) (isV (.agg #[.bool n1, .slice (some ⟨gL, 0, none⟩) p cL]) :: isV (.agg #[.bool n2, .slice (some ⟨gM, 0, none⟩) q cM]) :: isV (.int .i64 cxy) :: isV (.agg #[.bool s1, .slice A1 k1 c1, .int .i64 rx.e]) :: isV (.agg #[.bool s3, .slice A3 k3 c3, .int .i64 ry.e]) :: isV (.int .i64 cxy) :: isV (.bool true) :: isV (.bool true) :: isV (.agg #[.bool n1, .slice (some ⟨gL, 0, none⟩) p cL]) :: isV (.int .i64 sx) :: isV (.agg #[.bool s1, .slice A1 k1 c1, .int .i64 rx.e]) :: isV (.int .i64 sx) :: isV (.bool true) :: isV (.bool true) :: isV (.bool true) :: isV (.agg #[.bool n1, .slice (some ⟨gL, 0, none⟩) p cL]) :: isWC zn :: isV (.agg #[.bool s1, .slice A1 k1 c1, .int .i64 rx.e]) :: isRD vn :: isV (.bool true) :: isV (.bool true) :: isV (.bool true) :: isV (.agg #[.bool n1, .slice (some ⟨gL, 0, none⟩) p cL]) :: isV (.agg #[.bool n2, .slice (some ⟨gM, 0, none⟩) q cM]) :: isRow 44 1 [.bool n2, .slice (some ⟨gM, 0, none⟩) q cM] :: isWC za :: isV (.agg #[.bool s1, .slice A1 k1 c1, .int .i64 rx.e]) :: isV (.agg #[.bool s3, .slice A3 k3 c3, .int .i64 ry.e]) :: isRD va :: isV (.bool true) :: isV (.bool true) :: isV (.bool true) :: isV (.agg #[.bool n1, .slice (some ⟨gL, 0, none⟩) p cL]) :: isV (.agg #[.bool n2, .slice (some ⟨gM, 0, none⟩) q cM]) :: isWC zs :: isV (.agg #[.bool s1, .slice A1 k1 c1, .int .i64 rx.e]) :: isV (.agg #[.bool s3, .slice A3 k3 c3, .int .i64 ry.e]) :: isRD vs :: isV (.bool true) :: isV (.bool true) :: isV (.bool true) :: isV (.agg #[.bool n1, .slice (some ⟨gL, 0, none⟩) p cL]) :: isV (.agg #[.bool n2, .slice (some ⟨gM, 0, none⟩) q cM]) :: isRow 44 1 [.bool n2, .slice (some ⟨gM, 0, none⟩) q cM] :: isWC zm :: isV (.agg #[.bool s1, .slice A1 k1 c1, .int .i64 rx.e]) :: isV (.agg #[.bool s3, .slice A3 k3 c3, .int .i64 ry.e]) :: isRD vm :: isV (.bool true) :: isV (.bool true) :: isV (.bool true) :: isV (.agg #[.bool n1, .slice (some ⟨gL, 0, none⟩) p cL]) :: isWC x :: isV (.agg #[.bool s1, .slice A1 k1 c1, .int .i64 rx.e]) :: isV (.bool true) :: isV (.bool true) :: isV (.bool true) :: isV (.agg #[.bool n1, .slice (some ⟨gL, 0, none⟩) p cL]) :: isV (.agg #[.bool n2, .slice (some ⟨gM, 0, none⟩) q cM]) :: isV (.agg #[.bool n2, .slice (some ⟨gM, 0, none⟩) q cM]) :: isRow 44 2 [.bool n2, .slice (some ⟨gM, 0, none⟩) q cM, .bool n2, .slice (some ⟨gM, 0, none⟩) q cM] :: isWC zmm :: isV (.agg #[.bool s1, .slice A1 k1 c1, .int .i64 rx.e]) :: isV (.agg #[.bool s3, .slice A3 k3 c3, .int .i64 ry.e]) :: isRD vm :: isV (.agg #[.bool s3, .slice A3 k3 c3, .int .i64 ry.e]) :: isRD vmm :: isV (.bool true) :: isV (.bool true) :: isV (.bool true) :: isV (.agg #[.bool n1, .slice (some ⟨gL, 0, none⟩) p cL]) :: isV (.agg #[.bool n2, .slice (some ⟨gM, 0, none⟩) q cM]) :: isV (.agg #[.bool n1, .slice (some ⟨gL, 0, none⟩) p cL]) :: isRow 44 2 [.bool n2, .slice (some ⟨gM, 0, none⟩) q cM, .bool n1, .slice (some ⟨gL, 0, none⟩) p cL] :: isWC zaa :: isV (.agg #[.bool s1, .slice A1 k1 c1, .int .i64 rx.e]) :: isV (.agg #[.bool s3, .slice A3 k3 c3, .int .i64 ry.e]) :: isRD va :: isV (.agg #[.bool s1, .slice A1 k1 c1, .int .i64 rx.e]) :: isRD vaa :: isV (.bool true) :: isV (.bool true) :: isV (.bool true) :: isV (.agg #[.bool n1, .slice (some ⟨gL, 0, none⟩) p cL]) :: isV (.string ST) :: isV (.string SG) :: isV (.slice A p c) :: isRN N :: isV (.string DG) :: isV (.string ST) :: isV (.bool true) :: isV (.bool true) :: isV (.bool true) :: isV (.bool n1) :: isV (.slice (some ⟨gL, 0, none⟩) p cL) :: isWC x :: isV (.agg #[.bool s1, .slice A1 k1 c1, .int .i64 rx.e]) :: isV (.bool true) :: isV (.bool true) :: isV (.bool true) :: isV (.int .i64 v) :: isWC v :: isV (.int .i64 v) :: isRD vo :: isV (.bool true) :: isV (.bool true) :: isV (.bool true) :: isV (.slice (some ⟨gL, 0, none⟩) p cL) :: isV (.slice A p c) :: isV (.bool true) :: isV (.bool true) :: isV (.bool true) :: isV (.slice (some ⟨gM, 0, none⟩) q cM) :: isV (.slice B q d) :: isV (.bool true) :: isV (.bool true) :: isV (.bool true) :: []) ([] :: [] :: [0, 1] :: [] :: [] :: [3, 4] :: [2, 5] :: [6] :: [7] :: [7, 8] :: [7] :: [7, 10] :: [7, 9, 11] :: [7, 12] :: [13] :: [14] :: [14, 15] :: [14] :: [14, 17] :: [14, 16, 18] :: [14, 19] :: [20] :: [21] :: [21] :: [21, 23] :: [21, 22, 24] :: [21] :: [21] :: [21, 26, 27] :: [21, 25, 28] :: [21, 29] :: [30] :: [31] :: [31] :: [31, 32, 33] :: [31] :: [31] :: [31, 35, 36] :: [31, 34, 37] :: [31, 38] :: [39] :: [40] :: [40] :: [40, 42] :: [40, 41, 43] :: [40] :: [40] :: [40, 45, 46] :: [40, 44, 47] :: [40, 48] :: [49] :: [50] :: [50, 51] :: [50] :: [50, 52, 53] :: [50, 54] :: [55] :: [56] :: [56] :: [56] :: [56, 58, 59] :: [56, 57, 60] :: [56] :: [56] :: [56, 62, 63] :: [56] :: [56, 64, 65] :: [56, 61, 66] :: [56, 67] :: [68] :: [69] :: [69] :: [69] :: [69, 71, 72] :: [69, 70, 73] :: [69] :: [69] :: [69, 75, 76] :: [69] :: [69, 77, 78] :: [69, 74, 79] :: [69, 80] :: [81] :: [82] :: [82, 83] :: [82] :: [82] :: [82, 86] :: [82, 87] :: [82, 85, 88] :: [82, 84, 89] :: [82, 90] :: [91] :: [92] :: [92] :: [92, 93, 94] :: [92] :: [92, 95, 96] :: [92, 97] :: [98] :: [99] :: [99, 100] :: [99] :: [99, 102] :: [99, 101, 103] :: [99, 104] :: [105] :: [106] :: [106] :: [106, 107, 108] :: [106, 109] :: [110] :: [111] :: [111] :: [111, 112, 113] :: [111, 114] :: [115] :: []) (by kernel_rfl) (by kernel_rfl) ?hlz ?hoz ?hez
  case hoz =>
    refine owes2_cons (fun wx hox => ?_) ?_
    · focus
        have hg := Lib.hid (HG.out.step hox)
        have hi := Lib.hid (HI.out.step hox)
        have hr := Lib.hid (HR.out.step hox)
        obtain ⟨x9_0, x9_1⟩ := GB.c2 hg 5 rfl
        clear hg hi hr
        refine withs_plain rfl ?_
        simp only [withs, List.getElem?_cons_zero, List.getElem?_cons_succ, Option.bind, Option.getD]
        repeat (first | (with_reducible refine all_isV ?_) | (with_reducible refine all_isRD ?_; intro sx Ax kx cx hvx hwx) | (with_reducible refine all_isRN ?_; intro Ax kx cx hvx) | (with_reducible refine all_isWC ?_; intro sx Ax kx cx hvx hwx) | (with_reducible refine all_isRow ?_; intro gx hvx))
        go_simp
        (exact ⟨Only.refl _ _, isV.self _ _⟩)
    refine owes2_cons (fun wx hox => ?_) ?_
    · focus
        have hg := Lib.hid (HG.out.step hox)
        have hi := Lib.hid (HI.out.step hox)
        have hr := Lib.hid (HR.out.step hox)
        obtain ⟨x10_0, x10_1⟩ := GB.c2 hg 4 rfl
        clear hg hi hr
        refine withs_plain rfl ?_
        simp only [withs, List.getElem?_cons_zero, List.getElem?_cons_succ, Option.bind, Option.getD]
        repeat (first | (with_reducible refine all_isV ?_) | (with_reducible refine all_isRD ?_; intro sx Ax kx cx hvx hwx) | (with_reducible refine all_isRN ?_; intro Ax kx cx hvx) | (with_reducible refine all_isWC ?_; intro sx Ax kx cx hvx hwx) | (with_reducible refine all_isRow ?_; intro gx hvx))
        go_simp
        (exact ⟨Only.refl _ _, isV.self _ _⟩)
    refine owes2_cons (fun wx hox => ?_) ?_
    · focus
        have hg := Lib.hid (HG.out.step hox)
        have hi := Lib.hid (HI.out.step hox)
        have hr := Lib.hid (HR.out.step hox)
        have iv_x := (WL.at (z := x) hi 3 rfl)
        have iv_y := (WL.at (z := y) hi 2 rfl)
        clear hg hi hr
        refine withs_plain rfl ?_
        simp only [withs, List.getElem?_cons_zero, List.getElem?_cons_succ, Option.bind, Option.getD]
        repeat (first | (with_reducible refine all_isV ?_) | (with_reducible refine all_isRD ?_; intro sx Ax kx cx hvx hwx) | (with_reducible refine all_isRN ?_; intro Ax kx cx hvx) | (with_reducible refine all_isWC ?_; intro sx Ax kx cx hvx hwx) | (with_reducible refine all_isRow ?_; intro gx hvx))
        go_simp
        (with_reducible exact grow_of (cmpB_w cxy iv_x iv_y FF.Hcxy.out))
    refine owes2_cons (fun wx hox => ?_) ?_
    · focus
        have hg := Lib.hid (HG.out.step hox)
        have hi := Lib.hid (HI.out.step hox)
        have hr := Lib.hid (HR.out.step hox)
        obtain ⟨x11_0, x11_1, x11_2⟩ := GB.c3 hg 3 rfl
        clear hg hi hr
        refine withs_plain rfl ?_
        simp only [withs, List.getElem?_cons_zero, List.getElem?_cons_succ, Option.bind, Option.getD]
        repeat (first | (with_reducible refine all_isV ?_) | (with_reducible refine all_isRD ?_; intro sx Ax kx cx hvx hwx) | (with_reducible refine all_isRN ?_; intro Ax kx cx hvx) | (with_reducible refine all_isWC ?_; intro sx Ax kx cx hvx hwx) | (with_reducible refine all_isRow ?_; intro gx hvx))
        go_simp
        (exact ⟨Only.refl _ _, isV.self _ _⟩)
    refine owes2_cons (fun wx hox => ?_) ?_
    · focus
        have hg := Lib.hid (HG.out.step hox)
        have hi := Lib.hid (HI.out.step hox)
        have hr := Lib.hid (HR.out.step hox)
        obtain ⟨x12_0, x12_1, x12_2⟩ := GB.c3 hg 2 rfl
        clear hg hi hr
        refine withs_plain rfl ?_
        simp only [withs, List.getElem?_cons_zero, List.getElem?_cons_succ, Option.bind, Option.getD]
        repeat (first | (with_reducible refine all_isV ?_) | (with_reducible refine all_isRD ?_; intro sx Ax kx cx hvx hwx) | (with_reducible refine all_isRN ?_; intro Ax kx cx hvx) | (with_reducible refine all_isWC ?_; intro sx Ax kx cx hvx hwx) | (with_reducible refine all_isRow ?_; intro gx hvx))
        go_simp
        (exact ⟨Only.refl _ _, isV.self _ _⟩)
    refine owes2_cons (fun wx hox => ?_) ?_
    · focus
        have hg := Lib.hid (HG.out.step hox)
        have hi := Lib.hid (HI.out.step hox)
        have hr := Lib.hid (HR.out.step hox)
        have rd_rx := (RL.rd (x := rx) hr 1 rfl)
        have rd_ry := (RL.rd (x := ry) hr 0 rfl)
        clear hg hi hr
        refine withs_plain rfl ?_
        simp only [withs, List.getElem?_cons_zero, List.getElem?_cons_succ, Option.bind, Option.getD]
        repeat (first | (with_reducible refine all_isV ?_) | (with_reducible refine all_isRD ?_; intro sx Ax kx cx hvx hwx) | (with_reducible refine all_isRN ?_; intro Ax kx cx hvx) | (with_reducible refine all_isWC ?_; intro sx Ax kx cx hvx hwx) | (with_reducible refine all_isRow ?_; intro gx hvx))
        go_simp
        (with_reducible exact grow_of (rcmp_d (x := rx) (y := ry) cxy rd_rx rd_ry FF.Crx FF.Brx FF.Bry (by omega) FF.Hrcxy.out))
    iterate 2
      refine owes2_cons (fun wx hox => ?_) ?_
      · focus
          refine withs_plain rfl ?_
          simp only [withs, List.getElem?_cons_zero, List.getElem?_cons_succ, Option.bind, Option.getD]
          repeat (first | (with_reducible refine all_isV ?_) | (with_reducible refine all_isRD ?_; intro sx Ax kx cx hvx hwx) | (with_reducible refine all_isRN ?_; intro Ax kx cx hvx) | (with_reducible refine all_isWC ?_; intro sx Ax kx cx hvx hwx) | (with_reducible refine all_isRow ?_; intro gx hvx))
          go_simp
          (exact ⟨Only.refl _ _, isV.self _ _⟩)
    refine owes2_cons (fun wx hox => ?_) ?_
    · focus
        have hg := Lib.hid (HG.out.step hox)
        have hi := Lib.hid (HI.out.step hox)
        have hr := Lib.hid (HR.out.step hox)
        obtain ⟨x13_0, x13_1⟩ := GB.c2 hg 5 rfl
        clear hg hi hr
        refine withs_guard rfl rfl ?_
        simp only [withs, List.getElem?_cons_zero, List.getElem?_cons_succ, Option.bind, Option.getD]
        repeat (first | (with_reducible refine all_isV ?_) | (with_reducible refine all_isRD ?_; intro sx Ax kx cx hvx hwx) | (with_reducible refine all_isRN ?_; intro Ax kx cx hvx) | (with_reducible refine all_isWC ?_; intro sx Ax kx cx hvx hwx) | (with_reducible refine all_isRow ?_; intro gx hvx))
        refine ⟨by kernel_rfl, ?_⟩
        go_simp
        (exact ⟨Only.refl _ _, isV.self _ _⟩)
    refine owes2_cons (fun wx hox => ?_) ?_
    · focus
        have hg := Lib.hid (HG.out.step hox)
        have hi := Lib.hid (HI.out.step hox)
        have hr := Lib.hid (HR.out.step hox)
        have iv_x := (WL.at (z := x) hi 3 rfl)
        clear hg hi hr
        refine withs_guard rfl rfl ?_
        simp only [withs, List.getElem?_cons_zero, List.getElem?_cons_succ, Option.bind, Option.getD]
        repeat (first | (with_reducible refine all_isV ?_) | (with_reducible refine all_isRD ?_; intro sx Ax kx cx hvx hwx) | (with_reducible refine all_isRN ?_; intro Ax kx cx hvx) | (with_reducible refine all_isWC ?_; intro sx Ax kx cx hvx hwx) | (with_reducible refine all_isRow ?_; intro gx hvx))
        refine ⟨by kernel_rfl, ?_⟩
        go_simp
        (with_reducible exact grow_of (signB_w sx iv_x FF.Hwsx.out))
    refine owes2_cons (fun wx hox => ?_) ?_
    · focus
        have hg := Lib.hid (HG.out.step hox)
        have hi := Lib.hid (HI.out.step hox)
        have hr := Lib.hid (HR.out.step hox)
        obtain ⟨x14_0, x14_1, x14_2⟩ := GB.c3 hg 3 rfl
        clear hg hi hr
        refine withs_guard rfl rfl ?_
        simp only [withs, List.getElem?_cons_zero, List.getElem?_cons_succ, Option.bind, Option.getD]
        repeat (first | (with_reducible refine all_isV ?_) | (with_reducible refine all_isRD ?_; intro sx Ax kx cx hvx hwx) | (with_reducible refine all_isRN ?_; intro Ax kx cx hvx) | (with_reducible refine all_isWC ?_; intro sx Ax kx cx hvx hwx) | (with_reducible refine all_isRow ?_; intro gx hvx))
        refine ⟨by kernel_rfl, ?_⟩
        go_simp
        (exact ⟨Only.refl _ _, isV.self _ _⟩)
    refine owes2_cons (fun wx hox => ?_) ?_
    · focus
        have hg := Lib.hid (HG.out.step hox)
        have hi := Lib.hid (HI.out.step hox)
        have hr := Lib.hid (HR.out.step hox)
        have rd_rx := (RL.rd (x := rx) hr 1 rfl)
        clear hg hi hr
        refine withs_guard rfl rfl ?_
        simp only [withs, List.getElem?_cons_zero, List.getElem?_cons_succ, Option.bind, Option.getD]
        repeat (first | (with_reducible refine all_isV ?_) | (with_reducible refine all_isRD ?_; intro sx Ax kx cx hvx hwx) | (with_reducible refine all_isRN ?_; intro Ax kx cx hvx) | (with_reducible refine all_isWC ?_; intro sx Ax kx cx hvx hwx) | (with_reducible refine all_isRow ?_; intro gx hvx))
        refine ⟨by kernel_rfl, ?_⟩
        go_simp
        (with_reducible exact grow_of (rsign_d sx rd_rx FF.Hsx.out))
    refine owes2_cons (fun wx hox => ?_) ?_
    · focus
        refine withs_guard rfl rfl ?_
        simp only [withs, List.getElem?_cons_zero, List.getElem?_cons_succ, Option.bind, Option.getD]
        repeat (first | (with_reducible refine all_isV ?_) | (with_reducible refine all_isRD ?_; intro sx Ax kx cx hvx hwx) | (with_reducible refine all_isRN ?_; intro Ax kx cx hvx) | (with_reducible refine all_isWC ?_; intro sx Ax kx cx hvx hwx) | (with_reducible refine all_isRow ?_; intro gx hvx))
        refine ⟨by kernel_rfl, ?_⟩
        go_simp
        (exact ⟨Only.refl _ _, isV.self _ _⟩)
    iterate 2
      refine owes2_cons (fun wx hox => ?_) ?_
      · focus
          refine withs_plain rfl ?_
          simp only [withs, List.getElem?_cons_zero, List.getElem?_cons_succ, Option.bind, Option.getD]
          repeat (first | (with_reducible refine all_isV ?_) | (with_reducible refine all_isRD ?_; intro sx Ax kx cx hvx hwx) | (with_reducible refine all_isRN ?_; intro Ax kx cx hvx) | (with_reducible refine all_isWC ?_; intro sx Ax kx cx hvx hwx) | (with_reducible refine all_isRow ?_; intro gx hvx))
          go_simp
          (exact ⟨Only.refl _ _, isV.self _ _⟩)
    refine owes2_cons (fun wx hox => ?_) ?_
    · focus
        have hg := Lib.hid (HG.out.step hox)
        have hi := Lib.hid (HI.out.step hox)
        have hr := Lib.hid (HR.out.step hox)
        obtain ⟨x15_0, x15_1⟩ := GB.c2 hg 5 rfl
        clear hg hi hr
        refine withs_guard rfl rfl ?_
        simp only [withs, List.getElem?_cons_zero, List.getElem?_cons_succ, Option.bind, Option.getD]
        repeat (first | (with_reducible refine all_isV ?_) | (with_reducible refine all_isRD ?_; intro sx Ax kx cx hvx hwx) | (with_reducible refine all_isRN ?_; intro Ax kx cx hvx) | (with_reducible refine all_isWC ?_; intro sx Ax kx cx hvx hwx) | (with_reducible refine all_isRow ?_; intro gx hvx))
        refine ⟨by kernel_rfl, ?_⟩
        go_simp
        (exact ⟨Only.refl _ _, isV.self _ _⟩)
    refine owes2_cons (fun wx hox => ?_) ?_
    · focus
        have hg := Lib.hid (HG.out.step hox)
        have hi := Lib.hid (HI.out.step hox)
        have hr := Lib.hid (HR.out.step hox)
        have iv_x := (WL.at (z := x) hi 3 rfl)
        clear hg hi hr
        refine withs_guard rfl rfl ?_
        simp only [withs, List.getElem?_cons_zero, List.getElem?_cons_succ, Option.bind, Option.getD]
        repeat (first | (with_reducible refine all_isV ?_) | (with_reducible refine all_isRD ?_; intro sx Ax kx cx hvx hwx) | (with_reducible refine all_isRN ?_; intro Ax kx cx hvx) | (with_reducible refine all_isWC ?_; intro sx Ax kx cx hvx hwx) | (with_reducible refine all_isRow ?_; intro gx hvx))
        refine ⟨by kernel_rfl, ?_⟩
        go_simp
        (with_reducible exact grow_wcc (notC_w zn iv_x FF.Hzn.out))
    refine owes2_cons (fun wx hox => ?_) ?_
    · focus
        have hg := Lib.hid (HG.out.step hox)
        have hi := Lib.hid (HI.out.step hox)
        have hr := Lib.hid (HR.out.step hox)
        obtain ⟨x16_0, x16_1, x16_2⟩ := GB.c3 hg 3 rfl
        clear hg hi hr
        refine withs_guard rfl rfl ?_
        simp only [withs, List.getElem?_cons_zero, List.getElem?_cons_succ, Option.bind, Option.getD]
        repeat (first | (with_reducible refine all_isV ?_) | (with_reducible refine all_isRD ?_; intro sx Ax kx cx hvx hwx) | (with_reducible refine all_isRN ?_; intro Ax kx cx hvx) | (with_reducible refine all_isWC ?_; intro sx Ax kx cx hvx hwx) | (with_reducible refine all_isRow ?_; intro gx hvx))
        refine ⟨by kernel_rfl, ?_⟩
        go_simp
        (exact ⟨Only.refl _ _, isV.self _ _⟩)
    refine owes2_cons (fun wx hox => ?_) ?_
    · focus
        have hg := Lib.hid (HG.out.step hox)
        have hi := Lib.hid (HI.out.step hox)
        have hr := Lib.hid (HR.out.step hox)
        have rd_rx := (RL.rd (x := rx) hr 1 rfl)
        clear hg hi hr
        refine withs_guard rfl rfl ?_
        simp only [withs, List.getElem?_cons_zero, List.getElem?_cons_succ, Option.bind, Option.getD]
        repeat (first | (with_reducible refine all_isV ?_) | (with_reducible refine all_isRD ?_; intro sx Ax kx cx hvx hwx) | (with_reducible refine all_isRN ?_; intro Ax kx cx hvx) | (with_reducible refine all_isWC ?_; intro sx Ax kx cx hvx hwx) | (with_reducible refine all_isRow ?_; intro gx hvx))
        refine ⟨by kernel_rfl, ?_⟩
        go_simp
        (with_reducible exact grow_rd (rnotB_w vn FF.Hrvn.out rd_rx FF.Brx (by omega)))
    refine owes2_cons (fun wx hox => ?_) ?_
    · focus
        refine withs_guard rfl rfl ?_
        simp only [withs, List.getElem?_cons_zero, List.getElem?_cons_succ, Option.bind, Option.getD]
        repeat (first | (with_reducible refine all_isV ?_) | (with_reducible refine all_isRD ?_; intro sx Ax kx cx hvx hwx) | (with_reducible refine all_isRN ?_; intro Ax kx cx hvx) | (with_reducible refine all_isWC ?_; intro sx Ax kx cx hvx hwx) | (with_reducible refine all_isRow ?_; intro gx hvx))
        refine ⟨by kernel_rfl, ?_⟩
        go_simp
        (with_reducible exact grow_of (is2H_w vn FF.Hvn.out (by assumption) (by assumption) (RD.of (by assumption) (by assumption)) FF.Bvn (by omega)))
    iterate 2
      refine owes2_cons (fun wx hox => ?_) ?_
      · focus
          refine withs_plain rfl ?_
          simp only [withs, List.getElem?_cons_zero, List.getElem?_cons_succ, Option.bind, Option.getD]
          repeat (first | (with_reducible refine all_isV ?_) | (with_reducible refine all_isRD ?_; intro sx Ax kx cx hvx hwx) | (with_reducible refine all_isRN ?_; intro Ax kx cx hvx) | (with_reducible refine all_isWC ?_; intro sx Ax kx cx hvx hwx) | (with_reducible refine all_isRow ?_; intro gx hvx))
          go_simp
          (exact ⟨Only.refl _ _, isV.self _ _⟩)
    refine owes2_cons (fun wx hox => ?_) ?_
    · focus
        have hg := Lib.hid (HG.out.step hox)
        have hi := Lib.hid (HI.out.step hox)
        have hr := Lib.hid (HR.out.step hox)
        obtain ⟨x17_0, x17_1⟩ := GB.c2 hg 5 rfl
        clear hg hi hr
        refine withs_guard rfl rfl ?_
        simp only [withs, List.getElem?_cons_zero, List.getElem?_cons_succ, Option.bind, Option.getD]
        repeat (first | (with_reducible refine all_isV ?_) | (with_reducible refine all_isRD ?_; intro sx Ax kx cx hvx hwx) | (with_reducible refine all_isRN ?_; intro Ax kx cx hvx) | (with_reducible refine all_isWC ?_; intro sx Ax kx cx hvx hwx) | (with_reducible refine all_isRow ?_; intro gx hvx))
        refine ⟨by kernel_rfl, ?_⟩
        go_simp
        (exact ⟨Only.refl _ _, isV.self _ _⟩)
    refine owes2_cons (fun wx hox => ?_) ?_
    · focus
        have hg := Lib.hid (HG.out.step hox)
        have hi := Lib.hid (HI.out.step hox)
        have hr := Lib.hid (HR.out.step hox)
        obtain ⟨x18_0, x18_1⟩ := GB.c2 hg 4 rfl
        clear hg hi hr
        refine withs_guard rfl rfl ?_
        simp only [withs, List.getElem?_cons_zero, List.getElem?_cons_succ, Option.bind, Option.getD]
        repeat (first | (with_reducible refine all_isV ?_) | (with_reducible refine all_isRD ?_; intro sx Ax kx cx hvx hwx) | (with_reducible refine all_isRN ?_; intro Ax kx cx hvx) | (with_reducible refine all_isWC ?_; intro sx Ax kx cx hvx hwx) | (with_reducible refine all_isRow ?_; intro gx hvx))
        refine ⟨by kernel_rfl, ?_⟩
        go_simp
        (exact ⟨Only.refl _ _, isV.self _ _⟩)
    refine owes2_cons (fun wx hox => ?_) ?_
    · focus
        refine withs_guard rfl rfl ?_
        simp only [withs, List.getElem?_cons_zero, List.getElem?_cons_succ, Option.bind, Option.getD]
        repeat (first | (with_reducible refine all_isV ?_) | (with_reducible refine all_isRD ?_; intro sx Ax kx cx hvx hwx) | (with_reducible refine all_isRN ?_; intro Ax kx cx hvx) | (with_reducible refine all_isWC ?_; intro sx Ax kx cx hvx hwx) | (with_reducible refine all_isRow ?_; intro gx hvx))
        refine ⟨by kernel_rfl, ?_⟩
        go_simp
        (exact isRow.new _ _ _ _)
    refine owes2_cons (fun wx hox => ?_) ?_
    · focus
        have hg := Lib.hid (HG.out.step hox)
        have hi := Lib.hid (HI.out.step hox)
        have hr := Lib.hid (HR.out.step hox)
        have iv_x := (WL.at (z := x) hi 3 rfl)
        have iv_y := (WL.at (z := y) hi 2 rfl)
        clear hg hi hr
        refine withs_guard rfl rfl ?_
        simp only [withs, List.getElem?_cons_zero, List.getElem?_cons_succ, Option.bind, Option.getD]
        repeat (first | (with_reducible refine all_isV ?_) | (with_reducible refine all_isRD ?_; intro sx Ax kx cx hvx hwx) | (with_reducible refine all_isRN ?_; intro Ax kx cx hvx) | (with_reducible refine all_isWC ?_; intro sx Ax kx cx hvx hwx) | (with_reducible refine all_isRow ?_; intro gx hvx))
        refine ⟨by kernel_rfl, ?_⟩
        go_simp
        (with_reducible exact grow_wcc (add1C_w za (by assumption) iv_x iv_y FF.Hza.out FF.HFa))
    refine owes2_cons (fun wx hox => ?_) ?_
    · focus
        have hg := Lib.hid (HG.out.step hox)
        have hi := Lib.hid (HI.out.step hox)
        have hr := Lib.hid (HR.out.step hox)
        obtain ⟨x19_0, x19_1, x19_2⟩ := GB.c3 hg 3 rfl
        clear hg hi hr
        refine withs_guard rfl rfl ?_
        simp only [withs, List.getElem?_cons_zero, List.getElem?_cons_succ, Option.bind, Option.getD]
        repeat (first | (with_reducible refine all_isV ?_) | (with_reducible refine all_isRD ?_; intro sx Ax kx cx hvx hwx) | (with_reducible refine all_isRN ?_; intro Ax kx cx hvx) | (with_reducible refine all_isWC ?_; intro sx Ax kx cx hvx hwx) | (with_reducible refine all_isRow ?_; intro gx hvx))
        refine ⟨by kernel_rfl, ?_⟩
        go_simp
        (exact ⟨Only.refl _ _, isV.self _ _⟩)
    refine owes2_cons (fun wx hox => ?_) ?_
    · focus
        have hg := Lib.hid (HG.out.step hox)
        have hi := Lib.hid (HI.out.step hox)
        have hr := Lib.hid (HR.out.step hox)
        obtain ⟨x20_0, x20_1, x20_2⟩ := GB.c3 hg 2 rfl
        clear hg hi hr
        refine withs_guard rfl rfl ?_
        simp only [withs, List.getElem?_cons_zero, List.getElem?_cons_succ, Option.bind, Option.getD]
        repeat (first | (with_reducible refine all_isV ?_) | (with_reducible refine all_isRD ?_; intro sx Ax kx cx hvx hwx) | (with_reducible refine all_isRN ?_; intro Ax kx cx hvx) | (with_reducible refine all_isWC ?_; intro sx Ax kx cx hvx hwx) | (with_reducible refine all_isRow ?_; intro gx hvx))
        refine ⟨by kernel_rfl, ?_⟩
        go_simp
        (exact ⟨Only.refl _ _, isV.self _ _⟩)
    refine owes2_cons (fun wx hox => ?_) ?_
    · focus
        have hg := Lib.hid (HG.out.step hox)
        have hi := Lib.hid (HI.out.step hox)
        have hr := Lib.hid (HR.out.step hox)
        have rd_rx := (RL.rd (x := rx) hr 1 rfl)
        have rd_ry := (RL.rd (x := ry) hr 0 rfl)
        clear hg hi hr
        refine withs_guard rfl rfl ?_
        simp only [withs, List.getElem?_cons_zero, List.getElem?_cons_succ, Option.bind, Option.getD]
        repeat (first | (with_reducible refine all_isV ?_) | (with_reducible refine all_isRD ?_; intro sx Ax kx cx hvx hwx) | (with_reducible refine all_isRN ?_; intro Ax kx cx hvx) | (with_reducible refine all_isWC ?_; intro sx Ax kx cx hvx hwx) | (with_reducible refine all_isRow ?_; intro gx hvx))
        refine ⟨by kernel_rfl, ?_⟩
        go_simp
        (with_reducible exact grow_rd (raddB_w va FF.Hrva.out rd_rx rd_ry FF.Crx FF.Cry FF.Brx FF.Bry (by omega)))
    refine owes2_cons (fun wx hox => ?_) ?_
    · focus
        refine withs_guard rfl rfl ?_
        simp only [withs, List.getElem?_cons_zero, List.getElem?_cons_succ, Option.bind, Option.getD]
        repeat (first | (with_reducible refine all_isV ?_) | (with_reducible refine all_isRD ?_; intro sx Ax kx cx hvx hwx) | (with_reducible refine all_isRN ?_; intro Ax kx cx hvx) | (with_reducible refine all_isWC ?_; intro sx Ax kx cx hvx hwx) | (with_reducible refine all_isRow ?_; intro gx hvx))
        refine ⟨by kernel_rfl, ?_⟩
        go_simp
        (with_reducible exact grow_of (is2H_w va FF.Hva.out (by assumption) (by assumption) (RD.of (by assumption) (by assumption)) FF.Bva (by omega)))
    iterate 2
      refine owes2_cons (fun wx hox => ?_) ?_
      · focus
          refine withs_plain rfl ?_
          simp only [withs, List.getElem?_cons_zero, List.getElem?_cons_succ, Option.bind, Option.getD]
          repeat (first | (with_reducible refine all_isV ?_) | (with_reducible refine all_isRD ?_; intro sx Ax kx cx hvx hwx) | (with_reducible refine all_isRN ?_; intro Ax kx cx hvx) | (with_reducible refine all_isWC ?_; intro sx Ax kx cx hvx hwx) | (with_reducible refine all_isRow ?_; intro gx hvx))
          go_simp
          (exact ⟨Only.refl _ _, isV.self _ _⟩)
    refine owes2_cons (fun wx hox => ?_) ?_
    · focus
        have hg := Lib.hid (HG.out.step hox)
        have hi := Lib.hid (HI.out.step hox)
        have hr := Lib.hid (HR.out.step hox)
        obtain ⟨x21_0, x21_1⟩ := GB.c2 hg 5 rfl
        clear hg hi hr
        refine withs_guard rfl rfl ?_
        simp only [withs, List.getElem?_cons_zero, List.getElem?_cons_succ, Option.bind, Option.getD]
        repeat (first | (with_reducible refine all_isV ?_) | (with_reducible refine all_isRD ?_; intro sx Ax kx cx hvx hwx) | (with_reducible refine all_isRN ?_; intro Ax kx cx hvx) | (with_reducible refine all_isWC ?_; intro sx Ax kx cx hvx hwx) | (with_reducible refine all_isRow ?_; intro gx hvx))
        refine ⟨by kernel_rfl, ?_⟩
        go_simp
        (exact ⟨Only.refl _ _, isV.self _ _⟩)
    refine owes2_cons (fun wx hox => ?_) ?_
    · focus
        have hg := Lib.hid (HG.out.step hox)
        have hi := Lib.hid (HI.out.step hox)
        have hr := Lib.hid (HR.out.step hox)
        obtain ⟨x22_0, x22_1⟩ := GB.c2 hg 4 rfl
        clear hg hi hr
        refine withs_guard rfl rfl ?_
        simp only [withs, List.getElem?_cons_zero, List.getElem?_cons_succ, Option.bind, Option.getD]
        repeat (first | (with_reducible refine all_isV ?_) | (with_reducible refine all_isRD ?_; intro sx Ax kx cx hvx hwx) | (with_reducible refine all_isRN ?_; intro Ax kx cx hvx) | (with_reducible refine all_isWC ?_; intro sx Ax kx cx hvx hwx) | (with_reducible refine all_isRow ?_; intro gx hvx))
        refine ⟨by kernel_rfl, ?_⟩
        go_simp
        (exact ⟨Only.refl _ _, isV.self _ _⟩)
    refine owes2_cons (fun wx hox => ?_) ?_
    · focus
        have hg := Lib.hid (HG.out.step hox)
        have hi := Lib.hid (HI.out.step hox)
        have hr := Lib.hid (HR.out.step hox)
        have iv_x := (WL.at (z := x) hi 3 rfl)
        have iv_y := (WL.at (z := y) hi 2 rfl)
        clear hg hi hr
        refine withs_guard rfl rfl ?_
        simp only [withs, List.getElem?_cons_zero, List.getElem?_cons_succ, Option.bind, Option.getD]
        repeat (first | (with_reducible refine all_isV ?_) | (with_reducible refine all_isRD ?_; intro sx Ax kx cx hvx hwx) | (with_reducible refine all_isRN ?_; intro Ax kx cx hvx) | (with_reducible refine all_isWC ?_; intro sx Ax kx cx hvx hwx) | (with_reducible refine all_isRow ?_; intro gx hvx))
        refine ⟨by kernel_rfl, ?_⟩
        go_simp
        (with_reducible exact grow_wcc (subC_w zs iv_x iv_y FF.Hzs.out FF.HFs))
    refine owes2_cons (fun wx hox => ?_) ?_
    · focus
        have hg := Lib.hid (HG.out.step hox)
        have hi := Lib.hid (HI.out.step hox)
        have hr := Lib.hid (HR.out.step hox)
        obtain ⟨x23_0, x23_1, x23_2⟩ := GB.c3 hg 3 rfl
        clear hg hi hr
        refine withs_guard rfl rfl ?_
        simp only [withs, List.getElem?_cons_zero, List.getElem?_cons_succ, Option.bind, Option.getD]
        repeat (first | (with_reducible refine all_isV ?_) | (with_reducible refine all_isRD ?_; intro sx Ax kx cx hvx hwx) | (with_reducible refine all_isRN ?_; intro Ax kx cx hvx) | (with_reducible refine all_isWC ?_; intro sx Ax kx cx hvx hwx) | (with_reducible refine all_isRow ?_; intro gx hvx))
        refine ⟨by kernel_rfl, ?_⟩
        go_simp
        (exact ⟨Only.refl _ _, isV.self _ _⟩)
    refine owes2_cons (fun wx hox => ?_) ?_
    · focus
        have hg := Lib.hid (HG.out.step hox)
        have hi := Lib.hid (HI.out.step hox)
        have hr := Lib.hid (HR.out.step hox)
        obtain ⟨x24_0, x24_1, x24_2⟩ := GB.c3 hg 2 rfl
        clear hg hi hr
        refine withs_guard rfl rfl ?_
        simp only [withs, List.getElem?_cons_zero, List.getElem?_cons_succ, Option.bind, Option.getD]
        repeat (first | (with_reducible refine all_isV ?_) | (with_reducible refine all_isRD ?_; intro sx Ax kx cx hvx hwx) | (with_reducible refine all_isRN ?_; intro Ax kx cx hvx) | (with_reducible refine all_isWC ?_; intro sx Ax kx cx hvx hwx) | (with_reducible refine all_isRow ?_; intro gx hvx))
        refine ⟨by kernel_rfl, ?_⟩
        go_simp
        (exact ⟨Only.refl _ _, isV.self _ _⟩)
    refine owes2_cons (fun wx hox => ?_) ?_
    · focus
        have hg := Lib.hid (HG.out.step hox)
        have hi := Lib.hid (HI.out.step hox)
        have hr := Lib.hid (HR.out.step hox)
        have rd_rx := (RL.rd (x := rx) hr 1 rfl)
        have rd_ry := (RL.rd (x := ry) hr 0 rfl)
        clear hg hi hr
        refine withs_guard rfl rfl ?_
        simp only [withs, List.getElem?_cons_zero, List.getElem?_cons_succ, Option.bind, Option.getD]
        repeat (first | (with_reducible refine all_isV ?_) | (with_reducible refine all_isRD ?_; intro sx Ax kx cx hvx hwx) | (with_reducible refine all_isRN ?_; intro Ax kx cx hvx) | (with_reducible refine all_isWC ?_; intro sx Ax kx cx hvx hwx) | (with_reducible refine all_isRow ?_; intro gx hvx))
        refine ⟨by kernel_rfl, ?_⟩
        go_simp
        (with_reducible exact grow_rd (rsubB_w vs FF.Hrvs.out rd_rx rd_ry FF.Crx FF.Brx FF.Bry (by omega)))
    refine owes2_cons (fun wx hox => ?_) ?_
    · focus
        refine withs_guard rfl rfl ?_
        simp only [withs, List.getElem?_cons_zero, List.getElem?_cons_succ, Option.bind, Option.getD]
        repeat (first | (with_reducible refine all_isV ?_) | (with_reducible refine all_isRD ?_; intro sx Ax kx cx hvx hwx) | (with_reducible refine all_isRN ?_; intro Ax kx cx hvx) | (with_reducible refine all_isWC ?_; intro sx Ax kx cx hvx hwx) | (with_reducible refine all_isRow ?_; intro gx hvx))
        refine ⟨by kernel_rfl, ?_⟩
        go_simp
        (with_reducible exact grow_of (is2H_w vs FF.Hvs.out (by assumption) (by assumption) (RD.of (by assumption) (by assumption)) FF.Bvs (by omega)))
    iterate 2
      refine owes2_cons (fun wx hox => ?_) ?_
      · focus
          refine withs_plain rfl ?_
          simp only [withs, List.getElem?_cons_zero, List.getElem?_cons_succ, Option.bind, Option.getD]
          repeat (first | (with_reducible refine all_isV ?_) | (with_reducible refine all_isRD ?_; intro sx Ax kx cx hvx hwx) | (with_reducible refine all_isRN ?_; intro Ax kx cx hvx) | (with_reducible refine all_isWC ?_; intro sx Ax kx cx hvx hwx) | (with_reducible refine all_isRow ?_; intro gx hvx))
          go_simp
          (exact ⟨Only.refl _ _, isV.self _ _⟩)
    refine owes2_cons (fun wx hox => ?_) ?_
    · focus
        have hg := Lib.hid (HG.out.step hox)
        have hi := Lib.hid (HI.out.step hox)
        have hr := Lib.hid (HR.out.step hox)
        obtain ⟨x25_0, x25_1⟩ := GB.c2 hg 5 rfl
        clear hg hi hr
        refine withs_guard rfl rfl ?_
        simp only [withs, List.getElem?_cons_zero, List.getElem?_cons_succ, Option.bind, Option.getD]
        repeat (first | (with_reducible refine all_isV ?_) | (with_reducible refine all_isRD ?_; intro sx Ax kx cx hvx hwx) | (with_reducible refine all_isRN ?_; intro Ax kx cx hvx) | (with_reducible refine all_isWC ?_; intro sx Ax kx cx hvx hwx) | (with_reducible refine all_isRow ?_; intro gx hvx))
        refine ⟨by kernel_rfl, ?_⟩
        go_simp
        (exact ⟨Only.refl _ _, isV.self _ _⟩)
    refine owes2_cons (fun wx hox => ?_) ?_
    · focus
        have hg := Lib.hid (HG.out.step hox)
        have hi := Lib.hid (HI.out.step hox)
        have hr := Lib.hid (HR.out.step hox)
        obtain ⟨x26_0, x26_1⟩ := GB.c2 hg 4 rfl
        clear hg hi hr
        refine withs_guard rfl rfl ?_
        simp only [withs, List.getElem?_cons_zero, List.getElem?_cons_succ, Option.bind, Option.getD]
        repeat (first | (with_reducible refine all_isV ?_) | (with_reducible refine all_isRD ?_; intro sx Ax kx cx hvx hwx) | (with_reducible refine all_isRN ?_; intro Ax kx cx hvx) | (with_reducible refine all_isWC ?_; intro sx Ax kx cx hvx hwx) | (with_reducible refine all_isRow ?_; intro gx hvx))
        refine ⟨by kernel_rfl, ?_⟩
        go_simp
        (exact ⟨Only.refl _ _, isV.self _ _⟩)
    refine owes2_cons (fun wx hox => ?_) ?_
    · focus
        refine withs_guard rfl rfl ?_
        simp only [withs, List.getElem?_cons_zero, List.getElem?_cons_succ, Option.bind, Option.getD]
        repeat (first | (with_reducible refine all_isV ?_) | (with_reducible refine all_isRD ?_; intro sx Ax kx cx hvx hwx) | (with_reducible refine all_isRN ?_; intro Ax kx cx hvx) | (with_reducible refine all_isWC ?_; intro sx Ax kx cx hvx hwx) | (with_reducible refine all_isRow ?_; intro gx hvx))
        refine ⟨by kernel_rfl, ?_⟩
        go_simp
        (exact isRow.new _ _ _ _)
    refine owes2_cons (fun wx hox => ?_) ?_
    · focus
        have hg := Lib.hid (HG.out.step hox)
        have hi := Lib.hid (HI.out.step hox)
        have hr := Lib.hid (HR.out.step hox)
        have iv_x := (WL.at (z := x) hi 3 rfl)
        have iv_y := (WL.at (z := y) hi 2 rfl)
        clear hg hi hr
        refine withs_guard rfl rfl ?_
        simp only [withs, List.getElem?_cons_zero, List.getElem?_cons_succ, Option.bind, Option.getD]
        repeat (first | (with_reducible refine all_isV ?_) | (with_reducible refine all_isRD ?_; intro sx Ax kx cx hvx hwx) | (with_reducible refine all_isRN ?_; intro Ax kx cx hvx) | (with_reducible refine all_isWC ?_; intro sx Ax kx cx hvx hwx) | (with_reducible refine all_isRow ?_; intro gx hvx))
        refine ⟨by kernel_rfl, ?_⟩
        go_simp
        (with_reducible exact grow_wcc (mul1C_w zm (by assumption) iv_x iv_y FF.Hzm.out FF.HFm))
    refine owes2_cons (fun wx hox => ?_) ?_
    · focus
        have hg := Lib.hid (HG.out.step hox)
        have hi := Lib.hid (HI.out.step hox)
        have hr := Lib.hid (HR.out.step hox)
        obtain ⟨x27_0, x27_1, x27_2⟩ := GB.c3 hg 3 rfl
        clear hg hi hr
        refine withs_guard rfl rfl ?_
        simp only [withs, List.getElem?_cons_zero, List.getElem?_cons_succ, Option.bind, Option.getD]
        repeat (first | (with_reducible refine all_isV ?_) | (with_reducible refine all_isRD ?_; intro sx Ax kx cx hvx hwx) | (with_reducible refine all_isRN ?_; intro Ax kx cx hvx) | (with_reducible refine all_isWC ?_; intro sx Ax kx cx hvx hwx) | (with_reducible refine all_isRow ?_; intro gx hvx))
        refine ⟨by kernel_rfl, ?_⟩
        go_simp
        (exact ⟨Only.refl _ _, isV.self _ _⟩)
    refine owes2_cons (fun wx hox => ?_) ?_
    · focus
        have hg := Lib.hid (HG.out.step hox)
        have hi := Lib.hid (HI.out.step hox)
        have hr := Lib.hid (HR.out.step hox)
        obtain ⟨x28_0, x28_1, x28_2⟩ := GB.c3 hg 2 rfl
        clear hg hi hr
        refine withs_guard rfl rfl ?_
        simp only [withs, List.getElem?_cons_zero, List.getElem?_cons_succ, Option.bind, Option.getD]
        repeat (first | (with_reducible refine all_isV ?_) | (with_reducible refine all_isRD ?_; intro sx Ax kx cx hvx hwx) | (with_reducible refine all_isRN ?_; intro Ax kx cx hvx) | (with_reducible refine all_isWC ?_; intro sx Ax kx cx hvx hwx) | (with_reducible refine all_isRow ?_; intro gx hvx))
        refine ⟨by kernel_rfl, ?_⟩
        go_simp
        (exact ⟨Only.refl _ _, isV.self _ _⟩)
    refine owes2_cons (fun wx hox => ?_) ?_
    · focus
        have hg := Lib.hid (HG.out.step hox)
        have hi := Lib.hid (HI.out.step hox)
        have hr := Lib.hid (HR.out.step hox)
        have rd_rx := (RL.rd (x := rx) hr 1 rfl)
        have rd_ry := (RL.rd (x := ry) hr 0 rfl)
        clear hg hi hr
        refine withs_guard rfl rfl ?_
        simp only [withs, List.getElem?_cons_zero, List.getElem?_cons_succ, Option.bind, Option.getD]
        repeat (first | (with_reducible refine all_isV ?_) | (with_reducible refine all_isRD ?_; intro sx Ax kx cx hvx hwx) | (with_reducible refine all_isRN ?_; intro Ax kx cx hvx) | (with_reducible refine all_isWC ?_; intro sx Ax kx cx hvx hwx) | (with_reducible refine all_isRow ?_; intro gx hvx))
        refine ⟨by kernel_rfl, ?_⟩
        go_simp
        (with_reducible exact grow_rd (rmulB_w vm FF.Hrvm.out rd_rx rd_ry FF.Brx FF.Bry (by omega)))
    refine owes2_cons (fun wx hox => ?_) ?_
    · focus
        refine withs_guard rfl rfl ?_
        simp only [withs, List.getElem?_cons_zero, List.getElem?_cons_succ, Option.bind, Option.getD]
        repeat (first | (with_reducible refine all_isV ?_) | (with_reducible refine all_isRD ?_; intro sx Ax kx cx hvx hwx) | (with_reducible refine all_isRN ?_; intro Ax kx cx hvx) | (with_reducible refine all_isWC ?_; intro sx Ax kx cx hvx hwx) | (with_reducible refine all_isRow ?_; intro gx hvx))
        refine ⟨by kernel_rfl, ?_⟩
        go_simp
        (with_reducible exact grow_of (is2H_w vm FF.Hvm.out (by assumption) (by assumption) (RD.of (by assumption) (by assumption)) FF.Bvm (by omega)))
    iterate 2
      refine owes2_cons (fun wx hox => ?_) ?_
      · focus
          refine withs_plain rfl ?_
          simp only [withs, List.getElem?_cons_zero, List.getElem?_cons_succ, Option.bind, Option.getD]
          repeat (first | (with_reducible refine all_isV ?_) | (with_reducible refine all_isRD ?_; intro sx Ax kx cx hvx hwx) | (with_reducible refine all_isRN ?_; intro Ax kx cx hvx) | (with_reducible refine all_isWC ?_; intro sx Ax kx cx hvx hwx) | (with_reducible refine all_isRow ?_; intro gx hvx))
          go_simp
          (exact ⟨Only.refl _ _, isV.self _ _⟩)
    refine owes2_cons (fun wx hox => ?_) ?_
    · focus
        have hg := Lib.hid (HG.out.step hox)
        have hi := Lib.hid (HI.out.step hox)
        have hr := Lib.hid (HR.out.step hox)
        obtain ⟨x29_0, x29_1⟩ := GB.c2 hg 5 rfl
        clear hg hi hr
        refine withs_guard rfl rfl ?_
        simp only [withs, List.getElem?_cons_zero, List.getElem?_cons_succ, Option.bind, Option.getD]
        repeat (first | (with_reducible refine all_isV ?_) | (with_reducible refine all_isRD ?_; intro sx Ax kx cx hvx hwx) | (with_reducible refine all_isRN ?_; intro Ax kx cx hvx) | (with_reducible refine all_isWC ?_; intro sx Ax kx cx hvx hwx) | (with_reducible refine all_isRow ?_; intro gx hvx))
        refine ⟨by kernel_rfl, ?_⟩
        go_simp
        (exact ⟨Only.refl _ _, isV.self _ _⟩)
    refine owes2_cons (fun wx hox => ?_) ?_
    · focus
        have hg := Lib.hid (HG.out.step hox)
        have hi := Lib.hid (HI.out.step hox)
        have hr := Lib.hid (HR.out.step hox)
        have iv_x := (WL.at (z := x) hi 3 rfl)
        clear hg hi hr
        refine withs_guard rfl rfl ?_
        simp only [withs, List.getElem?_cons_zero, List.getElem?_cons_succ, Option.bind, Option.getD]
        repeat (first | (with_reducible refine all_isV ?_) | (with_reducible refine all_isRD ?_; intro sx Ax kx cx hvx hwx) | (with_reducible refine all_isRN ?_; intro Ax kx cx hvx) | (with_reducible refine all_isWC ?_; intro sx Ax kx cx hvx hwx) | (with_reducible refine all_isRow ?_; intro gx hvx))
        refine ⟨by kernel_rfl, ?_⟩
        go_simp
        (with_reducible exact grow_wcc (add0C_w iv_x))
    refine owes2_cons (fun wx hox => ?_) ?_
    · focus
        have hg := Lib.hid (HG.out.step hox)
        have hi := Lib.hid (HI.out.step hox)
        have hr := Lib.hid (HR.out.step hox)
        obtain ⟨x30_0, x30_1, x30_2⟩ := GB.c3 hg 3 rfl
        clear hg hi hr
        refine withs_guard rfl rfl ?_
        simp only [withs, List.getElem?_cons_zero, List.getElem?_cons_succ, Option.bind, Option.getD]
        repeat (first | (with_reducible refine all_isV ?_) | (with_reducible refine all_isRD ?_; intro sx Ax kx cx hvx hwx) | (with_reducible refine all_isRN ?_; intro Ax kx cx hvx) | (with_reducible refine all_isWC ?_; intro sx Ax kx cx hvx hwx) | (with_reducible refine all_isRow ?_; intro gx hvx))
        refine ⟨by kernel_rfl, ?_⟩
        go_simp
        (exact ⟨Only.refl _ _, isV.self _ _⟩)
    refine owes2_cons (fun wx hox => ?_) ?_
    · focus
        have hg := Lib.hid (HG.out.step hox)
        have hi := Lib.hid (HI.out.step hox)
        have hr := Lib.hid (HR.out.step hox)
        have rd_rx := (RL.rd (x := rx) hr 1 rfl)
        clear hg hi hr
        refine withs_guard rfl rfl ?_
        simp only [withs, List.getElem?_cons_zero, List.getElem?_cons_succ, Option.bind, Option.getD]
        repeat (first | (with_reducible refine all_isV ?_) | (with_reducible refine all_isRD ?_; intro sx Ax kx cx hvx hwx) | (with_reducible refine all_isRN ?_; intro Ax kx cx hvx) | (with_reducible refine all_isWC ?_; intro sx Ax kx cx hvx hwx) | (with_reducible refine all_isRow ?_; intro gx hvx))
        refine ⟨by kernel_rfl, ?_⟩
        go_simp
        (with_reducible exact grow_of (is2H_w rx FF.Hrx.out (by assumption) (by assumption) rd_rx FF.Brx (by omega)))
    iterate 2
      refine owes2_cons (fun wx hox => ?_) ?_
      · focus
          refine withs_plain rfl ?_
          simp only [withs, List.getElem?_cons_zero, List.getElem?_cons_succ, Option.bind, Option.getD]
          repeat (first | (with_reducible refine all_isV ?_) | (with_reducible refine all_isRD ?_; intro sx Ax kx cx hvx hwx) | (with_reducible refine all_isRN ?_; intro Ax kx cx hvx) | (with_reducible refine all_isWC ?_; intro sx Ax kx cx hvx hwx) | (with_reducible refine all_isRow ?_; intro gx hvx))
          go_simp
          (exact ⟨Only.refl _ _, isV.self _ _⟩)
    refine owes2_cons (fun wx hox => ?_) ?_
    · focus
        have hg := Lib.hid (HG.out.step hox)
        have hi := Lib.hid (HI.out.step hox)
        have hr := Lib.hid (HR.out.step hox)
        obtain ⟨x31_0, x31_1⟩ := GB.c2 hg 5 rfl
        clear hg hi hr
        refine withs_guard rfl rfl ?_
        simp only [withs, List.getElem?_cons_zero, List.getElem?_cons_succ, Option.bind, Option.getD]
        repeat (first | (with_reducible refine all_isV ?_) | (with_reducible refine all_isRD ?_; intro sx Ax kx cx hvx hwx) | (with_reducible refine all_isRN ?_; intro Ax kx cx hvx) | (with_reducible refine all_isWC ?_; intro sx Ax kx cx hvx hwx) | (with_reducible refine all_isRow ?_; intro gx hvx))
        refine ⟨by kernel_rfl, ?_⟩
        go_simp
        (exact ⟨Only.refl _ _, isV.self _ _⟩)
    refine owes2_cons (fun wx hox => ?_) ?_
    · focus
        have hg := Lib.hid (HG.out.step hox)
        have hi := Lib.hid (HI.out.step hox)
        have hr := Lib.hid (HR.out.step hox)
        obtain ⟨x32_0, x32_1⟩ := GB.c2 hg 4 rfl
        clear hg hi hr
        refine withs_guard rfl rfl ?_
        simp only [withs, List.getElem?_cons_zero, List.getElem?_cons_succ, Option.bind, Option.getD]
        repeat (first | (with_reducible refine all_isV ?_) | (with_reducible refine all_isRD ?_; intro sx Ax kx cx hvx hwx) | (with_reducible refine all_isRN ?_; intro Ax kx cx hvx) | (with_reducible refine all_isWC ?_; intro sx Ax kx cx hvx hwx) | (with_reducible refine all_isRow ?_; intro gx hvx))
        refine ⟨by kernel_rfl, ?_⟩
        go_simp
        (exact ⟨Only.refl _ _, isV.self _ _⟩)
    refine owes2_cons (fun wx hox => ?_) ?_
    · focus
        have hg := Lib.hid (HG.out.step hox)
        have hi := Lib.hid (HI.out.step hox)
        have hr := Lib.hid (HR.out.step hox)
        obtain ⟨x33_0, x33_1⟩ := GB.c2 hg 4 rfl
        clear hg hi hr
        refine withs_guard rfl rfl ?_
        simp only [withs, List.getElem?_cons_zero, List.getElem?_cons_succ, Option.bind, Option.getD]
        repeat (first | (with_reducible refine all_isV ?_) | (with_reducible refine all_isRD ?_; intro sx Ax kx cx hvx hwx) | (with_reducible refine all_isRN ?_; intro Ax kx cx hvx) | (with_reducible refine all_isWC ?_; intro sx Ax kx cx hvx hwx) | (with_reducible refine all_isRow ?_; intro gx hvx))
        refine ⟨by kernel_rfl, ?_⟩
        go_simp
        (exact ⟨Only.refl _ _, isV.self _ _⟩)
    refine owes2_cons (fun wx hox => ?_) ?_
    · focus
        refine withs_guard rfl rfl ?_
        simp only [withs, List.getElem?_cons_zero, List.getElem?_cons_succ, Option.bind, Option.getD]
        repeat (first | (with_reducible refine all_isV ?_) | (with_reducible refine all_isRD ?_; intro sx Ax kx cx hvx hwx) | (with_reducible refine all_isRN ?_; intro Ax kx cx hvx) | (with_reducible refine all_isWC ?_; intro sx Ax kx cx hvx hwx) | (with_reducible refine all_isRow ?_; intro gx hvx))
        refine ⟨by kernel_rfl, ?_⟩
        go_simp
        (exact isRow.new _ _ _ _)
    refine owes2_cons (fun wx hox => ?_) ?_
    · focus
        have hg := Lib.hid (HG.out.step hox)
        have hi := Lib.hid (HI.out.step hox)
        have hr := Lib.hid (HR.out.step hox)
        have iv_x := (WL.at (z := x) hi 3 rfl)
        have iv_y := (WL.at (z := y) hi 2 rfl)
        clear hg hi hr
        refine withs_guard rfl rfl ?_
        simp only [withs, List.getElem?_cons_zero, List.getElem?_cons_succ, Option.bind, Option.getD]
        repeat (first | (with_reducible refine all_isV ?_) | (with_reducible refine all_isRD ?_; intro sx Ax kx cx hvx hwx) | (with_reducible refine all_isRN ?_; intro Ax kx cx hvx) | (with_reducible refine all_isWC ?_; intro sx Ax kx cx hvx hwx) | (with_reducible refine all_isRow ?_; intro gx hvx))
        refine ⟨by kernel_rfl, ?_⟩
        go_simp
        (with_reducible exact grow_wcc (mul2C_w zm zmm (by assumption) iv_x iv_y iv_y FF.Hzm.out FF.Hzmm.out FF.HFm FF.HFmm))
    refine owes2_cons (fun wx hox => ?_) ?_
    · focus
        have hg := Lib.hid (HG.out.step hox)
        have hi := Lib.hid (HI.out.step hox)
        have hr := Lib.hid (HR.out.step hox)
        obtain ⟨x34_0, x34_1, x34_2⟩ := GB.c3 hg 3 rfl
        clear hg hi hr
        refine withs_guard rfl rfl ?_
        simp only [withs, List.getElem?_cons_zero, List.getElem?_cons_succ, Option.bind, Option.getD]
        repeat (first | (with_reducible refine all_isV ?_) | (with_reducible refine all_isRD ?_; intro sx Ax kx cx hvx hwx) | (with_reducible refine all_isRN ?_; intro Ax kx cx hvx) | (with_reducible refine all_isWC ?_; intro sx Ax kx cx hvx hwx) | (with_reducible refine all_isRow ?_; intro gx hvx))
        refine ⟨by kernel_rfl, ?_⟩
        go_simp
        (exact ⟨Only.refl _ _, isV.self _ _⟩)
    refine owes2_cons (fun wx hox => ?_) ?_
    · focus
        have hg := Lib.hid (HG.out.step hox)
        have hi := Lib.hid (HI.out.step hox)
        have hr := Lib.hid (HR.out.step hox)
        obtain ⟨x35_0, x35_1, x35_2⟩ := GB.c3 hg 2 rfl
        clear hg hi hr
        refine withs_guard rfl rfl ?_
        simp only [withs, List.getElem?_cons_zero, List.getElem?_cons_succ, Option.bind, Option.getD]
        repeat (first | (with_reducible refine all_isV ?_) | (with_reducible refine all_isRD ?_; intro sx Ax kx cx hvx hwx) | (with_reducible refine all_isRN ?_; intro Ax kx cx hvx) | (with_reducible refine all_isWC ?_; intro sx Ax kx cx hvx hwx) | (with_reducible refine all_isRow ?_; intro gx hvx))
        refine ⟨by kernel_rfl, ?_⟩
        go_simp
        (exact ⟨Only.refl _ _, isV.self _ _⟩)
    refine owes2_cons (fun wx hox => ?_) ?_
    · focus
        have hg := Lib.hid (HG.out.step hox)
        have hi := Lib.hid (HI.out.step hox)
        have hr := Lib.hid (HR.out.step hox)
        have rd_rx := (RL.rd (x := rx) hr 1 rfl)
        have rd_ry := (RL.rd (x := ry) hr 0 rfl)
        clear hg hi hr
        refine withs_guard rfl rfl ?_
        simp only [withs, List.getElem?_cons_zero, List.getElem?_cons_succ, Option.bind, Option.getD]
        repeat (first | (with_reducible refine all_isV ?_) | (with_reducible refine all_isRD ?_; intro sx Ax kx cx hvx hwx) | (with_reducible refine all_isRN ?_; intro Ax kx cx hvx) | (with_reducible refine all_isWC ?_; intro sx Ax kx cx hvx hwx) | (with_reducible refine all_isRow ?_; intro gx hvx))
        refine ⟨by kernel_rfl, ?_⟩
        go_simp
        (with_reducible exact grow_rd (rmulB_w vm FF.Hrvm.out rd_rx rd_ry FF.Brx FF.Bry (by omega)))
    refine owes2_cons (fun wx hox => ?_) ?_
    · focus
        have hg := Lib.hid (HG.out.step hox)
        have hi := Lib.hid (HI.out.step hox)
        have hr := Lib.hid (HR.out.step hox)
        obtain ⟨x36_0, x36_1, x36_2⟩ := GB.c3 hg 2 rfl
        clear hg hi hr
        refine withs_guard rfl rfl ?_
        simp only [withs, List.getElem?_cons_zero, List.getElem?_cons_succ, Option.bind, Option.getD]
        repeat (first | (with_reducible refine all_isV ?_) | (with_reducible refine all_isRD ?_; intro sx Ax kx cx hvx hwx) | (with_reducible refine all_isRN ?_; intro Ax kx cx hvx) | (with_reducible refine all_isWC ?_; intro sx Ax kx cx hvx hwx) | (with_reducible refine all_isRow ?_; intro gx hvx))
        refine ⟨by kernel_rfl, ?_⟩
        go_simp
        (exact ⟨Only.refl _ _, isV.self _ _⟩)
    refine owes2_cons (fun wx hox => ?_) ?_
    · focus
        have hg := Lib.hid (HG.out.step hox)
        have hi := Lib.hid (HI.out.step hox)
        have hr := Lib.hid (HR.out.step hox)
        have rd_ry := (RL.rd (x := ry) hr 0 rfl)
        clear hg hi hr
        refine withs_guard rfl rfl ?_
        simp only [withs, List.getElem?_cons_zero, List.getElem?_cons_succ, Option.bind, Option.getD]
        repeat (first | (with_reducible refine all_isV ?_) | (with_reducible refine all_isRD ?_; intro sx Ax kx cx hvx hwx) | (with_reducible refine all_isRN ?_; intro Ax kx cx hvx) | (with_reducible refine all_isWC ?_; intro sx Ax kx cx hvx hwx) | (with_reducible refine all_isRow ?_; intro gx hvx))
        refine ⟨by kernel_rfl, ?_⟩
        go_simp
        (with_reducible exact grow_rd (rmulB_w vmm FF.Hrvmm.out (RD.of (by assumption) (by assumption)) rd_ry FF.Bvm FF.Bry (by omega)))
    refine owes2_cons (fun wx hox => ?_) ?_
    · focus
        refine withs_guard rfl rfl ?_
        simp only [withs, List.getElem?_cons_zero, List.getElem?_cons_succ, Option.bind, Option.getD]
        repeat (first | (with_reducible refine all_isV ?_) | (with_reducible refine all_isRD ?_; intro sx Ax kx cx hvx hwx) | (with_reducible refine all_isRN ?_; intro Ax kx cx hvx) | (with_reducible refine all_isWC ?_; intro sx Ax kx cx hvx hwx) | (with_reducible refine all_isRow ?_; intro gx hvx))
        refine ⟨by kernel_rfl, ?_⟩
        go_simp
        (with_reducible exact grow_of (is2H_w vmm FF.Hvmm.out (by assumption) (by assumption) (RD.of (by assumption) (by assumption)) FF.Bvmm (by omega)))
    iterate 2
      refine owes2_cons (fun wx hox => ?_) ?_
      · focus
          refine withs_plain rfl ?_
          simp only [withs, List.getElem?_cons_zero, List.getElem?_cons_succ, Option.bind, Option.getD]
          repeat (first | (with_reducible refine all_isV ?_) | (with_reducible refine all_isRD ?_; intro sx Ax kx cx hvx hwx) | (with_reducible refine all_isRN ?_; intro Ax kx cx hvx) | (with_reducible refine all_isWC ?_; intro sx Ax kx cx hvx hwx) | (with_reducible refine all_isRow ?_; intro gx hvx))
          go_simp
          (exact ⟨Only.refl _ _, isV.self _ _⟩)
    refine owes2_cons (fun wx hox => ?_) ?_
    · focus
        have hg := Lib.hid (HG.out.step hox)
        have hi := Lib.hid (HI.out.step hox)
        have hr := Lib.hid (HR.out.step hox)
        obtain ⟨x37_0, x37_1⟩ := GB.c2 hg 5 rfl
        clear hg hi hr
        refine withs_guard rfl rfl ?_
        simp only [withs, List.getElem?_cons_zero, List.getElem?_cons_succ, Option.bind, Option.getD]
        repeat (first | (with_reducible refine all_isV ?_) | (with_reducible refine all_isRD ?_; intro sx Ax kx cx hvx hwx) | (with_reducible refine all_isRN ?_; intro Ax kx cx hvx) | (with_reducible refine all_isWC ?_; intro sx Ax kx cx hvx hwx) | (with_reducible refine all_isRow ?_; intro gx hvx))
        refine ⟨by kernel_rfl, ?_⟩
        go_simp
        (exact ⟨Only.refl _ _, isV.self _ _⟩)
    refine owes2_cons (fun wx hox => ?_) ?_
    · focus
        have hg := Lib.hid (HG.out.step hox)
        have hi := Lib.hid (HI.out.step hox)
        have hr := Lib.hid (HR.out.step hox)
        obtain ⟨x38_0, x38_1⟩ := GB.c2 hg 4 rfl
        clear hg hi hr
        refine withs_guard rfl rfl ?_
        simp only [withs, List.getElem?_cons_zero, List.getElem?_cons_succ, Option.bind, Option.getD]
        repeat (first | (with_reducible refine all_isV ?_) | (with_reducible refine all_isRD ?_; intro sx Ax kx cx hvx hwx) | (with_reducible refine all_isRN ?_; intro Ax kx cx hvx) | (with_reducible refine all_isWC ?_; intro sx Ax kx cx hvx hwx) | (with_reducible refine all_isRow ?_; intro gx hvx))
        refine ⟨by kernel_rfl, ?_⟩
        go_simp
        (exact ⟨Only.refl _ _, isV.self _ _⟩)
    refine owes2_cons (fun wx hox => ?_) ?_
    · focus
        have hg := Lib.hid (HG.out.step hox)
        have hi := Lib.hid (HI.out.step hox)
        have hr := Lib.hid (HR.out.step hox)
        obtain ⟨x39_0, x39_1⟩ := GB.c2 hg 5 rfl
        clear hg hi hr
        refine withs_guard rfl rfl ?_
        simp only [withs, List.getElem?_cons_zero, List.getElem?_cons_succ, Option.bind, Option.getD]
        repeat (first | (with_reducible refine all_isV ?_) | (with_reducible refine all_isRD ?_; intro sx Ax kx cx hvx hwx) | (with_reducible refine all_isRN ?_; intro Ax kx cx hvx) | (with_reducible refine all_isWC ?_; intro sx Ax kx cx hvx hwx) | (with_reducible refine all_isRow ?_; intro gx hvx))
        refine ⟨by kernel_rfl, ?_⟩
        go_simp
        (exact ⟨Only.refl _ _, isV.self _ _⟩)
    refine owes2_cons (fun wx hox => ?_) ?_
    · focus
        refine withs_guard rfl rfl ?_
        simp only [withs, List.getElem?_cons_zero, List.getElem?_cons_succ, Option.bind, Option.getD]
        repeat (first | (with_reducible refine all_isV ?_) | (with_reducible refine all_isRD ?_; intro sx Ax kx cx hvx hwx) | (with_reducible refine all_isRN ?_; intro Ax kx cx hvx) | (with_reducible refine all_isWC ?_; intro sx Ax kx cx hvx hwx) | (with_reducible refine all_isRow ?_; intro gx hvx))
        refine ⟨by kernel_rfl, ?_⟩
        go_simp
        (exact isRow.new _ _ _ _)
    refine owes2_cons (fun wx hox => ?_) ?_
    · focus
        have hg := Lib.hid (HG.out.step hox)
        have hi := Lib.hid (HI.out.step hox)
        have hr := Lib.hid (HR.out.step hox)
        have iv_x := (WL.at (z := x) hi 3 rfl)
        have iv_y := (WL.at (z := y) hi 2 rfl)
        clear hg hi hr
        refine withs_guard rfl rfl ?_
        simp only [withs, List.getElem?_cons_zero, List.getElem?_cons_succ, Option.bind, Option.getD]
        repeat (first | (with_reducible refine all_isV ?_) | (with_reducible refine all_isRD ?_; intro sx Ax kx cx hvx hwx) | (with_reducible refine all_isRN ?_; intro Ax kx cx hvx) | (with_reducible refine all_isWC ?_; intro sx Ax kx cx hvx hwx) | (with_reducible refine all_isRow ?_; intro gx hvx))
        refine ⟨by kernel_rfl, ?_⟩
        go_simp
        (with_reducible exact grow_wcc (add2C_w za zaa (by assumption) iv_x iv_y iv_x FF.Hza.out FF.Hzaa.out FF.HFa FF.HFaa))
    refine owes2_cons (fun wx hox => ?_) ?_
    · focus
        have hg := Lib.hid (HG.out.step hox)
        have hi := Lib.hid (HI.out.step hox)
        have hr := Lib.hid (HR.out.step hox)
        obtain ⟨x40_0, x40_1, x40_2⟩ := GB.c3 hg 3 rfl
        clear hg hi hr
        refine withs_guard rfl rfl ?_
        simp only [withs, List.getElem?_cons_zero, List.getElem?_cons_succ, Option.bind, Option.getD]
        repeat (first | (with_reducible refine all_isV ?_) | (with_reducible refine all_isRD ?_; intro sx Ax kx cx hvx hwx) | (with_reducible refine all_isRN ?_; intro Ax kx cx hvx) | (with_reducible refine all_isWC ?_; intro sx Ax kx cx hvx hwx) | (with_reducible refine all_isRow ?_; intro gx hvx))
        refine ⟨by kernel_rfl, ?_⟩
        go_simp
        (exact ⟨Only.refl _ _, isV.self _ _⟩)
    refine owes2_cons (fun wx hox => ?_) ?_
    · focus
        have hg := Lib.hid (HG.out.step hox)
        have hi := Lib.hid (HI.out.step hox)
        have hr := Lib.hid (HR.out.step hox)
        obtain ⟨x41_0, x41_1, x41_2⟩ := GB.c3 hg 2 rfl
        clear hg hi hr
        refine withs_guard rfl rfl ?_
        simp only [withs, List.getElem?_cons_zero, List.getElem?_cons_succ, Option.bind, Option.getD]
        repeat (first | (with_reducible refine all_isV ?_) | (with_reducible refine all_isRD ?_; intro sx Ax kx cx hvx hwx) | (with_reducible refine all_isRN ?_; intro Ax kx cx hvx) | (with_reducible refine all_isWC ?_; intro sx Ax kx cx hvx hwx) | (with_reducible refine all_isRow ?_; intro gx hvx))
        refine ⟨by kernel_rfl, ?_⟩
        go_simp
        (exact ⟨Only.refl _ _, isV.self _ _⟩)
    refine owes2_cons (fun wx hox => ?_) ?_
    · focus
        have hg := Lib.hid (HG.out.step hox)
        have hi := Lib.hid (HI.out.step hox)
        have hr := Lib.hid (HR.out.step hox)
        have rd_rx := (RL.rd (x := rx) hr 1 rfl)
        have rd_ry := (RL.rd (x := ry) hr 0 rfl)
        clear hg hi hr
        refine withs_guard rfl rfl ?_
        simp only [withs, List.getElem?_cons_zero, List.getElem?_cons_succ, Option.bind, Option.getD]
        repeat (first | (with_reducible refine all_isV ?_) | (with_reducible refine all_isRD ?_; intro sx Ax kx cx hvx hwx) | (with_reducible refine all_isRN ?_; intro Ax kx cx hvx) | (with_reducible refine all_isWC ?_; intro sx Ax kx cx hvx hwx) | (with_reducible refine all_isRow ?_; intro gx hvx))
        refine ⟨by kernel_rfl, ?_⟩
        go_simp
        (with_reducible exact grow_rd (raddB_w va FF.Hrva.out rd_rx rd_ry FF.Crx FF.Cry FF.Brx FF.Bry (by omega)))
    refine owes2_cons (fun wx hox => ?_) ?_
    · focus
        have hg := Lib.hid (HG.out.step hox)
        have hi := Lib.hid (HI.out.step hox)
        have hr := Lib.hid (HR.out.step hox)
        obtain ⟨x42_0, x42_1, x42_2⟩ := GB.c3 hg 3 rfl
        clear hg hi hr
        refine withs_guard rfl rfl ?_
        simp only [withs, List.getElem?_cons_zero, List.getElem?_cons_succ, Option.bind, Option.getD]
        repeat (first | (with_reducible refine all_isV ?_) | (with_reducible refine all_isRD ?_; intro sx Ax kx cx hvx hwx) | (with_reducible refine all_isRN ?_; intro Ax kx cx hvx) | (with_reducible refine all_isWC ?_; intro sx Ax kx cx hvx hwx) | (with_reducible refine all_isRow ?_; intro gx hvx))
        refine ⟨by kernel_rfl, ?_⟩
        go_simp
        (exact ⟨Only.refl _ _, isV.self _ _⟩)
    refine owes2_cons (fun wx hox => ?_) ?_
    · focus
        have hg := Lib.hid (HG.out.step hox)
        have hi := Lib.hid (HI.out.step hox)
        have hr := Lib.hid (HR.out.step hox)
        have rd_rx := (RL.rd (x := rx) hr 1 rfl)
        clear hg hi hr
        refine withs_guard rfl rfl ?_
        simp only [withs, List.getElem?_cons_zero, List.getElem?_cons_succ, Option.bind, Option.getD]
        repeat (first | (with_reducible refine all_isV ?_) | (with_reducible refine all_isRD ?_; intro sx Ax kx cx hvx hwx) | (with_reducible refine all_isRN ?_; intro Ax kx cx hvx) | (with_reducible refine all_isWC ?_; intro sx Ax kx cx hvx hwx) | (with_reducible refine all_isRow ?_; intro gx hvx))
        refine ⟨by kernel_rfl, ?_⟩
        go_simp
        (with_reducible exact grow_rd (raddB_w vaa FF.Hrvaa.out (RD.of (by assumption) (by assumption)) rd_rx FF.Cva FF.Crx FF.Bva FF.Brx (by omega)))
    refine owes2_cons (fun wx hox => ?_) ?_
    · focus
        refine withs_guard rfl rfl ?_
        simp only [withs, List.getElem?_cons_zero, List.getElem?_cons_succ, Option.bind, Option.getD]
        repeat (first | (with_reducible refine all_isV ?_) | (with_reducible refine all_isRD ?_; intro sx Ax kx cx hvx hwx) | (with_reducible refine all_isRN ?_; intro Ax kx cx hvx) | (with_reducible refine all_isWC ?_; intro sx Ax kx cx hvx hwx) | (with_reducible refine all_isRow ?_; intro gx hvx))
        refine ⟨by kernel_rfl, ?_⟩
        go_simp
        (with_reducible exact grow_of (is2H_w vaa FF.Hvaa.out (by assumption) (by assumption) (RD.of (by assumption) (by assumption)) FF.Bvaa (by omega)))
    iterate 2
      refine owes2_cons (fun wx hox => ?_) ?_
      · focus
          refine withs_plain rfl ?_
          simp only [withs, List.getElem?_cons_zero, List.getElem?_cons_succ, Option.bind, Option.getD]
          repeat (first | (with_reducible refine all_isV ?_) | (with_reducible refine all_isRD ?_; intro sx Ax kx cx hvx hwx) | (with_reducible refine all_isRN ?_; intro Ax kx cx hvx) | (with_reducible refine all_isWC ?_; intro sx Ax kx cx hvx hwx) | (with_reducible refine all_isRow ?_; intro gx hvx))
          go_simp
          (exact ⟨Only.refl _ _, isV.self _ _⟩)
    refine owes2_cons (fun wx hox => ?_) ?_
    · focus
        have hg := Lib.hid (HG.out.step hox)
        have hi := Lib.hid (HI.out.step hox)
        have hr := Lib.hid (HR.out.step hox)
        obtain ⟨x43_0, x43_1⟩ := GB.c2 hg 5 rfl
        clear hg hi hr
        refine withs_guard rfl rfl ?_
        simp only [withs, List.getElem?_cons_zero, List.getElem?_cons_succ, Option.bind, Option.getD]
        repeat (first | (with_reducible refine all_isV ?_) | (with_reducible refine all_isRD ?_; intro sx Ax kx cx hvx hwx) | (with_reducible refine all_isRN ?_; intro Ax kx cx hvx) | (with_reducible refine all_isWC ?_; intro sx Ax kx cx hvx hwx) | (with_reducible refine all_isRow ?_; intro gx hvx))
        refine ⟨by kernel_rfl, ?_⟩
        go_simp
        (exact ⟨Only.refl _ _, isV.self _ _⟩)
    refine owes2_cons (fun wx hox => ?_) ?_
    · focus
        have hg := Lib.hid (HG.out.step hox)
        have hi := Lib.hid (HI.out.step hox)
        have hr := Lib.hid (HR.out.step hox)
        have iv_x := (WL.at (z := x) hi 3 rfl)
        clear hg hi hr
        refine withs_guard rfl rfl ?_
        simp only [withs, List.getElem?_cons_zero, List.getElem?_cons_succ, Option.bind, Option.getD]
        repeat (first | (with_reducible refine all_isV ?_) | (with_reducible refine all_isRD ?_; intro sx Ax kx cx hvx hwx) | (with_reducible refine all_isRN ?_; intro Ax kx cx hvx) | (with_reducible refine all_isWC ?_; intro sx Ax kx cx hvx hwx) | (with_reducible refine all_isRow ?_; intro gx hvx))
        refine ⟨by kernel_rfl, ?_⟩
        go_simp
        (with_reducible exact grow_of (textH_w ST iv_x (Lib.hid (FF.htab.out.only (HO6.out.nil_trans (HG.out.step hox).only))) FF.HDl.out FF.HST.out))
    iterate 2
      refine owes2_cons (fun wx hox => ?_) ?_
      · focus
          refine withs_guard rfl rfl ?_
          simp only [withs, List.getElem?_cons_zero, List.getElem?_cons_succ, Option.bind, Option.getD]
          repeat (first | (with_reducible refine all_isV ?_) | (with_reducible refine all_isRD ?_; intro sx Ax kx cx hvx hwx) | (with_reducible refine all_isRN ?_; intro Ax kx cx hvx) | (with_reducible refine all_isWC ?_; intro sx Ax kx cx hvx hwx) | (with_reducible refine all_isRow ?_; intro gx hvx))
          refine ⟨by kernel_rfl, ?_⟩
          go_simp
          (exact ⟨Only.refl _ _, isV.self _ _⟩)
    refine owes2_cons (fun wx hox => ?_) ?_
    · focus
        refine withs_guard rfl rfl ?_
        simp only [withs, List.getElem?_cons_zero, List.getElem?_cons_succ, Option.bind, Option.getD]
        repeat (first | (with_reducible refine all_isV ?_) | (with_reducible refine all_isRD ?_; intro sx Ax kx cx hvx hwx) | (with_reducible refine all_isRN ?_; intro Ax kx cx hvx) | (with_reducible refine all_isWC ?_; intro sx Ax kx cx hvx hwx) | (with_reducible refine all_isRow ?_; intro gx hvx))
        refine ⟨by kernel_rfl, ?_⟩
        go_simp
        (with_reducible exact grow_rn (from_v (Lib.hid (FF.HA0.out.only (HO6.out.nil_trans (HG.out.step hox).only)))))
    refine owes2_cons (fun wx hox => ?_) ?_
    · focus
        refine withs_guard rfl rfl ?_
        simp only [withs, List.getElem?_cons_zero, List.getElem?_cons_succ, Option.bind, Option.getD]
        repeat (first | (with_reducible refine all_isV ?_) | (with_reducible refine all_isRD ?_; intro sx Ax kx cx hvx hwx) | (with_reducible refine all_isRN ?_; intro Ax kx cx hvx) | (with_reducible refine all_isWC ?_; intro sx Ax kx cx hvx hwx) | (with_reducible refine all_isRow ?_; intro gx hvx))
        refine ⟨by kernel_rfl, ?_⟩
        go_simp
        (with_reducible exact grow_of (rtextH_v DG (by assumption) FF.HFN FF.HDN FF.HDG.out))
    refine owes2_cons (fun wx hox => ?_) ?_
    · focus
        refine withs_guard rfl rfl ?_
        simp only [withs, List.getElem?_cons_zero, List.getElem?_cons_succ, Option.bind, Option.getD]
        repeat (first | (with_reducible refine all_isV ?_) | (with_reducible refine all_isRD ?_; intro sx Ax kx cx hvx hwx) | (with_reducible refine all_isRN ?_; intro Ax kx cx hvx) | (with_reducible refine all_isWC ?_; intro sx Ax kx cx hvx hwx) | (with_reducible refine all_isRow ?_; intro gx hvx))
        refine ⟨by kernel_rfl, ?_⟩
        go_simp
        ((rw [if_neg (cat_small FF.HSG.out FF.HDN.out FF.HDG.out), FF.HCat.out]; exact ⟨Only.refl _ _, isV.self _ _⟩))
    refine owes2_cons (fun wx hox => ?_) ?_
    · focus
        refine withs_guard rfl rfl ?_
        simp only [withs, List.getElem?_cons_zero, List.getElem?_cons_succ, Option.bind, Option.getD]
        repeat (first | (with_reducible refine all_isV ?_) | (with_reducible refine all_isRD ?_; intro sx Ax kx cx hvx hwx) | (with_reducible refine all_isRN ?_; intro Ax kx cx hvx) | (with_reducible refine all_isWC ?_; intro sx Ax kx cx hvx hwx) | (with_reducible refine all_isRow ?_; intro gx hvx))
        refine ⟨by kernel_rfl, ?_⟩
        go_simp
        (exact ⟨Only.refl _ _, isV.self _ _⟩)
    iterate 2
      refine owes2_cons (fun wx hox => ?_) ?_
      · focus
          refine withs_plain rfl ?_
          simp only [withs, List.getElem?_cons_zero, List.getElem?_cons_succ, Option.bind, Option.getD]
          repeat (first | (with_reducible refine all_isV ?_) | (with_reducible refine all_isRD ?_; intro sx Ax kx cx hvx hwx) | (with_reducible refine all_isRN ?_; intro Ax kx cx hvx) | (with_reducible refine all_isWC ?_; intro sx Ax kx cx hvx hwx) | (with_reducible refine all_isRow ?_; intro gx hvx))
          go_simp
          (exact ⟨Only.refl _ _, isV.self _ _⟩)
    iterate 2
      refine owes2_cons (fun wx hox => ?_) ?_
      · focus
          refine withs_guard rfl rfl ?_
          simp only [withs, List.getElem?_cons_zero, List.getElem?_cons_succ, Option.bind, Option.getD]
          repeat (first | (with_reducible refine all_isV ?_) | (with_reducible refine all_isRD ?_; intro sx Ax kx cx hvx hwx) | (with_reducible refine all_isRN ?_; intro Ax kx cx hvx) | (with_reducible refine all_isWC ?_; intro sx Ax kx cx hvx hwx) | (with_reducible refine all_isRow ?_; intro gx hvx))
          refine ⟨by kernel_rfl, ?_⟩
          go_simp
          (exact ⟨Only.refl _ _, isV.self _ _⟩)
    refine owes2_cons (fun wx hox => ?_) ?_
    · focus
        have hg := Lib.hid (HG.out.step hox)
        have hi := Lib.hid (HI.out.step hox)
        have hr := Lib.hid (HR.out.step hox)
        have iv_x := (WL.at (z := x) hi 3 rfl)
        clear hg hi hr
        refine withs_guard rfl rfl ?_
        simp only [withs, List.getElem?_cons_zero, List.getElem?_cons_succ, Option.bind, Option.getD]
        repeat (first | (with_reducible refine all_isV ?_) | (with_reducible refine all_isRD ?_; intro sx Ax kx cx hvx hwx) | (with_reducible refine all_isRN ?_; intro Ax kx cx hvx) | (with_reducible refine all_isWC ?_; intro sx Ax kx cx hvx hwx) | (with_reducible refine all_isRow ?_; intro gx hvx))
        refine ⟨by kernel_rfl, ?_⟩
        go_simp
        (with_reducible exact grow_wcc (makeC_w n1 (Lib.hid iv_x.out.mag) iv_x.out.sign))
    refine owes2_cons (fun wx hox => ?_) ?_
    · focus
        have hg := Lib.hid (HG.out.step hox)
        have hi := Lib.hid (HI.out.step hox)
        have hr := Lib.hid (HR.out.step hox)
        obtain ⟨x44_0, x44_1, x44_2⟩ := GB.c3 hg 3 rfl
        clear hg hi hr
        refine withs_guard rfl rfl ?_
        simp only [withs, List.getElem?_cons_zero, List.getElem?_cons_succ, Option.bind, Option.getD]
        repeat (first | (with_reducible refine all_isV ?_) | (with_reducible refine all_isRD ?_; intro sx Ax kx cx hvx hwx) | (with_reducible refine all_isRN ?_; intro Ax kx cx hvx) | (with_reducible refine all_isWC ?_; intro sx Ax kx cx hvx hwx) | (with_reducible refine all_isRow ?_; intro gx hvx))
        refine ⟨by kernel_rfl, ?_⟩
        go_simp
        (exact ⟨Only.refl _ _, isV.self _ _⟩)
    refine owes2_cons (fun wx hox => ?_) ?_
    · focus
        have hg := Lib.hid (HG.out.step hox)
        have hi := Lib.hid (HI.out.step hox)
        have hr := Lib.hid (HR.out.step hox)
        have rd_rx := (RL.rd (x := rx) hr 1 rfl)
        clear hg hi hr
        refine withs_guard rfl rfl ?_
        simp only [withs, List.getElem?_cons_zero, List.getElem?_cons_succ, Option.bind, Option.getD]
        repeat (first | (with_reducible refine all_isV ?_) | (with_reducible refine all_isRD ?_; intro sx Ax kx cx hvx hwx) | (with_reducible refine all_isRN ?_; intro Ax kx cx hvx) | (with_reducible refine all_isWC ?_; intro sx Ax kx cx hvx hwx) | (with_reducible refine all_isRow ?_; intro gx hvx))
        refine ⟨by kernel_rfl, ?_⟩
        go_simp
        (with_reducible exact grow_of (is2H_w rx FF.Hrx.out (by assumption) (by assumption) rd_rx FF.Brx (by omega)))
    iterate 2
      refine owes2_cons (fun wx hox => ?_) ?_
      · focus
          refine withs_plain rfl ?_
          simp only [withs, List.getElem?_cons_zero, List.getElem?_cons_succ, Option.bind, Option.getD]
          repeat (first | (with_reducible refine all_isV ?_) | (with_reducible refine all_isRD ?_; intro sx Ax kx cx hvx hwx) | (with_reducible refine all_isRN ?_; intro Ax kx cx hvx) | (with_reducible refine all_isWC ?_; intro sx Ax kx cx hvx hwx) | (with_reducible refine all_isRow ?_; intro gx hvx))
          go_simp
          (exact ⟨Only.refl _ _, isV.self _ _⟩)
    refine owes2_cons (fun wx hox => ?_) ?_
    · focus
        refine withs_guard rfl rfl ?_
        simp only [withs, List.getElem?_cons_zero, List.getElem?_cons_succ, Option.bind, Option.getD]
        repeat (first | (with_reducible refine all_isV ?_) | (with_reducible refine all_isRD ?_; intro sx Ax kx cx hvx hwx) | (with_reducible refine all_isRN ?_; intro Ax kx cx hvx) | (with_reducible refine all_isWC ?_; intro sx Ax kx cx hvx hwx) | (with_reducible refine all_isRow ?_; intro gx hvx))
        refine ⟨by kernel_rfl, ?_⟩
        go_simp
        (exact ⟨Only.refl _ _, isV.self _ _⟩)
    refine owes2_cons (fun wx hox => ?_) ?_
    · focus
        refine withs_guard rfl rfl ?_
        simp only [withs, List.getElem?_cons_zero, List.getElem?_cons_succ, Option.bind, Option.getD]
        repeat (first | (with_reducible refine all_isV ?_) | (with_reducible refine all_isRD ?_; intro sx Ax kx cx hvx hwx) | (with_reducible refine all_isRN ?_; intro Ax kx cx hvx) | (with_reducible refine all_isWC ?_; intro sx Ax kx cx hvx hwx) | (with_reducible refine all_isRow ?_; intro gx hvx))
        refine ⟨by kernel_rfl, ?_⟩
        go_simp
        (with_reducible exact grow_wcc (ofC_w v _ FF.Hv64))
    refine owes2_cons (fun wx hox => ?_) ?_
    · focus
        refine withs_guard rfl rfl ?_
        simp only [withs, List.getElem?_cons_zero, List.getElem?_cons_succ, Option.bind, Option.getD]
        repeat (first | (with_reducible refine all_isV ?_) | (with_reducible refine all_isRD ?_; intro sx Ax kx cx hvx hwx) | (with_reducible refine all_isRN ?_; intro Ax kx cx hvx) | (with_reducible refine all_isWC ?_; intro sx Ax kx cx hvx hwx) | (with_reducible refine all_isRow ?_; intro gx hvx))
        refine ⟨by kernel_rfl, ?_⟩
        go_simp
        (exact ⟨Only.refl _ _, isV.self _ _⟩)
    refine owes2_cons (fun wx hox => ?_) ?_
    · focus
        refine withs_guard rfl rfl ?_
        simp only [withs, List.getElem?_cons_zero, List.getElem?_cons_succ, Option.bind, Option.getD]
        repeat (first | (with_reducible refine all_isV ?_) | (with_reducible refine all_isRD ?_; intro sx Ax kx cx hvx hwx) | (with_reducible refine all_isRN ?_; intro Ax kx cx hvx) | (with_reducible refine all_isWC ?_; intro sx Ax kx cx hvx hwx) | (with_reducible refine all_isRow ?_; intro gx hvx))
        refine ⟨by kernel_rfl, ?_⟩
        go_simp
        (with_reducible exact grow_rd (rintB_w v vo FF.Hvo.out _ FF.Hv64))
    refine owes2_cons (fun wx hox => ?_) ?_
    · focus
        refine withs_guard rfl rfl ?_
        simp only [withs, List.getElem?_cons_zero, List.getElem?_cons_succ, Option.bind, Option.getD]
        repeat (first | (with_reducible refine all_isV ?_) | (with_reducible refine all_isRD ?_; intro sx Ax kx cx hvx hwx) | (with_reducible refine all_isRN ?_; intro Ax kx cx hvx) | (with_reducible refine all_isWC ?_; intro sx Ax kx cx hvx hwx) | (with_reducible refine all_isRow ?_; intro gx hvx))
        refine ⟨by kernel_rfl, ?_⟩
        go_simp
        (with_reducible exact grow_of (is2H_w vo FF.Hvo.out (by assumption) (by assumption) (RD.of (by assumption) (by assumption)) FF.Bvo (by omega)))
    iterate 2
      refine owes2_cons (fun wx hox => ?_) ?_
      · focus
          refine withs_plain rfl ?_
          simp only [withs, List.getElem?_cons_zero, List.getElem?_cons_succ, Option.bind, Option.getD]
          repeat (first | (with_reducible refine all_isV ?_) | (with_reducible refine all_isRD ?_; intro sx Ax kx cx hvx hwx) | (with_reducible refine all_isRN ?_; intro Ax kx cx hvx) | (with_reducible refine all_isWC ?_; intro sx Ax kx cx hvx hwx) | (with_reducible refine all_isRow ?_; intro gx hvx))
          go_simp
          (exact ⟨Only.refl _ _, isV.self _ _⟩)
    iterate 2
      refine owes2_cons (fun wx hox => ?_) ?_
      · focus
          refine withs_guard rfl rfl ?_
          simp only [withs, List.getElem?_cons_zero, List.getElem?_cons_succ, Option.bind, Option.getD]
          repeat (first | (with_reducible refine all_isV ?_) | (with_reducible refine all_isRD ?_; intro sx Ax kx cx hvx hwx) | (with_reducible refine all_isRN ?_; intro Ax kx cx hvx) | (with_reducible refine all_isWC ?_; intro sx Ax kx cx hvx hwx) | (with_reducible refine all_isRow ?_; intro gx hvx))
          refine ⟨by kernel_rfl, ?_⟩
          go_simp
          (exact ⟨Only.refl _ _, isV.self _ _⟩)
    refine owes2_cons (fun wx hox => ?_) ?_
    · focus
        refine withs_guard rfl rfl ?_
        simp only [withs, List.getElem?_cons_zero, List.getElem?_cons_succ, Option.bind, Option.getD]
        repeat (first | (with_reducible refine all_isV ?_) | (with_reducible refine all_isRD ?_; intro sx Ax kx cx hvx hwx) | (with_reducible refine all_isRN ?_; intro Ax kx cx hvx) | (with_reducible refine all_isWC ?_; intro sx Ax kx cx hvx hwx) | (with_reducible refine all_isRow ?_; intro gx hvx))
        refine ⟨by kernel_rfl, ?_⟩
        go_simp
        (with_reducible exact grow_of (stays_any gL p cL c A xs _ (Lib.hid (HLa.out.only (HG.out.step hox).only (by simp))) (Lib.hid (FF.hr.out.only (HO6.out.nil_trans (HG.out.step hox).only))) FF.hp (by omega)))
    iterate 2
      refine owes2_cons (fun wx hox => ?_) ?_
      · focus
          refine withs_plain rfl ?_
          simp only [withs, List.getElem?_cons_zero, List.getElem?_cons_succ, Option.bind, Option.getD]
          repeat (first | (with_reducible refine all_isV ?_) | (with_reducible refine all_isRD ?_; intro sx Ax kx cx hvx hwx) | (with_reducible refine all_isRN ?_; intro Ax kx cx hvx) | (with_reducible refine all_isWC ?_; intro sx Ax kx cx hvx hwx) | (with_reducible refine all_isRow ?_; intro gx hvx))
          go_simp
          (exact ⟨Only.refl _ _, isV.self _ _⟩)
    iterate 2
      refine owes2_cons (fun wx hox => ?_) ?_
      · focus
          refine withs_guard rfl rfl ?_
          simp only [withs, List.getElem?_cons_zero, List.getElem?_cons_succ, Option.bind, Option.getD]
          repeat (first | (with_reducible refine all_isV ?_) | (with_reducible refine all_isRD ?_; intro sx Ax kx cx hvx hwx) | (with_reducible refine all_isRN ?_; intro Ax kx cx hvx) | (with_reducible refine all_isWC ?_; intro sx Ax kx cx hvx hwx) | (with_reducible refine all_isRow ?_; intro gx hvx))
          refine ⟨by kernel_rfl, ?_⟩
          go_simp
          (exact ⟨Only.refl _ _, isV.self _ _⟩)
    refine owes2_cons (fun wx hox => ?_) ?_
    · focus
        refine withs_guard rfl rfl ?_
        simp only [withs, List.getElem?_cons_zero, List.getElem?_cons_succ, Option.bind, Option.getD]
        repeat (first | (with_reducible refine all_isV ?_) | (with_reducible refine all_isRD ?_; intro sx Ax kx cx hvx hwx) | (with_reducible refine all_isRN ?_; intro Ax kx cx hvx) | (with_reducible refine all_isWC ?_; intro sx Ax kx cx hvx hwx) | (with_reducible refine all_isRow ?_; intro gx hvx))
        refine ⟨by kernel_rfl, ?_⟩
        go_simp
        (with_reducible exact grow_of (stays_any gM q cM d B ys _ (Lib.hid (HLb.out.only (HG.out.step hox).only (by simp))) (Lib.hid (FF.hs.out.only (HO6.out.nil_trans (HG.out.step hox).only))) FF.hq (by omega)))
    iterate 2
      refine owes2_cons (fun wx hox => ?_) ?_
      · focus
          refine withs_plain rfl ?_
          simp only [withs, List.getElem?_cons_zero, List.getElem?_cons_succ, Option.bind, Option.getD]
          repeat (first | (with_reducible refine all_isV ?_) | (with_reducible refine all_isRD ?_; intro sx Ax kx cx hvx hwx) | (with_reducible refine all_isRN ?_; intro Ax kx cx hvx) | (with_reducible refine all_isWC ?_; intro sx Ax kx cx hvx hwx) | (with_reducible refine all_isRow ?_; intro gx hvx))
          go_simp
          (exact ⟨Only.refl _ _, isV.self _ _⟩)
    exact owes2_nil
  case hlz =>
    repeat (refine List.forall_mem_cons.2 ⟨?_, ?_⟩; first | exact isV.lasts _ | exact isRD.lasts _ | exact isRN.lasts _ | exact isWC.lasts _ | exact isRow.lasts _ _ _)
    exact fun _ h => (by cases h)
  intro wx hox
  refine he_last 116 10 (.bool true) rfl (by kernel_rfl) (by kernel_rfl) (fun a' hde hsz => ?_)
  have hsz2 : 10 < a'.tmps.size := by rw [hsz]; exact (by decide : 10 < 224)
  replace HG := Lib.hid (HG.out.step hox)
  replace HI := Lib.hid (HI.out.step hox)
  replace HR := Lib.hid (HR.out.step hox)
  clear hox
  go_wp2_with fail
  refine bodyPost_ret (v := .bool true) (by simp [results, Tryd.results4, go_sem, hsz2]) rfl ⟨rfl, HO6.out.nil_trans HG.out.only⟩
theorem wtells_in0 (n1 n2 : Bool) (A B : Option Addr) (p c q d N M : Nat) (xs ys : List Nat) (x y v dl du zn za zs zm zmm zaa sx sy cxy : Int) (rx ry fl fu vn va vs vm vmm vaa vo : Dy) (SG ST DG : ByteArray) (w0 : World) (hM : M ≤ 200000)
    (htab : Hid (Tab w0)) (HL : Hid (lightB [⟨A, p, c⟩, ⟨B, q, d⟩] = true)) (hr : Hid (LRead w0 A xs)) (hx : Hid (Limb xs)) (hp : Hid (p = xs.length)) (hpc : p ≤ c) (hp40 : p ≤ 40) (hs : Hid (LRead w0 B ys)) (hy : Hid (Limb ys)) (hq : Hid (q = ys.length)) (hqd : q ≤ d) (hq40 : q ≤ 40) (hvx : Hid (sg n1 (val xs) = x)) (hvy : Hid (sg n2 (val ys) = y)) (HA0 : Hid (NV w0 (.slice A p c) N))
    (Hrx : Hid (nrm x 0 = rx))
    (Hry : Hid (nrm y 0 = ry))
    (Hsx : Hid (rx.z.sign = sx))
    (Hsy : Hid (ry.z.sign = sy))
    (Hwsx : Hid (x.sign = sx))
    (Hzr : Hid ((sy == 0) = true))
    (Hzk : Hid (true = !false))
    (HQdl : Hid (IfB false false (y = 0 ∧ dl = 0) ∧ IfB false true (y ≠ 0 ∧ quoI false x y = dl)))
    (HQdu : Hid (IfB false false (y = 0 ∧ du = 0) ∧ IfB false true (y ≠ 0 ∧ quoI true x y = du)))
    (HFq : Hid (Few (x.natAbs + 1)))
    (Hfl : Hid (nrm (quoI false (intD rx) (intD ry)) 0 = fl))
    (Hfu : Hid (nrm (quoI true (intD rx) (intD ry)) 0 = fu))
    (Hdl : Hid (IfB false true (nrm dl 0 = fl)))
    (Hdu : Hid (IfB false true (nrm du 0 = fu)))
    (Hq0 : Hid (IfB false true (ry.z ≠ 0)))
    (Hz0 : Hid (IfB false false (nrm dl 0 = ⟨0, 0⟩ ∧ nrm du 0 = ⟨0, 0⟩)))
    (Hpe : Hid (0 ≤ rx.e))
    (Hqe : Hid (0 ≤ ry.e))
    (HSG : Hid ((sx < 0 ∧ SG = ⟨#[45]⟩) ∨ (¬ sx < 0 ∧ SG = ⟨#[]⟩)))
    (Hcxy : Hid (cmpI x y = cxy))
    (Hrcxy : Hid (cmpQ rx.q ry.q = cxy))
    (Hzn : Hid (-x = zn)) (Hrvn : Hid (dNot rx = vn)) (Hvn : Hid (nrm zn 0 = vn)) (Hza : Hid (x + y = za)) (Hrva : Hid (dAdd rx ry = va)) (Hva : Hid (nrm za 0 = va)) (Hzs : Hid (x - y = zs)) (Hrvs : Hid (dSub rx ry = vs)) (Hvs : Hid (nrm zs 0 = vs)) (Hzm : Hid (x * y = zm)) (Hrvm : Hid (dMul rx ry = vm)) (Hvm : Hid (nrm zm 0 = vm)) (Hzmm : Hid (zm * y = zmm)) (Hrvmm : Hid (dMul vm ry = vmm)) (Hvmm : Hid (nrm zmm 0 = vmm)) (Hzaa : Hid (za + x = zaa)) (Hrvaa : Hid (dAdd va rx = vaa)) (Hvaa : Hid (nrm zaa 0 = vaa))
    (Hvo : Hid (nrm v 0 = vo))
    (Hv64 : Hid (-9223372036854775808 ≤ v ∧ v ≤ 9223372036854775807))
    (HFa : Hid (Few za.natAbs)) (HFs : Hid (Few zs.natAbs)) (HFm : Hid (Few zm.natAbs)) (HFmm : Hid (Few zmm.natAbs)) (HFaa : Hid (Few zaa.natAbs)) (HFN : Hid (Few N)) (HDl : Hid ((Lib.decDigits x.natAbs).length ≤ 1000000)) (HDN : Hid ((Lib.decDigits N).length ≤ 1000000))
    (HST : Hid ((⟨((if x < 0 then [45] else []) ++ Lib.decDigits x.natAbs).toArray⟩ : ByteArray) = ST))
    (HDG : Hid ((⟨(Lib.decDigits N).toArray⟩ : ByteArray) = DG))
    (HCat : Hid (SG ++ DG = ST))
    (Crx : Hid (Can rx)) (Cry : Hid (Can ry)) (Cva : Hid (Can va)) (B0 : Hid (Bnd M ⟨0, 0⟩)) (Brx : Hid (Bnd M rx)) (Bry : Hid (Bnd M ry)) (Bfl : Hid (Bnd M fl)) (Bfu : Hid (Bnd M fu)) (Bvn : Hid (Bnd M vn)) (Bva : Hid (Bnd M va)) (Bvs : Hid (Bnd M vs)) (Bvm : Hid (Bnd M vm)) (Bvmm : Hid (Bnd M vmm)) (Bvaa : Hid (Bnd M vaa)) (Bvo : Hid (Bnd M vo)) :
    Calls Tryd.prog 4 #[.bool n1, .bool n2, .slice A p c, .slice B q d, .int .i64 v] w0 fun e w' => e = .returned (.bool true) ∧ Only [] w0 w' :=
  wtells_in0F n1 n2 A B p c q d N M xs ys x y v dl du zn za zs zm zmm zaa sx sy cxy rx ry fl fu vn va vs vm vmm vaa vo SG ST DG w0 hM hpc hp40 hqd hq40 ⟨htab, HL, hr, hx, hp, hs, hy, hq, hvx, hvy, HA0, Hrx, Hry, Hsx, Hsy, Hwsx, Hzr, Hzk, HQdl, HQdu, HFq, Hfl, Hfu, Hdl, Hdu, Hq0, Hz0, Hpe, Hqe, HSG, Hcxy, Hrcxy, Hzn, Hrvn, Hvn, Hza, Hrva, Hva, Hzs, Hrvs, Hvs, Hzm, Hrvm, Hvm, Hzmm, Hrvmm, Hvmm, Hzaa, Hrvaa, Hvaa, Hvo, Hv64, HFa, HFs, HFm, HFmm, HFaa, HFN, HDl, HDN, HST, HDG, HCat, Crx, Cry, Cva, B0, Brx, Bry, Bfl, Bfu, Bvn, Bva, Bvs, Bvm, Bvmm, Bvaa, Bvo⟩

end Go.Proofs.YtigpnopeacicpaaDoor
