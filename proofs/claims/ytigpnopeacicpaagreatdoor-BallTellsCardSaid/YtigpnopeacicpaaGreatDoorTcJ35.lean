/-
  Joined texts.
-/
import Derived.Test.YtigpnopeacicpaaGreatDoorTcJ33
import Derived.Test.YtigpnopeacicpaaGreatDoorTcJ34
import Derived.Test.YtigpnopeacicpaaGreatDoorTcGTyp
namespace Go.Proofs.YtigpnopeacicpaaGreatDoor
open Go.Lib (hid)
set_option linter.unusedSimpArgs false
open Go.RowKit
theorem store_ba {w:World} {g:Nat} {x0 x1 x2 x3 x4 x5:Value} (hb:Blk w g 34 [x0,x1,x2,x3,x4,x5]) (s:Bool) (A:Option Addr) (k c:Nat) (e:Int) (t:Bool) (B:Option Addr) (m d:Nat) (f:Int):(Instr.storeAt 34 (.pointer (some ⟨g,0,none⟩)) (.agg #[.bool s,.slice A k c,.int .i64 e,.bool t,.slice B m d,.int .i64 f])).run Tryz.prog w= .ok () ((((((w.setCell ⟨g,0,none⟩ (.bool s)).setCell ⟨g,1,none⟩ (.slice A k c)).setCell ⟨g,2,none⟩ (.int .i64 e)).setCell ⟨g,3,none⟩ (.bool t)).setCell ⟨g,4,none⟩ (.slice B m d)).setCell ⟨g,5,none⟩ (.int .i64 f)):=by
 have c0:=hb.cell 0
 have c1:=hb.cell 1
 have c2:=hb.cell 2
 have c3:=hb.cell 3
 have c4:=hb.cell 4
 have c5:=hb.cell 5
 have f0:=hb.frozen 0
 have f1:=hb.frozen 1
 have f2:=hb.frozen 2
 have f3:=hb.frozen 3
 have f4:=hb.frozen 4
 have f5:=hb.frozen 5
 simp only [List.getElem?_cons_zero,List.getElem?_cons_succ] at c0 c1 c2 c3 c4 c5
 clear hb
 go_simp
theorem load_ba {w:World} {g:Nat} {s:Bool} {A:Option Addr} {k c:Nat} {e:Int} {t:Bool} {B:Option Addr} {m d:Nat} {f:Int} (c0:w.cell? ⟨g,0,none⟩=some (.bool s)) (c1:w.cell? ⟨g,1,none⟩=some (.slice A k c)) (c2:w.cell? ⟨g,2,none⟩=some (.int .i64 e)) (c3:w.cell? ⟨g,3,none⟩=some (.bool t)) (c4:w.cell? ⟨g,4,none⟩=some (.slice B m d)) (c5:w.cell? ⟨g,5,none⟩=some (.int .i64 f)):(Instr.loadAt 34 (.pointer (some ⟨g,0,none⟩))).run Tryz.prog w= .ok (.agg #[.bool s,.slice A k c,.int .i64 e,.bool t,.slice B m d,.int .i64 f]) w:=by
 go_simp
theorem store_rb {w:World} {g:Nat} {x0 x1 x2 x3 x4 x5:Value} (hb:Blk w g 40 [x0,x1,x2,x3,x4,x5]) (s:Bool) (A:Option Addr) (k c:Nat) (e:Int) (t:Bool) (B:Option Addr) (m d:Nat) (f:Int):(Instr.storeAt 40 (.pointer (some ⟨g,0,none⟩)) (.agg #[.bool s,.slice A k c,.int .i64 e,.bool t,.slice B m d,.int .i64 f])).run Tryz.prog w= .ok () ((((((w.setCell ⟨g,0,none⟩ (.bool s)).setCell ⟨g,1,none⟩ (.slice A k c)).setCell ⟨g,2,none⟩ (.int .i64 e)).setCell ⟨g,3,none⟩ (.bool t)).setCell ⟨g,4,none⟩ (.slice B m d)).setCell ⟨g,5,none⟩ (.int .i64 f)):=by
 have c0:=hb.cell 0
 have c1:=hb.cell 1
 have c2:=hb.cell 2
 have c3:=hb.cell 3
 have c4:=hb.cell 4
 have c5:=hb.cell 5
 have f0:=hb.frozen 0
 have f1:=hb.frozen 1
 have f2:=hb.frozen 2
 have f3:=hb.frozen 3
 have f4:=hb.frozen 4
 have f5:=hb.frozen 5
 simp only [List.getElem?_cons_zero,List.getElem?_cons_succ] at c0 c1 c2 c3 c4 c5
 clear hb
 go_simp
theorem load_rb {w:World} {g:Nat} {s:Bool} {A:Option Addr} {k c:Nat} {e:Int} {t:Bool} {B:Option Addr} {m d:Nat} {f:Int} (c0:w.cell? ⟨g,0,none⟩=some (.bool s)) (c1:w.cell? ⟨g,1,none⟩=some (.slice A k c)) (c2:w.cell? ⟨g,2,none⟩=some (.int .i64 e)) (c3:w.cell? ⟨g,3,none⟩=some (.bool t)) (c4:w.cell? ⟨g,4,none⟩=some (.slice B m d)) (c5:w.cell? ⟨g,5,none⟩=some (.int .i64 f)):(Instr.loadAt 40 (.pointer (some ⟨g,0,none⟩))).run Tryz.prog w= .ok (.agg #[.bool s,.slice A k c,.int .i64 e,.bool t,.slice B m d,.int .i64 f]) w:=by
 go_simp
theorem bquo_v {w:World} {a b:Value} {x y u v:Dy} {N:Nat} (p:Int) (ok:Bool) (lo hi:Dy) (hno:Hid (ok=false→(u.z.sign=v.z.sign→u.z.sign=0)∧lo=⟨0,0⟩∧hi=⟨0,0⟩)) (hyes:Hid (ok=true→u.z.sign=v.z.sign∧u.z≠0∧qLo (widthP p) x y u v=lo∧qHi (widthP p) x y u v=hi)) (ha:Hid (BV w a x y)) (hb:Hid (BV w b u v)) (bx:Hid (Bnd N x)) (by_:Hid (Bnd N y)) (bu:Hid (Bnd N u)) (bv:Hid (Bnd N v)) (hN:N≤100000) (hT:Hid (Tab6 w)):Calls Tryz.prog 10 #[a,b,.int .i64 p] w (QBPost lo hi ok w):=by
 cases ok
 ·obtain⟨h1,h2,h3⟩:=hno.out rfl
  subst h2 h3
  exact bquo_no p h1 ha hb
 ·obtain⟨h1,h2,h3,h4⟩:=hyes.out rfl
  exact bquo_b p lo hi h3 h4 h1 h2 ha hb bx by_ bu bv hN hT
theorem bsqrt_v {w:World} {a:Value} {x y lo hi:Dy} {N:Nat} (p:Int) (ok:Bool) (hno:Hid (ok=false→y.z<0∧lo=⟨0,0⟩∧hi=⟨0,0⟩)) (hyes:Hid (ok=true→0≤y.z∧sqrtQ (widthP p) false (if x.z<0 then ⟨0,0⟩ else x)=lo∧sqrtQ (widthP p) true y=hi)) (ha:Hid (BV w a x y)) (bx:Hid (Bnd N x)) (by_:Hid (Bnd N y)) (hN:N≤100000) (hT:Hid (Tab6 w)):Calls Tryz.prog 12 #[a,.int .i64 p] w (QBPost lo hi ok w):=by
 cases ok
 ·obtain⟨h1,h2,h3⟩:=hno.out rfl
  subst h2 h3
  exact bsqrt_no p _ (hid rfl) (by rw [Int.sign_eq_neg_one_of_neg h1];omega) ha
 ·obtain⟨h1,h2,h3⟩:=hyes.out rfl
  exact bsqrt_b p h1 h2 h3 ha bx by_ hN hT
theorem psqrt_v {w:World} {a:Value} {x y lo hi:Dy} {N:Nat} (p:Int) (ok:Bool) (hno:Hid (ok=false→y.z<0∧lo=⟨0,0⟩∧hi=⟨0,0⟩)) (hyes:Hid (ok=true→0≤y.z∧sqrtQ (widthP p) false (if x.z<0 then ⟨0,0⟩ else x)=lo∧sqrtQ (widthP p) true y=hi)) (ha:Hid (RBV w a x y)) (bx:Hid (Bnd N x)) (by_:Hid (Bnd N y)) (hN:N≤1000000):Calls Tryz.prog 13 #[a,.int .i64 p] w (QRP lo hi ok w):=by
 cases ok
 ·obtain⟨h1,h2,h3⟩:=hno.out rfl
  subst h2 h3
  exact psqrt_no p _ (hid rfl) (by rw [Int.sign_eq_neg_one_of_neg h1];omega) ha
 ·obtain⟨h1,h2,h3⟩:=hyes.out rfl
  have sx:=Int.sign_nonneg_iff (x:=x.z)
  have sy:=Int.sign_nonneg_iff (x:=y.z)
  refine psqrt_core (x':=if x.z<0 then ⟨0,0⟩ else x) p _ _ (hid rfl) (by omega) (hid rfl) (hid ⟨fun h=>by rw [if_pos (by omega)],fun h=>by rw [if_neg (by omega)]⟩) (hid h2) (hid h3) ?_ h1 ha (hid ?_) by_ hN
  ·split
   ·decide
   ·omega
  ·split
   ·exact bnd_zero _
   ·exact bx.out
theorem rnd_self {P:Nat} {up:Bool} {x:Dy} (h1:1≤P) (hc:Can x) (hs:Short P x):rndD P up x=x:=
 have h:=rnd_rd P up x h1
 Can.ext h.can hc (h.exact hs rfl)
theorem pquo_v {w:World} {a b:Value} {x y u v:Dy} {N:Nat} (p:Int) (ok:Bool) (lo hi:Dy) (hno:Hid (ok=false→u.z.sign≤0∧0≤v.z.sign∧lo=⟨0,0⟩∧hi=⟨0,0⟩)) (hyes:Hid (ok=true→(0<u.z.sign∨(u.z.sign≤0∧v.z.sign<0))∧u.z≠0∧v.z≠0∧qLo (widthP p) x y u v=lo∧qHi (widthP p) x y u v=hi)) (ha:Hid (RBV w a x y)) (hb:Hid (RBV w b u v)) (bx:Hid (Bnd N x)) (by_:Hid (Bnd N y)) (bu:Hid (Bnd N u)) (bv:Hid (Bnd N v)) (hN:N≤50000) (hp:p≤1000):Calls Tryz.prog 11 #[a,b,.int .i64 p] w (QRP lo hi ok w):=by
 cases ok
 ·obtain⟨h1,h2,h3,h4⟩:=hno.out rfl
  subst h3 h4
  exact pquo_no p _ _ (hid rfl) (hid rfl) h1 h2 ha hb
 ·obtain⟨h1,h2,h3,h4,h5⟩:=hyes.out rfl
  obtain⟨P,hP⟩: ∃P,widthP p=P:=⟨_,rfl⟩
  have hw:=widthP_range p
  have hw4:P≤1000:=by rw [← hP];unfold widthP;omega
  rw [hP] at hw
  have rd:=fun (up:Bool) (a b:Dy) (h:b.z≠0)=>quoQ_rd (P:=P) (up:=up) (x:=a) (y:=b) hw.1 h (quo_exists h)
  have bb:=fun (up:Bool) (a b:Dy) (ha:Bnd N a) (hb:Bnd N b)=>quoQ_bnd (P:=P) (up:=up) ha hb (Nat.le_refl _)
  have K0:=fun (up:Bool) (a b:Dy) (h:b.z≠0)=>(rd up a b h).can
  have S0:=fun (up:Bool) (a b:Dy) (h:b.z≠0)=>(rd up a b h).short
  have mn: ∀{a b:Dy} {Q:Dy→Prop},Q a→Q b→Q (minD a b):=fun {a b Q} h1 h2=>by unfold minD;split<;>assumption
  have mx: ∀{a b:Dy} {Q:Dy→Prop},Q a→Q b→Q (maxD a b):=fun {a b Q} h1 h2=>by unfold maxD;split<;>assumption
  have G: ∀up,(Can (quoQ P up x u)∧Short P (quoQ P up x u))∧(Can (quoQ P up x v)∧Short P (quoQ P up x v))∧(Can (quoQ P up y u)∧Short P (quoQ P up y u))∧(Can (quoQ P up y v)∧Short P (quoQ P up y v)):=fun up=>⟨⟨K0 up x u h2,S0 up x u h2⟩,⟨K0 up x v h3,S0 up x v h3⟩,⟨K0 up y u h2,S0 up y u h2⟩,⟨K0 up y v h3,S0 up y v h3⟩⟩
  obtain⟨g0,g1,g2,g3⟩:=G false
  obtain⟨k0,k1,k2,k3⟩:=G true
  have hlo:rndD P false (minD (minD (minD (quoQ P false x u) (quoQ P false x v)) (quoQ P false y u)) (quoQ P false y v))=lo:=by
   have:=mn (Q:=fun d=>Can d∧Short P d) (mn (Q:=fun d=>Can d∧Short P d) (mn (Q:=fun d=>Can d∧Short P d) g0 g1) g2) g3
   rw [rnd_self hw.1 this.1 this.2,←h4,hP];rfl
  have hhi:rndD P true (maxD (maxD (maxD (quoQ P true x u) (quoQ P true x v)) (quoQ P true y u)) (quoQ P true y v))=hi:=by
   have:=mx (Q:=fun d=>Can d∧Short P d) (mx (Q:=fun d=>Can d∧Short P d) (mx (Q:=fun d=>Can d∧Short P d) k0 k1) k2) k3
   rw [rnd_self hw.1 this.1 this.2,←h5,hP];rfl
  exact pquo_core (M:=15*N+7*P+19) p _ _ _ _ _ _ _ _ _ _ lo _ _ hi (hid rfl) (hid rfl) h1 (hid (by rw [hP];rfl)) (hid g0.1) (hid (bb false x u bx.out bu.out)) (hid (by rw [hP];rfl)) (hid g1.1) (hid (bb false x v bx.out bv.out)) (hid (by rw [hP];rfl)) (hid g2.1) (hid (bb false y u by_.out bu.out)) (hid (by rw [hP];rfl)) (hid g3.1) (hid (bb false y v by_.out bv.out))
   (hid (by rw [hP];rfl)) (hid k0.1) (hid (bb true x u bx.out bu.out)) (hid (by rw [hP];rfl)) (hid k1.1) (hid (bb true x v bx.out bv.out)) (hid (by rw [hP];rfl)) (hid k2.1) (hid (bb true y u by_.out bu.out)) (hid (by rw [hP];rfl)) (hid k3.1) (hid (bb true y v by_.out bv.out))
   (hid (by rw [hP];exact hlo)) (hid rfl) (hid rfl) (hid (by rw [hP];exact hhi)) h2 h3 ha hb bx by_ bu bv (by omega) (by omega)
theorem is5_z {w:World} {a:Value} {x y:Dy} (hx:x=⟨0,0⟩) (hy:y=⟨0,0⟩) (ha:Hid (isBC x y a w)):Calls Tryz.prog 14 #[a,.agg #[.bool false,.slice none 0 0,.int .i64 0,.bool false,.slice none 0 0,.int .i64 0]] w fun e w'=>e= .returned (.bool true)∧Only [] w w':=by
 subst hx hy
 exact is5_b (N:=1) ha (RBV.of (x:=⟨0,0⟩) (y:=⟨0,0⟩) (hid (RV.nil _)) (hid crz) (hid (RV.nil _)) (hid crz)) (hid (.inl ⟨rfl,rfl⟩)) (hid (.inl ⟨rfl,rfl⟩)) (hid (bnd_zero 1)) (hid (bnd_zero 1)) (by omega)
theorem notB_b {w:World} {a:Value} {x y:Dy} {N:Nat} (u v:Dy) (hu:dNot y=u) (hv:dNot x=v) (ha:Hid (BV w a x y)) (bx:Hid (Bnd N x)) (by_:Hid (Bnd N y)) (hN:N≤8000000) (hT:Hid (Tab6 w)):Calls Tryz.prog 27 #[a] w (BPost u v w):=hu▸hv▸not_b ha bx by_ hN hT
theorem rnotB_d {w:World} {a:Value} {x:Dy} {N:Nat} (r:Dy) (hr:dNot x=r) (ha:Hid (RD w a x)) (hb:Hid (Bnd N x)) (hN:N≤8000000):Calls Tryz.prog 28 #[a] w (RDP r w):=hr▸rnot_d ha hb hN
theorem put_size (a:Act) (d:Option Nat) (v:Value):(a.put d v).tmps.size=a.tmps.size:=by
 cases d<;>simp [Act.put]
theorem put_defers (a:Act) (d:Option Nat) (v:Value):(a.put d v).defers=a.defers:=by
 cases d<;>simp [Act.put]
theorem withs_app {l:List Oper} {Ps:List VP} {w:World} {K:Act→Prop} {js:List Nat}: ∀{is:List Nat} {a:Act},withs l Ps w (fun a'=>withs l Ps w K js a') is a→withs l Ps w K (is++js) a
 |[],_,h=>h
 |i::is,a,h=>by
  show withs l Ps w K (i::(is++js)) a
  unfold withs at h ⊢
  split
  ·rename_i e
   rw [e] at h
   exact withs_app h
  ·rename_i d e
   rw [e] at h
   exact fun v hv=>withs_app (h v hv)
theorem withs_skip {l:List Oper} {Ps:List VP} {w:World} {K:Act→Prop}: ∀(is:List Nat) {a:Act},(∀ a':Act,a'.defers=a.defers→a'.tmps.size=a.tmps.size→K a')→withs l Ps w K is a
 |[],a,h=>h a rfl rfl
 |i::is,a,h=>by
  unfold withs
  split
  ·exact withs_skip is h
  ·exact fun v _=>withs_skip is (fun a' h1 h2=>h a' (h1.trans (put_defers _ _ _)) (h2.trans (put_size _ _ _)))
theorem he_last {l:List Oper} {Ps:List VP} {w:World} {K:Act→Prop} {a:Act} (n d:Nat) (X:Value) (hn:l.length=n+1) (hd:dstOf l n=some d) (hp:(Ps[n]?.getD fun _ _=>True)=isV X)
  (h: ∀a':Act,a'.defers=a.defers→a'.tmps.size=a.tmps.size→K (a'.put (some d) X)):withs l Ps w K (List.range l.length) a:=by
 rw [hn,List.range_succ]
 refine withs_app (withs_skip _ fun a' h1 h2=>?_)
 refine withs_some d _ hd hp fun v hv=>?_
 have e:v=X:=hv
 rw [e]
 exact withs_nil (h a' h1 h2)
end Go.Proofs.YtigpnopeacicpaaGreatDoor
