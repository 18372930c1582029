/-
  Joined texts.
-/
import Derived.Test.YtigpnopeacicpaaDoorTbJ11
import Derived.Test.YtigpnopeacicpaaDoorTbJ9
/-
  bound.combine, of each kind of node.
-/
namespace Go.Proofs.YtigpnopeacicpaaDoor
set_option linter.unusedSimpArgs false
open Go.RowKit
attribute [local go_sem] run_store_float

/-- The boxes of combine. -/
structure EnB (w w' : World) (nk : Int) (nf : Nat) (na nb : Int) (a b : En) : Prop where
  ho : Only [] w w'
  bn : Blk w' w.heap.size 31 [.int .i64 nk, .float .f64 nf, .int .i64 na, .int .i64 nb]
  b0 : Blk w' (w.heap.size + 1) 83 [.int .i64 a.u, .int .i64 a.l, .bool a.ok]
  b1 : Blk w' (w.heap.size + 1 + 1) 83 [.int .i64 b.u, .int .i64 b.l, .bool b.ok]
  b2 : Blk w' (w.heap.size + 1 + 1 + 1) 83 [.int .i64 0, .int .i64 0, .bool false]
section
variable {w w' w'' : World} {nk : Int} {nf : Nat} {na nb : Int} {a b : En}
theorem EnB.only (h : EnB w w' nk nf na nb a b) (ho : Only [] w' w'') : EnB w w'' nk nf na nb a b := ⟨h.ho.nil_trans ho, h.bn.only ho (by simp), h.b0.only ho (by simp), h.b1.only ho (by simp), h.b2.only ho (by simp)⟩
theorem EnB.new (w : World) (nk : Int) (nf : Nat) (na nb : Int) (a b : En) : EnB w ((((w.alloc (.cells #[.int .i64 nk, .float .f64 nf, .int .i64 na, .int .i64 nb] 31)).alloc (.cells #[.int .i64 a.u, .int .i64 a.l, .bool a.ok] 83)).alloc (.cells #[.int .i64 b.u, .int .i64 b.l, .bool b.ok] 83)).alloc (.cells #[.int .i64 0, .int .i64 0, .bool false] 83)) nk nf na nb a b := by
  have h0 := Blk.new w 31 [.int .i64 nk, .float .f64 nf, .int .i64 na, .int .i64 nb]
  have h1 := Blk.new (w.alloc (.cells #[.int .i64 nk, .float .f64 nf, .int .i64 na, .int .i64 nb] 31)) 83 [.int .i64 a.u, .int .i64 a.l, .bool a.ok]
  rw [World.size_alloc] at h1
  have h2 := Blk.new ((w.alloc (.cells #[.int .i64 nk, .float .f64 nf, .int .i64 na, .int .i64 nb] 31)).alloc (.cells #[.int .i64 a.u, .int .i64 a.l, .bool a.ok] 83)) 83 [.int .i64 b.u, .int .i64 b.l, .bool b.ok]
  rw [World.size_alloc, World.size_alloc] at h2
  have h3 := Blk.new (((w.alloc (.cells #[.int .i64 nk, .float .f64 nf, .int .i64 na, .int .i64 nb] 31)).alloc (.cells #[.int .i64 a.u, .int .i64 a.l, .bool a.ok] 83)).alloc (.cells #[.int .i64 b.u, .int .i64 b.l, .bool b.ok] 83)) 83 [.int .i64 0, .int .i64 0, .bool false]
  rw [World.size_alloc, World.size_alloc, World.size_alloc] at h3
  exact ⟨((((Only.refl [] w).alloc _).alloc _).alloc _).alloc _, ((h0.alloc _).alloc _).alloc _, (h1.alloc _).alloc _, h2.alloc _, h3⟩
end
set_option maxHeartbeats 1600000 in
set_option maxRecDepth 100000 in
theorem bo_comb_leaf (v : Nat) (na nb : Int) (a b e0 : En) (w : World) (hA : Hid (∀ w' : World, Only [] w w' → Calls Tryd.prog 104 #[.float .f64 v] w' fun e w'' => e = .returned (entV e0) ∧ Only [] w' w'')) :
    Calls Tryd.prog 73 #[.agg #[.int .i64 0, .float .f64 v, .int .i64 na, .int .i64 nb], entV a, entV b] w fun e w' => e = .returned (entV e0) ∧ Only [] w w' := by
  have S0 := Lib.hid (EnB.new w 0 v na nb a b)
  have n0 := S0.out.bn.cell 0
  have n1 := S0.out.bn.cell 1
  have a0 := S0.out.b0.cell 0
  have a1 := S0.out.b0.cell 1
  have a2 := S0.out.b0.cell 2
  have b0 := S0.out.b1.cell 0
  have b1 := S0.out.b1.cell 1
  have b2 := S0.out.b1.cell 2
  have c0 := S0.out.b2.cell 0
  have c1 := S0.out.b2.cell 1
  have c2 := S0.out.b2.cell 2
  have f0 := S0.out.b2.frozen 0
  have f1 := S0.out.b2.frozen 1
  have f2 := S0.out.b2.frozen 2
  simp only [List.getElem?_cons_zero, List.getElem?_cons_succ] at n0 n1 a0 a1 a2 b0 b1 b2 c0 c1 c2
  obtain ⟨au, al, aok⟩ := a
  obtain ⟨bu, bl, bok⟩ := b
  simp only at *
  cases aok
  · skip
    go_enter Tryd.func73, Tryd.ntmps73
    go_wp2_with fail
    refine (hA.out _ S0.out.ho).mono ?_
    rintro e w2 ⟨rfl, ho2⟩
    replace S0 := Lib.hid (S0.out.only ho2)
    clear n0 n1 a0 a1 a2 b0 b1 b2 c0 c1 c2 f0 f1 f2 ho2
    have c0 := S0.out.b2.cell 0
    have c1 := S0.out.b2.cell 1
    have c2 := S0.out.b2.cell 2
    have f0 := S0.out.b2.frozen 0
    have f1 := S0.out.b2.frozen 1
    have f2 := S0.out.b2.frozen 2
    simp only [List.getElem?_cons_zero, List.getElem?_cons_succ] at c0 c1 c2
    go_wp2_with fail
    refine bodyPost_ret (v := .agg #[.int .i64 e0.u, .int .i64 e0.l, .bool e0.ok]) (by simp [results, Tryd.results73, go_sem, c0, c1, c2]) rfl ⟨?_, ?_⟩
    · first | rfl | (rw [HE.out])
    · first
        | exact ((((Only.refl [] w).alloc _).alloc _).alloc _).alloc _
        | (have ho := S0.out.ho
           exact ((ho.setCell (.inr (by show w.heap.size ≤ w.heap.size + 1 + 1 + 1; omega)) _).setCell (.inr (by show w.heap.size ≤ w.heap.size + 1 + 1 + 1; omega)) _).setCell (.inr (by show w.heap.size ≤ w.heap.size + 1 + 1 + 1; omega)) _)
  · skip
    go_enter Tryd.func73, Tryd.ntmps73
    go_wp2_with fail
    refine (hA.out _ S0.out.ho).mono ?_
    rintro e w2 ⟨rfl, ho2⟩
    replace S0 := Lib.hid (S0.out.only ho2)
    clear n0 n1 a0 a1 a2 b0 b1 b2 c0 c1 c2 f0 f1 f2 ho2
    have c0 := S0.out.b2.cell 0
    have c1 := S0.out.b2.cell 1
    have c2 := S0.out.b2.cell 2
    have f0 := S0.out.b2.frozen 0
    have f1 := S0.out.b2.frozen 1
    have f2 := S0.out.b2.frozen 2
    simp only [List.getElem?_cons_zero, List.getElem?_cons_succ] at c0 c1 c2
    go_wp2_with fail
    refine bodyPost_ret (v := .agg #[.int .i64 e0.u, .int .i64 e0.l, .bool e0.ok]) (by simp [results, Tryd.results73, go_sem, c0, c1, c2]) rfl ⟨?_, ?_⟩
    · first | rfl | (rw [HE.out])
    · first
        | exact ((((Only.refl [] w).alloc _).alloc _).alloc _).alloc _
        | (have ho := S0.out.ho
           exact ((ho.setCell (.inr (by show w.heap.size ≤ w.heap.size + 1 + 1 + 1; omega)) _).setCell (.inr (by show w.heap.size ≤ w.heap.size + 1 + 1 + 1; omega)) _).setCell (.inr (by show w.heap.size ≤ w.heap.size + 1 + 1 + 1; omega)) _)
set_option maxHeartbeats 1600000 in
set_option maxRecDepth 100000 in
theorem bo_comb_add (nk : Int) (hk : nk = 1 ∨ nk = 2) (v : Nat) (na nb : Int) (a b : En) (ha : EnOk a) (hb : EnOk b) (w : World) :
    Calls Tryd.prog 73 #[.agg #[.int .i64 nk, .float .f64 v, .int .i64 na, .int .i64 nb], entV a, entV b] w fun e w' => e = .returned (entV ⟨1 + max (a.u + b.l) (a.l + b.u), a.l + b.l, a.ok && b.ok⟩) ∧ Only [] w w' := by
  have S0 := Lib.hid (EnB.new w nk v na nb a b)
  have n0 := S0.out.bn.cell 0
  have n1 := S0.out.bn.cell 1
  have a0 := S0.out.b0.cell 0
  have a1 := S0.out.b0.cell 1
  have a2 := S0.out.b0.cell 2
  have b0 := S0.out.b1.cell 0
  have b1 := S0.out.b1.cell 1
  have b2 := S0.out.b1.cell 2
  have c0 := S0.out.b2.cell 0
  have c1 := S0.out.b2.cell 1
  have c2 := S0.out.b2.cell 2
  have f0 := S0.out.b2.frozen 0
  have f1 := S0.out.b2.frozen 1
  have f2 := S0.out.b2.frozen 2
  simp only [List.getElem?_cons_zero, List.getElem?_cons_succ] at n0 n1 a0 a1 a2 b0 b1 b2 c0 c1 c2
  obtain ⟨au, al, aok⟩ := a
  obtain ⟨bu, bl, bok⟩ := b
  unfold EnOk at ha hb
  simp only [topB_val] at ha hb
  simp only at *
  have h1 : IntKind.i64.wrap (au + bl) = au + bl := wrap_i64 (by omega)
  have h2 : IntKind.i64.wrap (al + bu) = al + bu := wrap_i64 (by omega)
  have h3 : IntKind.i64.wrap (1 + max (au + bl) (al + bu)) = 1 + max (au + bl) (al + bu) := wrap_i64 (by omega)
  have h4 : IntKind.i64.wrap (al + bl) = al + bl := wrap_i64 (by omega)
  clear ha hb
  rcases hk with rfl | rfl
  · cases aok
    · skip
      go_enter Tryd.func73, Tryd.ntmps73
      go_wp2_with fail
      refine bodyPost_ret (v := .agg #[.int .i64 (1 + max (au + bl) (al + bu)), .int .i64 (al + bl), .bool false]) (by simp [results, Tryd.results73, go_sem, c0, c1, c2]) rfl ⟨?_, ?_⟩
      · first | rfl | (rw [HE.out])
      · first
          | exact ((((Only.refl [] w).alloc _).alloc _).alloc _).alloc _
          | (have ho := S0.out.ho
             exact ((ho.setCell (.inr (by show w.heap.size ≤ w.heap.size + 1 + 1 + 1; omega)) _).setCell (.inr (by show w.heap.size ≤ w.heap.size + 1 + 1 + 1; omega)) _).setCell (.inr (by show w.heap.size ≤ w.heap.size + 1 + 1 + 1; omega)) _)
    · skip
      go_enter Tryd.func73, Tryd.ntmps73
      go_wp2_with fail
      refine bodyPost_ret (v := .agg #[.int .i64 (1 + max (au + bl) (al + bu)), .int .i64 (al + bl), .bool bok]) (by simp [results, Tryd.results73, go_sem, c0, c1, c2]) rfl ⟨?_, ?_⟩
      · first | rfl | (rw [HE.out])
      · first
          | exact ((((Only.refl [] w).alloc _).alloc _).alloc _).alloc _
          | (have ho := S0.out.ho
             exact ((ho.setCell (.inr (by show w.heap.size ≤ w.heap.size + 1 + 1 + 1; omega)) _).setCell (.inr (by show w.heap.size ≤ w.heap.size + 1 + 1 + 1; omega)) _).setCell (.inr (by show w.heap.size ≤ w.heap.size + 1 + 1 + 1; omega)) _)
  · cases aok
    · skip
      go_enter Tryd.func73, Tryd.ntmps73
      go_wp2_with fail
      refine bodyPost_ret (v := .agg #[.int .i64 (1 + max (au + bl) (al + bu)), .int .i64 (al + bl), .bool false]) (by simp [results, Tryd.results73, go_sem, c0, c1, c2]) rfl ⟨?_, ?_⟩
      · first | rfl | (rw [HE.out])
      · first
          | exact ((((Only.refl [] w).alloc _).alloc _).alloc _).alloc _
          | (have ho := S0.out.ho
             exact ((ho.setCell (.inr (by show w.heap.size ≤ w.heap.size + 1 + 1 + 1; omega)) _).setCell (.inr (by show w.heap.size ≤ w.heap.size + 1 + 1 + 1; omega)) _).setCell (.inr (by show w.heap.size ≤ w.heap.size + 1 + 1 + 1; omega)) _)
    · skip
      go_enter Tryd.func73, Tryd.ntmps73
      go_wp2_with fail
      refine bodyPost_ret (v := .agg #[.int .i64 (1 + max (au + bl) (al + bu)), .int .i64 (al + bl), .bool bok]) (by simp [results, Tryd.results73, go_sem, c0, c1, c2]) rfl ⟨?_, ?_⟩
      · first | rfl | (rw [HE.out])
      · first
          | exact ((((Only.refl [] w).alloc _).alloc _).alloc _).alloc _
          | (have ho := S0.out.ho
             exact ((ho.setCell (.inr (by show w.heap.size ≤ w.heap.size + 1 + 1 + 1; omega)) _).setCell (.inr (by show w.heap.size ≤ w.heap.size + 1 + 1 + 1; omega)) _).setCell (.inr (by show w.heap.size ≤ w.heap.size + 1 + 1 + 1; omega)) _)
set_option maxHeartbeats 1600000 in
set_option maxRecDepth 100000 in
theorem bo_comb_mul (v : Nat) (na nb : Int) (a b : En) (ha : EnOk a) (hb : EnOk b) (w : World) :
    Calls Tryd.prog 73 #[.agg #[.int .i64 3, .float .f64 v, .int .i64 na, .int .i64 nb], entV a, entV b] w fun e w' => e = .returned (entV ⟨a.u + b.u, a.l + b.l, a.ok && b.ok⟩) ∧ Only [] w w' := by
  have S0 := Lib.hid (EnB.new w 3 v na nb a b)
  have n0 := S0.out.bn.cell 0
  have n1 := S0.out.bn.cell 1
  have a0 := S0.out.b0.cell 0
  have a1 := S0.out.b0.cell 1
  have a2 := S0.out.b0.cell 2
  have b0 := S0.out.b1.cell 0
  have b1 := S0.out.b1.cell 1
  have b2 := S0.out.b1.cell 2
  have c0 := S0.out.b2.cell 0
  have c1 := S0.out.b2.cell 1
  have c2 := S0.out.b2.cell 2
  have f0 := S0.out.b2.frozen 0
  have f1 := S0.out.b2.frozen 1
  have f2 := S0.out.b2.frozen 2
  simp only [List.getElem?_cons_zero, List.getElem?_cons_succ] at n0 n1 a0 a1 a2 b0 b1 b2 c0 c1 c2
  obtain ⟨au, al, aok⟩ := a
  obtain ⟨bu, bl, bok⟩ := b
  unfold EnOk at ha hb
  simp only [topB_val] at ha hb
  simp only at *
  have h1 : IntKind.i64.wrap (au + bu) = au + bu := wrap_i64 (by omega)
  have h2 : IntKind.i64.wrap (al + bl) = al + bl := wrap_i64 (by omega)
  clear ha hb
  cases aok
  · skip
    go_enter Tryd.func73, Tryd.ntmps73
    go_wp2_with fail
    refine bodyPost_ret (v := .agg #[.int .i64 (au + bu), .int .i64 (al + bl), .bool false]) (by simp [results, Tryd.results73, go_sem, c0, c1, c2]) rfl ⟨?_, ?_⟩
    · first | rfl | (rw [HE.out])
    · first
        | exact ((((Only.refl [] w).alloc _).alloc _).alloc _).alloc _
        | (have ho := S0.out.ho
           exact ((ho.setCell (.inr (by show w.heap.size ≤ w.heap.size + 1 + 1 + 1; omega)) _).setCell (.inr (by show w.heap.size ≤ w.heap.size + 1 + 1 + 1; omega)) _).setCell (.inr (by show w.heap.size ≤ w.heap.size + 1 + 1 + 1; omega)) _)
  · skip
    go_enter Tryd.func73, Tryd.ntmps73
    go_wp2_with fail
    refine bodyPost_ret (v := .agg #[.int .i64 (au + bu), .int .i64 (al + bl), .bool bok]) (by simp [results, Tryd.results73, go_sem, c0, c1, c2]) rfl ⟨?_, ?_⟩
    · first | rfl | (rw [HE.out])
    · first
        | exact ((((Only.refl [] w).alloc _).alloc _).alloc _).alloc _
        | (have ho := S0.out.ho
           exact ((ho.setCell (.inr (by show w.heap.size ≤ w.heap.size + 1 + 1 + 1; omega)) _).setCell (.inr (by show w.heap.size ≤ w.heap.size + 1 + 1 + 1; omega)) _).setCell (.inr (by show w.heap.size ≤ w.heap.size + 1 + 1 + 1; omega)) _)
set_option maxHeartbeats 1600000 in
set_option maxRecDepth 100000 in
theorem bo_comb_div (v : Nat) (na nb : Int) (a b : En) (ha : EnOk a) (hb : EnOk b) (w : World) :
    Calls Tryd.prog 73 #[.agg #[.int .i64 4, .float .f64 v, .int .i64 na, .int .i64 nb], entV a, entV b] w fun e w' => e = .returned (entV ⟨a.u + b.l, a.l + b.u, a.ok && b.ok⟩) ∧ Only [] w w' := by
  have S0 := Lib.hid (EnB.new w 4 v na nb a b)
  have n0 := S0.out.bn.cell 0
  have n1 := S0.out.bn.cell 1
  have a0 := S0.out.b0.cell 0
  have a1 := S0.out.b0.cell 1
  have a2 := S0.out.b0.cell 2
  have b0 := S0.out.b1.cell 0
  have b1 := S0.out.b1.cell 1
  have b2 := S0.out.b1.cell 2
  have c0 := S0.out.b2.cell 0
  have c1 := S0.out.b2.cell 1
  have c2 := S0.out.b2.cell 2
  have f0 := S0.out.b2.frozen 0
  have f1 := S0.out.b2.frozen 1
  have f2 := S0.out.b2.frozen 2
  simp only [List.getElem?_cons_zero, List.getElem?_cons_succ] at n0 n1 a0 a1 a2 b0 b1 b2 c0 c1 c2
  obtain ⟨au, al, aok⟩ := a
  obtain ⟨bu, bl, bok⟩ := b
  unfold EnOk at ha hb
  simp only [topB_val] at ha hb
  simp only at *
  have h1 : IntKind.i64.wrap (au + bl) = au + bl := wrap_i64 (by omega)
  have h2 : IntKind.i64.wrap (al + bu) = al + bu := wrap_i64 (by omega)
  clear ha hb
  cases aok
  · skip
    go_enter Tryd.func73, Tryd.ntmps73
    go_wp2_with fail
    refine bodyPost_ret (v := .agg #[.int .i64 (au + bl), .int .i64 (al + bu), .bool false]) (by simp [results, Tryd.results73, go_sem, c0, c1, c2]) rfl ⟨?_, ?_⟩
    · first | rfl | (rw [HE.out])
    · first
        | exact ((((Only.refl [] w).alloc _).alloc _).alloc _).alloc _
        | (have ho := S0.out.ho
           exact ((ho.setCell (.inr (by show w.heap.size ≤ w.heap.size + 1 + 1 + 1; omega)) _).setCell (.inr (by show w.heap.size ≤ w.heap.size + 1 + 1 + 1; omega)) _).setCell (.inr (by show w.heap.size ≤ w.heap.size + 1 + 1 + 1; omega)) _)
  · skip
    go_enter Tryd.func73, Tryd.ntmps73
    go_wp2_with fail
    refine bodyPost_ret (v := .agg #[.int .i64 (au + bl), .int .i64 (al + bu), .bool bok]) (by simp [results, Tryd.results73, go_sem, c0, c1, c2]) rfl ⟨?_, ?_⟩
    · first | rfl | (rw [HE.out])
    · first
        | exact ((((Only.refl [] w).alloc _).alloc _).alloc _).alloc _
        | (have ho := S0.out.ho
           exact ((ho.setCell (.inr (by show w.heap.size ≤ w.heap.size + 1 + 1 + 1; omega)) _).setCell (.inr (by show w.heap.size ≤ w.heap.size + 1 + 1 + 1; omega)) _).setCell (.inr (by show w.heap.size ≤ w.heap.size + 1 + 1 + 1; omega)) _)
set_option maxHeartbeats 1600000 in
set_option maxRecDepth 100000 in
theorem bo_comb_root (v : Nat) (na nb : Int) (a b : En) (ha : EnOk a) (w : World) :
    Calls Tryd.prog 73 #[.agg #[.int .i64 5, .float .f64 v, .int .i64 na, .int .i64 nb], entV a, entV b] w fun e w' => e = .returned (entV (if a.l ≤ a.u then ⟨(a.u + a.l + 1) / 2, a.l, a.ok⟩ else ⟨a.u, (a.u + a.l + 1) / 2, a.ok⟩)) ∧ Only [] w w' := by
  have S0 := Lib.hid (EnB.new w 5 v na nb a b)
  have n0 := S0.out.bn.cell 0
  have n1 := S0.out.bn.cell 1
  have a0 := S0.out.b0.cell 0
  have a1 := S0.out.b0.cell 1
  have a2 := S0.out.b0.cell 2
  have b0 := S0.out.b1.cell 0
  have b1 := S0.out.b1.cell 1
  have b2 := S0.out.b1.cell 2
  have c0 := S0.out.b2.cell 0
  have c1 := S0.out.b2.cell 1
  have c2 := S0.out.b2.cell 2
  have f0 := S0.out.b2.frozen 0
  have f1 := S0.out.b2.frozen 1
  have f2 := S0.out.b2.frozen 2
  simp only [List.getElem?_cons_zero, List.getElem?_cons_succ] at n0 n1 a0 a1 a2 b0 b1 b2 c0 c1 c2
  obtain ⟨au, al, aok⟩ := a
  obtain ⟨bu, bl, bok⟩ := b
  unfold EnOk at ha
  simp only [topB_val] at ha
  simp only at *
  have h1 : IntKind.i64.wrap (au + al) = au + al := wrap_i64 (by omega)
  have h2 : IntKind.i64.wrap (au + al + 1) = au + al + 1 := wrap_i64 (by omega)
  obtain ⟨m, hm⟩ : ∃ m, (au + al + 1) / 2 = m := ⟨_, rfl⟩
  have h3 : (au + al + 1).tdiv 2 = m := by rw [Int.tdiv_eq_ediv_of_nonneg (by omega), hm]
  have h4 : IntKind.i64.wrap m = m := wrap_i64 (by omega)
  rw [hm]
  by_cases hle : al ≤ au
  · have HE : Hid ((if al ≤ au then (⟨m, al, aok⟩ : En) else ⟨au, m, aok⟩) = ⟨m, al, aok⟩) := if_pos hle
    clear ha hm
    cases aok
    · skip
      go_enter Tryd.func73, Tryd.ntmps73
      go_wp2_with fail
      refine bodyPost_ret (v := .agg #[.int .i64 m, .int .i64 al, .bool false]) (by simp [results, Tryd.results73, go_sem, c0, c1, c2]) rfl ⟨?_, ?_⟩
      · first | rfl | (rw [HE.out])
      · first
          | exact ((((Only.refl [] w).alloc _).alloc _).alloc _).alloc _
          | (have ho := S0.out.ho
             exact ((ho.setCell (.inr (by show w.heap.size ≤ w.heap.size + 1 + 1 + 1; omega)) _).setCell (.inr (by show w.heap.size ≤ w.heap.size + 1 + 1 + 1; omega)) _).setCell (.inr (by show w.heap.size ≤ w.heap.size + 1 + 1 + 1; omega)) _)
    · skip
      go_enter Tryd.func73, Tryd.ntmps73
      go_wp2_with fail
      refine bodyPost_ret (v := .agg #[.int .i64 m, .int .i64 al, .bool true]) (by simp [results, Tryd.results73, go_sem, c0, c1, c2]) rfl ⟨?_, ?_⟩
      · first | rfl | (rw [HE.out])
      · first
          | exact ((((Only.refl [] w).alloc _).alloc _).alloc _).alloc _
          | (have ho := S0.out.ho
             exact ((ho.setCell (.inr (by show w.heap.size ≤ w.heap.size + 1 + 1 + 1; omega)) _).setCell (.inr (by show w.heap.size ≤ w.heap.size + 1 + 1 + 1; omega)) _).setCell (.inr (by show w.heap.size ≤ w.heap.size + 1 + 1 + 1; omega)) _)
  · have HE : Hid ((if al ≤ au then (⟨m, al, aok⟩ : En) else ⟨au, m, aok⟩) = ⟨au, m, aok⟩) := if_neg hle
    clear ha hm
    cases aok
    · skip
      go_enter Tryd.func73, Tryd.ntmps73
      go_wp2_with fail
      refine bodyPost_ret (v := .agg #[.int .i64 au, .int .i64 m, .bool false]) (by simp [results, Tryd.results73, go_sem, c0, c1, c2]) rfl ⟨?_, ?_⟩
      · first | rfl | (rw [HE.out])
      · first
          | exact ((((Only.refl [] w).alloc _).alloc _).alloc _).alloc _
          | (have ho := S0.out.ho
             exact ((ho.setCell (.inr (by show w.heap.size ≤ w.heap.size + 1 + 1 + 1; omega)) _).setCell (.inr (by show w.heap.size ≤ w.heap.size + 1 + 1 + 1; omega)) _).setCell (.inr (by show w.heap.size ≤ w.heap.size + 1 + 1 + 1; omega)) _)
    · skip
      go_enter Tryd.func73, Tryd.ntmps73
      go_wp2_with fail
      refine bodyPost_ret (v := .agg #[.int .i64 au, .int .i64 m, .bool true]) (by simp [results, Tryd.results73, go_sem, c0, c1, c2]) rfl ⟨?_, ?_⟩
      · first | rfl | (rw [HE.out])
      · first
          | exact ((((Only.refl [] w).alloc _).alloc _).alloc _).alloc _
          | (have ho := S0.out.ho
             exact ((ho.setCell (.inr (by show w.heap.size ≤ w.heap.size + 1 + 1 + 1; omega)) _).setCell (.inr (by show w.heap.size ≤ w.heap.size + 1 + 1 + 1; omega)) _).setCell (.inr (by show w.heap.size ≤ w.heap.size + 1 + 1 + 1; omega)) _)
end Go.Proofs.YtigpnopeacicpaaDoor

/-
  A map from ints to values of any type that the call has made, as a function of its keys, with its exact size.
-/
namespace Go.Proofs.YtigpnopeacicpaaDoor
open Go.RowKit Go.Maps

/-- Each value reads as itself. -/
def selfV (v : Value) : Option (DataW Value × List MemPlace) := some (.held v, [])
/-- Block b is a map of n entries; f k is what key k has. -/
def MapV (w : World) (b n : Nat) (f : Int → Option Value) : Prop :=
  ∃ D : DataW Value, w.ownsMap Tryd.prog 3 selfV b n D ∧ Maps.size D = n ∧ (∀ kl, Maps.has D kl = true → ∃ k, Small k ∧ kl = .int .i64 k) ∧ ∀ k, Small k → Maps.has D (.int .i64 k) = (f k).isSome ∧ ∀ z, D.atKey (.int .i64 k) (.held z) = .held ((f k).getD z)
section
variable {w w' : World} {b n : Nat} {f : Int → Option Value} {k : Int} {v z : Value} {M E : TypeId}
theorem MapV.lt (h : MapV w b n f) : b < w.heap.size := by
  obtain ⟨D, h1, _⟩ := h
  exact h1.lt
theorem MapV.obj (h : MapV w b n f) : ∃ es clock, w.heap[b]? = some (.map es clock) := by
  obtain ⟨D, ⟨es, clock, h1, _⟩, _⟩ := h
  exact ⟨es, clock, h1⟩
theorem MapV.only {S : List Nat} (h : MapV w b n f) (ho : Only S w w') (hb : b ∉ S) : MapV w' b n f := by
  obtain ⟨D, ⟨es, clock, h1, h2⟩, h3⟩ := h
  exact ⟨D, ⟨es, clock, ho.heap h1 hb, h2⟩, h3⟩
theorem MapV.made (w : World) : MapV (w.alloc (.map #[] 0)) w.heap.size 0 (fun _ => none) :=
  ⟨.map [], World.ownsMap_made w _ _ _, rfl, fun kl h => (by simp [Maps.has] at h), fun _ _ => ⟨rfl, fun _ => rfl⟩⟩
theorem MapV.look (h : MapV w b n f) (hM : Tryd.prog.underlying M = some (.map 3 E)) (hz : (zeroValue E).run Tryd.prog w = .ok z w) (hk : Small k) : (Instr.lookup M (.map (some b)) (.int .i64 k) false).run Tryd.prog w = .ok ((f k).getD z) w := by
  obtain ⟨D, h1, _, _, h2⟩ := h
  obtain ⟨v, ps, hr, hv⟩ := h1.lookup (int_keyed Tryd.underlying3) hM hz (zd := .held z) (zp := []) rfl (keyOf_int_mk Tryd.underlying3 hk.wf)
  rw [(h2 k hk).2 z] at hv
  simp only [selfV, Option.some.injEq, Prod.mk.injEq, DataW.held.injEq] at hv
  rw [hr, hv.1]
theorem MapV.look_ok (h : MapV w b n f) (hM : Tryd.prog.underlying M = some (.map 3 E)) (hz : (zeroValue E).run Tryd.prog w = .ok z w) (hk : Small k) : (Instr.lookup M (.map (some b)) (.int .i64 k) true).run Tryd.prog w = .ok (.tuple #[(f k).getD z, .bool (f k).isSome]) w := by
  obtain ⟨D, h1, _, _, h2⟩ := h
  obtain ⟨v, ps, hr, hv⟩ := h1.look_ok (int_keyed Tryd.underlying3) hM hz (zd := .held z) (zp := []) rfl (keyOf_int_mk Tryd.underlying3 hk.wf)
  rw [(h2 k hk).2 z] at hv
  simp only [selfV, Option.some.injEq, Prod.mk.injEq, DataW.held.injEq] at hv
  rw [hr, (h2 k hk).1, hv.1]
theorem MapV.len (h : MapV w b n f) (hM : Tryd.prog.underlying M = some (.map 3 E)) (ty : TypeId) : (Builtin.len_ #[M] ty #[.map (some b)]).run Tryd.prog w = .ok (.int .i64 n) w := by
  obtain ⟨D, h1, h2, _⟩ := h
  rw [h1.len hM, h2]
theorem MapV.store (h : MapV w b n f) (hM : Tryd.prog.underlying M = some (.map 3 E)) (hn : n < 1000000) (hk : Small k) (v : Value) :
    ∃ w', (Instr.mapUpdate M (.map (some b)) (.int .i64 k) v).run Tryd.prog w = .ok () w' ∧ MapV w' b (if (f k).isSome then n else n + 1) (fun x => if x = k then some v else f x) ∧ Only [b] w w' := by
  obtain ⟨D, h1, h0, hK, h2⟩ := h
  obtain ⟨w', hr, ho, hg⟩ := h1.update (int_keyed Tryd.underlying3) hM (by simp only [maxLen]; omega) (keyOf_int_mk Tryd.underlying3 hk.wf) (val := v) (d := .held v) (ps := []) rfl
  have ht : Tidy D := h1.tidy (int_keyed Tryd.underlying3)
  have hs : Maps.size (D.put (.int .i64 k) (.held v)) = if (f k).isSome then n else n + 1 := by
    rw [size_put ht, (h2 k hk).1, h0]
  refine ⟨w', hr, ⟨_, ?_, hs, fun kl hkl => ?_, fun x hx => ?_⟩, Only.of_grown hg (by simp)⟩
  · rw [← hs]
    obtain ⟨es, clock, q1, q2, q3, q4⟩ := ho
    refine ⟨es, clock, q1, q2, ?_, q4⟩
    rw [q4]
    simp [Maps.size, length_sorted]
  · by_cases e : kl = .int .i64 k
    · exact ⟨k, hk, e⟩
    · rw [has_put_other e] at hkl
      exact hK kl hkl
  · show _ = (if x = k then some v else f x).isSome ∧ ∀ z, _ = DataW.held ((if x = k then some v else f x).getD z)
    by_cases e : x = k
    · subst e
      have hD := h1.isMap
      rw [if_pos rfl]
      exact ⟨by rw [has_put_same hD (by trivial)]; rfl, fun z => by rw [atKey_put_same hD (by trivial)]; rfl⟩
    · rw [if_neg e]
      have hne : Lit.int .i64 x ≠ Lit.int .i64 k := fun h => e (by injection h)
      exact ⟨by rw [has_put_other hne]; exact (h2 x hx).1, fun z => by rw [atKey_put_other hne]; exact (h2 x hx).2 z⟩
end
end Go.Proofs.YtigpnopeacicpaaDoor

/-
  compasslaw10.Load: a dag of nodes that are right, each its own.
-/
namespace Go.Proofs.YtigpnopeacicpaaDoor
open Go.RowKit
attribute [local go_sem] run_store_float

def idsN (n : Nat) : List Int := (List.range n).map fun (i : Nat) => (i : Int)
theorem idsN_succ (n : Nat) : idsN (n + 1) = idsN n ++ [(n : Int)] := by simp [idsN, List.range_succ]
theorem idsN_get (n i : Nat) (h : i < n) : (idsN n)[i]?.getD 0 = (i : Int) := by simp [idsN, h]
theorem reNd_ids {k : Nat} {n : Nd} (hn : takesB k n.k n.f n.a n.b = true) : reNd (idsN k) n = n := by
  obtain ⟨nk, nf, na, nb⟩ := n
  simp only at hn
  have hfine := fine_of _ _ _ _ _ hn
  unfold Fine at hfine
  have e : ∀ x : Int, 0 ≤ x → x < (k : Int) → (idsN k)[x.toNat]?.getD 0 = x := fun x h0 h1 => by
    rw [idsN_get _ _ (by omega)]
    omega
  rcases hfine with ⟨hv, h0, hf⟩ | ⟨hv, h5, ha⟩ | ⟨hv, h0, h5, ha, hb⟩
  · simp [reNd, h0]
  · simp only [validB, decide_eq_true_eq] at hv
    simp only [reNd, h5]
    rw [e na (by omega) (by omega)]
    simp
  · simp only [validB, decide_eq_true_eq] at hv
    simp only [reNd]
    rw [if_neg h0, if_neg (by omega), e na (by omega) (by omega), e nb (by omega) (by omega)]
theorem ld_none {L : List Nd} (hok : AllOk L) : ∀ k, k ≤ L.length → ld none (L.take k) = (L.take k, idsN k)
  | 0, _ => by simp [ld, idsN]
  | k + 1, h => by
    have ho : takesB k (L[k]?.getD nd0).k (L[k]?.getD nd0).f (L[k]?.getD nd0).a (L[k]?.getD nd0).b = true := hok k (by omega)
    rw [ld_take none L (by omega), ld_none hok k (by omega), ldStep, reNd_ids ho]
    have hl : (L.take k).length = k := by rw [List.length_take]; omega
    have e : L.take (k + 1) = L.take k ++ [L[k]?.getD nd0] := by
      rw [List.take_succ_eq_append_getElem (by omega), List.getElem?_eq_getElem (by omega)]
      rfl
    simp only [putNs, putId, hl, ho, if_true, ne_eq, not_true_eq_false, false_and, if_false]
    rw [e, idsN_succ]
theorem ok_dag {L : List Nd} (hok : AllOk L) : OkDag L := by
  intro x h0 h1 c hc
  have h := hok x.toNat (by omega)
  unfold okB at h
  have hfine := fine_of _ _ _ _ _ h
  have hn : nodeAt L x = L[x.toNat]?.getD nd0 := rfl
  rw [hn] at hc
  generalize L[x.toNat]?.getD nd0 = n at hfine hc
  unfold Fine at hfine
  unfold kids at hc
  rcases hfine with ⟨hv, h0', hf⟩ | ⟨hv, h5, ha⟩ | ⟨hv, h0', h5, ha, hb⟩
  · rw [if_pos h0'] at hc
    simp at hc
  · simp only [validB, decide_eq_true_eq] at hv
    rw [if_neg (by omega), if_pos h5] at hc
    have : c = n.a := by simpa using hc
    omega
  · simp only [validB, decide_eq_true_eq] at hv
    rw [if_neg h0', if_neg h5] at hc
    have : c = n.a ∨ c = n.b := by simpa using hc
    omega

def L10 (L : List Nd) (w : World) (e : Ending) (w' : World) : Prop := ∃ d v, e = .returned (.pointer (some ⟨d, 0, none⟩)) ∧ Own w w' d v none L

set_option maxHeartbeats 1600000 in
theorem load10_any (A : Option Addr) (c : Nat) (L : List Nd) (w : World) (hA : Hid (NRead w A L)) (hf : Hid (∀ k, k < L.length → (L[k]?.getD nd0).f < 2 ^ 64)) (hl : (L.length : Int) ≤ 1000) (hok : Hid (AllOk L)) :
    Calls Tryd.prog 8 #[.slice A L.length c] w (L10 L w) := by
  go_enter Tryd.func8, Tryd.ntmps8
  go_wp2_with fail
  refine (load_good false A c L w hA hf hl hok).mono ?_
  rintro e w1 ⟨d, r, v, u, rfl, hr, hrel⟩
  obtain rfl : r = none := hr.2 rfl
  have e1 : ld none L = (L, idsN L.length) := by
    have := ld_none hok.out L.length (Nat.le_refl _)
    rwa [List.take_length] at this
  rw [e1] at hrel
  have HOwn := Lib.hid hrel.own
  have hids := hrel.ids
  simp only at hids
  obtain ⟨Au, cu, rfl, hread⟩ := hids.shape
  have hlen : (idsN L.length).length = L.length := by simp [idsN]
  have HR := Lib.hid hread
  clear hrel hread hids hr
  rw [hlen]
  have HLen := Lib.hid hlen
  clear hlen e1
  go_wp2_with fail
  go_loopw [6] (fun i wr => ∃ k : Nat, k ≤ L.length ∧ i = .int .i64 (k : Int) ∧ Only [] w1 wr) (fun i _ => L.length - (intOf i).toNat)
  case atStart => exact ⟨0, Nat.zero_le _, rfl, Only.refl _ _⟩
  case round =>
    obtain ⟨k, hk, rfl, ho⟩ := hrel
    have Ho := Lib.hid ho
    clear ho
    by_cases hlt : k < L.length
    · obtain ⟨b, o, rfl, h1⟩ := HR.out k (by rw [HLen.out]; exact hlt)
      rw [idsN_get _ _ hlt] at h1
      have p0 := Ho.out.cell h1 (by simp)
      clear h1
      have hk' : (k : Int) < (L.length : Int) := by omega
      go_wp2_with fail
      go_roundw
      case rel => exact ⟨k + 1, by omega, by go_num, Ho.out⟩
      case measure => simp [intOf]; omega
    · have hnl : ¬ (k : Int) < (L.length : Int) := by omega
      go_wp2_with fail
      go_ret
      exact ⟨d, v, rfl, HOwn.out.other Ho.out (by simp) (by simp)⟩

end Go.Proofs.YtigpnopeacicpaaDoor

/-
  bound.combine of any node; bound.entries.
-/
namespace Go.Proofs.YtigpnopeacicpaaDoor
set_option linter.unusedSimpArgs false
open Go.RowKit
attribute [local go_sem] run_store_float

/-- The dyad of a word. -/
def dyW (v : Nat) : Dy := Fl.fD (decide (9223372036854775808 ≤ v)) (v % 9223372036854775808)
/-- What is known of a leaf. -/
def lfB (v : Nat) : En := if finB v = true ∧ v < 18446744073709551616 then leafE (dyW v) else ⟨0, 0, true⟩
theorem fin_word2 {v : Nat} (h : finB v = true) (hv : v < 18446744073709551616) : v % 9223372036854775808 < Fl.INF ∧ Fl.wordB (decide (9223372036854775808 ≤ v)) (v % 9223372036854775808) = v := by
  have hr : v % 9223372036854775808 < 9223372036854775808 := Nat.mod_lt _ (by decide)
  have hw : Fl.wordB (decide (9223372036854775808 ≤ v)) (v % 9223372036854775808) = v := by
    unfold Fl.wordB
    by_cases h : 9223372036854775808 ≤ v
    · rw [decide_eq_true h, if_pos rfl]; omega
    · rw [decide_eq_false h, if_neg (by decide)]; omega
  refine ⟨?_, hw⟩
  have h2 := Fl.fin_word (decide (9223372036854775808 ≤ v)) hr
  rw [hw] at h2
  have h3 : Fl.finB v = finB v := rfl
  rw [h3, h] at h2
  simpa using h2.symm
theorem dyW_bnd {v : Nat} (h : finB v = true) (hv : v < 18446744073709551616) : Bnd 3000 (dyW v) := by
  have h1 := (fin_word2 h hv).1
  unfold dyW Fl.fD
  generalize v % 9223372036854775808 = r at h1
  have hI := Fl.inf_val
  have hm := Fl.mant_lt r
  have he : Fl.expoW r ≤ 2046 := by unfold Fl.expoW; omega
  refine bnd_nrm (K := 53) (M := 1100) ?_ (by omega) (by omega) (by omega)
  have : (sg (decide (9223372036854775808 ≤ v)) (Fl.mantW r)).natAbs = Fl.mantW r := sg_abs _ _
  rw [this]
  omega
theorem lfB_ok : LfOk lfB := by
  intro v
  unfold lfB
  split
  · rename_i h
    have := leafE_ok (dyW_bnd h.1 h.2)
    omega
  · dsimp only; omega
theorem lfB_whole (v : Nat) : (lfB v).ok = true := by
  unfold lfB
  split
  · unfold leafE
    split <;> rfl
  · rfl
theorem leaf_word (v : Nat) (h : finB v = true) (hv : v < 18446744073709551616) (w : World) (hT : Hid (Tab6 w)) : Calls Tryd.prog 104 #[.float .f64 v] w fun e w' => e = .returned (entV (lfB v)) ∧ Only [] w w' := by
  have e : lfB v = leafE (dyW v) := if_pos ⟨h, hv⟩
  rw [e]
  obtain ⟨h1, h2⟩ := fin_word2 h hv
  exact bo_leaf v (dyW v) (fun W hW => Fl.fl_dyadV v _ (dyW v) h1 h2 rfl W hW) (dyW_bnd h hv) w hT
/-- A node as it should be: of a kind that there is, a leaf of a finite word. -/
def NodeOk (n : Nd) : Prop := (n.k = 0 ∨ n.k = 1 ∨ n.k = 2 ∨ n.k = 3 ∨ n.k = 4 ∨ n.k = 5) ∧ (n.k = 0 → finB n.f = true ∧ n.f < 18446744073709551616)
theorem comb_any (n : Nd) (hn : NodeOk n) (a b : En) (ha : EnOk a) (hb : EnOk b) (w : World) (hT : Hid (Tab6 w)) :
    Calls Tryd.prog 73 #[n.val, entV a, entV b] w fun e w' => e = .returned (entV (combE lfB n a b)) ∧ Only [] w w' := by
  obtain ⟨k, f, na, nb⟩ := n
  obtain ⟨hk, hf⟩ := hn
  simp only at hk hf
  rcases hk with rfl | rfl | rfl | rfl | rfl | rfl
  · exact bo_comb_leaf f na nb a b (lfB f) w (fun w' ho => leaf_word f (hf rfl).1 (hf rfl).2 w' (Lib.hid (hT.out.keep ho)))
  · exact bo_comb_add 1 (.inl rfl) f na nb a b ha hb w
  · exact bo_comb_add 2 (.inr rfl) f na nb a b ha hb w
  · exact bo_comb_mul f na nb a b ha hb w
  · exact bo_comb_div f na nb a b ha hb w
  · have e : combE lfB ⟨5, f, na, nb⟩ a b = if a.l ≤ a.u then ⟨(a.u + a.l + 1) / 2, a.l, a.ok⟩ else ⟨a.u, (a.u + a.l + 1) / 2, a.ok⟩ := rfl
    rw [e]
    exact bo_comb_root f na nb a b ha w

/-- Entries at hand: those of P. -/
def mapE (ns : List Nd) (P : List Int) : Int → Option Value := fun y => if y ∈ P then some (entV (ent lfB ns y)) else none
def atE (ns : List Nd) (P : List Int) (y : Int) : En := if y ∈ P then ent lfB ns y else en0
theorem mapE_get (ns : List Nd) (P : List Int) (y : Int) : (mapE ns P y).getD (entV en0) = entV (atE ns P y) := by
  unfold mapE atE
  split <;> rfl
theorem atE_ok (ns : List Nd) (P : List Int) (y : Int) : EnOk (atE ns P y) := by
  unfold atE
  split
  · exact ent_ok lfB_ok ns y
  · exact en0_ok
theorem mapE_next (ns : List Nd) (P P' : List Int) (x : Int) (hP : ∀ y, y ∈ P' ↔ y ∈ P ∨ y = x) : (fun y => if y = x then some (entV (ent lfB ns x)) else mapE ns P y) = mapE ns P' := by
  funext y
  unfold mapE
  by_cases e : y = x
  · subst e
    rw [if_pos rfl, if_pos ((hP y).2 (.inr rfl))]
  · rw [if_neg e]
    by_cases h : y ∈ P
    · rw [if_pos h, if_pos ((hP y).2 (.inl h))]
    · rw [if_neg h, if_neg (fun h2 => by rcases (hP y).1 h2 with h3 | h3; exact h h3; exact e h3)]
theorem zeroEnt (w : World) : (zeroValue 83).run Tryd.prog w = .ok (entV en0) w := by kernel_rfl
theorem belowL_kids {ns : List Nd} (ok : OkDag ns) {R : Int → Prop} {x c : Int} (hx : x ∈ belowL ns R) (hc : c ∈ kids (nodeAt ns x)) : c ∈ belowL ns R :=
  (mem_belowL ok).2 (.kid x c ((mem_belowL ok).1 hx) hc)
/-- What combine is handed is what is known. -/
theorem comb_at {ns : List Nd} (ok : OkDag ns) (hk : KindOk ns) {R : Int → Prop} {k a : Nat} (hlt : k < (belowL ns R).length) (ha : (belowL ns R)[k]?.getD 0 = (a : Int)) (han : a < ns.length) :
    clipE (combE lfB (nodeAt ns (a : Int)) (atE ns ((belowL ns R).take k) (nodeAt ns (a : Int)).a) (atE ns ((belowL ns R).take k) (nodeAt ns (a : Int)).b)) = ent lfB ns (a : Int) := by
  rw [ent_eq lfB ok hk han]
  congr 1
  have hmem : (a : Int) ∈ belowL ns R := by
    rw [← ha, List.getElem?_eq_getElem hlt]
    exact List.getElem_mem hlt
  have key : ∀ c ∈ kids (nodeAt ns (a : Int)), atE ns ((belowL ns R).take k) c = ent lfB ns c := by
    intro c hc
    unfold atE
    rw [if_pos]
    have h1 := belowL_kids ok hmem hc
    obtain ⟨j, hj, e⟩ := List.getElem_of_mem h1
    have h2 := ok (a : Int) (by omega) (by omega) c hc
    have h3 : j < k := by
      rcases Nat.lt_or_ge j k with h | h
      · exact h
      · exfalso
        rw [List.getElem?_eq_getElem hlt, Option.getD_some] at ha
        by_cases e2 : j = k
        · subst e2; omega
        · have := (List.pairwise_iff_getElem.1 (belowL_asc ns R)) k j hlt hj (by omega)
          omega
    rw [List.mem_take_iff_getElem]
    exact ⟨j, by omega, e⟩
  exact combE_congr lfB _ (fun h0 => key _ (by unfold kids; rw [if_neg h0]; split <;> simp)) (fun h0 h5 => key _ (by unfold kids; rw [if_neg h0, if_neg h5]; simp)) (hk a han)
end Go.Proofs.YtigpnopeacicpaaDoor
