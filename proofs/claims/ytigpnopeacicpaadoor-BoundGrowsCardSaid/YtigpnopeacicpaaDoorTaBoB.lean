/-
  bound.combine, of each kind of node.
-/
import Derived.Test.YtigpnopeacicpaaDoorTaBoA
namespace Go.Proofs.YtigpnopeacicpaaDoor
set_option linter.unusedSimpArgs false
open Go.RowKit
attribute [local go_sem] run_store_float

/-- The boxes of combine. -/
structure EnB (w w' : World) (nk : Int) (nf : Nat) (na nb : Int) (a b : En) : Prop where
  ho : Only [] w w'
  bn : Blk w' w.heap.size 31 [.int .i64 nk, .float .f64 nf, .int .i64 na, .int .i64 nb]
  b0 : Blk w' (w.heap.size + 1) 83 [.int .i64 a.u, .int .i64 a.l, .bool a.ok]
  b1 : Blk w' (w.heap.size + 1 + 1) 83 [.int .i64 b.u, .int .i64 b.l, .bool b.ok]
  b2 : Blk w' (w.heap.size + 1 + 1 + 1) 83 [.int .i64 0, .int .i64 0, .bool false]
section
variable {w w' w'' : World} {nk : Int} {nf : Nat} {na nb : Int} {a b : En}
theorem EnB.only (h : EnB w w' nk nf na nb a b) (ho : Only [] w' w'') : EnB w w'' nk nf na nb a b := ⟨h.ho.nil_trans ho, h.bn.only ho (by simp), h.b0.only ho (by simp), h.b1.only ho (by simp), h.b2.only ho (by simp)⟩
theorem EnB.new (w : World) (nk : Int) (nf : Nat) (na nb : Int) (a b : En) : EnB w ((((w.alloc (.cells #[.int .i64 nk, .float .f64 nf, .int .i64 na, .int .i64 nb] 31)).alloc (.cells #[.int .i64 a.u, .int .i64 a.l, .bool a.ok] 83)).alloc (.cells #[.int .i64 b.u, .int .i64 b.l, .bool b.ok] 83)).alloc (.cells #[.int .i64 0, .int .i64 0, .bool false] 83)) nk nf na nb a b := by
  have h0 := Blk.new w 31 [.int .i64 nk, .float .f64 nf, .int .i64 na, .int .i64 nb]
  have h1 := Blk.new (w.alloc (.cells #[.int .i64 nk, .float .f64 nf, .int .i64 na, .int .i64 nb] 31)) 83 [.int .i64 a.u, .int .i64 a.l, .bool a.ok]
  rw [World.size_alloc] at h1
  have h2 := Blk.new ((w.alloc (.cells #[.int .i64 nk, .float .f64 nf, .int .i64 na, .int .i64 nb] 31)).alloc (.cells #[.int .i64 a.u, .int .i64 a.l, .bool a.ok] 83)) 83 [.int .i64 b.u, .int .i64 b.l, .bool b.ok]
  rw [World.size_alloc, World.size_alloc] at h2
  have h3 := Blk.new (((w.alloc (.cells #[.int .i64 nk, .float .f64 nf, .int .i64 na, .int .i64 nb] 31)).alloc (.cells #[.int .i64 a.u, .int .i64 a.l, .bool a.ok] 83)).alloc (.cells #[.int .i64 b.u, .int .i64 b.l, .bool b.ok] 83)) 83 [.int .i64 0, .int .i64 0, .bool false]
  rw [World.size_alloc, World.size_alloc, World.size_alloc] at h3
  exact ⟨((((Only.refl [] w).alloc _).alloc _).alloc _).alloc _, ((h0.alloc _).alloc _).alloc _, (h1.alloc _).alloc _, h2.alloc _, h3⟩
end
set_option maxHeartbeats 1600000 in
set_option maxRecDepth 100000 in
theorem bo_comb_leaf (v : Nat) (na nb : Int) (a b e0 : En) (w : World) (hA : Hid (∀ w' : World, Only [] w w' → Calls Tryd.prog 104 #[.float .f64 v] w' fun e w'' => e = .returned (entV e0) ∧ Only [] w' w'')) :
    Calls Tryd.prog 73 #[.agg #[.int .i64 0, .float .f64 v, .int .i64 na, .int .i64 nb], entV a, entV b] w fun e w' => e = .returned (entV e0) ∧ Only [] w w' := by
  have S0 := Lib.hid (EnB.new w 0 v na nb a b)
  have n0 := S0.out.bn.cell 0
  have n1 := S0.out.bn.cell 1
  have a0 := S0.out.b0.cell 0
  have a1 := S0.out.b0.cell 1
  have a2 := S0.out.b0.cell 2
  have b0 := S0.out.b1.cell 0
  have b1 := S0.out.b1.cell 1
  have b2 := S0.out.b1.cell 2
  have c0 := S0.out.b2.cell 0
  have c1 := S0.out.b2.cell 1
  have c2 := S0.out.b2.cell 2
  have f0 := S0.out.b2.frozen 0
  have f1 := S0.out.b2.frozen 1
  have f2 := S0.out.b2.frozen 2
  simp only [List.getElem?_cons_zero, List.getElem?_cons_succ] at n0 n1 a0 a1 a2 b0 b1 b2 c0 c1 c2
  obtain ⟨au, al, aok⟩ := a
  obtain ⟨bu, bl, bok⟩ := b
  simp only at *
  cases aok
  · skip
    go_enter Tryd.func73, Tryd.ntmps73
    go_wp2_with fail
    refine (hA.out _ S0.out.ho).mono ?_
    rintro e w2 ⟨rfl, ho2⟩
    replace S0 := Lib.hid (S0.out.only ho2)
    clear n0 n1 a0 a1 a2 b0 b1 b2 c0 c1 c2 f0 f1 f2 ho2
    have c0 := S0.out.b2.cell 0
    have c1 := S0.out.b2.cell 1
    have c2 := S0.out.b2.cell 2
    have f0 := S0.out.b2.frozen 0
    have f1 := S0.out.b2.frozen 1
    have f2 := S0.out.b2.frozen 2
    simp only [List.getElem?_cons_zero, List.getElem?_cons_succ] at c0 c1 c2
    go_wp2_with fail
    refine bodyPost_ret (v := .agg #[.int .i64 e0.u, .int .i64 e0.l, .bool e0.ok]) (by simp [results, Tryd.results73, go_sem, c0, c1, c2]) rfl ⟨?_, ?_⟩
    · first | rfl | (rw [HE.out])
    · first
        | exact ((((Only.refl [] w).alloc _).alloc _).alloc _).alloc _
        | (have ho := S0.out.ho
           exact ((ho.setCell (.inr (by show w.heap.size ≤ w.heap.size + 1 + 1 + 1; omega)) _).setCell (.inr (by show w.heap.size ≤ w.heap.size + 1 + 1 + 1; omega)) _).setCell (.inr (by show w.heap.size ≤ w.heap.size + 1 + 1 + 1; omega)) _)
  · skip
    go_enter Tryd.func73, Tryd.ntmps73
    go_wp2_with fail
    refine (hA.out _ S0.out.ho).mono ?_
    rintro e w2 ⟨rfl, ho2⟩
    replace S0 := Lib.hid (S0.out.only ho2)
    clear n0 n1 a0 a1 a2 b0 b1 b2 c0 c1 c2 f0 f1 f2 ho2
    have c0 := S0.out.b2.cell 0
    have c1 := S0.out.b2.cell 1
    have c2 := S0.out.b2.cell 2
    have f0 := S0.out.b2.frozen 0
    have f1 := S0.out.b2.frozen 1
    have f2 := S0.out.b2.frozen 2
    simp only [List.getElem?_cons_zero, List.getElem?_cons_succ] at c0 c1 c2
    go_wp2_with fail
    refine bodyPost_ret (v := .agg #[.int .i64 e0.u, .int .i64 e0.l, .bool e0.ok]) (by simp [results, Tryd.results73, go_sem, c0, c1, c2]) rfl ⟨?_, ?_⟩
    · first | rfl | (rw [HE.out])
    · first
        | exact ((((Only.refl [] w).alloc _).alloc _).alloc _).alloc _
        | (have ho := S0.out.ho
           exact ((ho.setCell (.inr (by show w.heap.size ≤ w.heap.size + 1 + 1 + 1; omega)) _).setCell (.inr (by show w.heap.size ≤ w.heap.size + 1 + 1 + 1; omega)) _).setCell (.inr (by show w.heap.size ≤ w.heap.size + 1 + 1 + 1; omega)) _)
set_option maxHeartbeats 1600000 in
set_option maxRecDepth 100000 in
theorem bo_comb_add (nk : Int) (hk : nk = 1 ∨ nk = 2) (v : Nat) (na nb : Int) (a b : En) (ha : EnOk a) (hb : EnOk b) (w : World) :
    Calls Tryd.prog 73 #[.agg #[.int .i64 nk, .float .f64 v, .int .i64 na, .int .i64 nb], entV a, entV b] w fun e w' => e = .returned (entV ⟨1 + max (a.u + b.l) (a.l + b.u), a.l + b.l, a.ok && b.ok⟩) ∧ Only [] w w' := by
  have S0 := Lib.hid (EnB.new w nk v na nb a b)
  have n0 := S0.out.bn.cell 0
  have n1 := S0.out.bn.cell 1
  have a0 := S0.out.b0.cell 0
  have a1 := S0.out.b0.cell 1
  have a2 := S0.out.b0.cell 2
  have b0 := S0.out.b1.cell 0
  have b1 := S0.out.b1.cell 1
  have b2 := S0.out.b1.cell 2
  have c0 := S0.out.b2.cell 0
  have c1 := S0.out.b2.cell 1
  have c2 := S0.out.b2.cell 2
  have f0 := S0.out.b2.frozen 0
  have f1 := S0.out.b2.frozen 1
  have f2 := S0.out.b2.frozen 2
  simp only [List.getElem?_cons_zero, List.getElem?_cons_succ] at n0 n1 a0 a1 a2 b0 b1 b2 c0 c1 c2
  obtain ⟨au, al, aok⟩ := a
  obtain ⟨bu, bl, bok⟩ := b
  unfold EnOk at ha hb
  simp only [topB_val] at ha hb
  simp only at *
  have h1 : IntKind.i64.wrap (au + bl) = au + bl := wrap_i64 (by omega)
  have h2 : IntKind.i64.wrap (al + bu) = al + bu := wrap_i64 (by omega)
  have h3 : IntKind.i64.wrap (1 + max (au + bl) (al + bu)) = 1 + max (au + bl) (al + bu) := wrap_i64 (by omega)
  have h4 : IntKind.i64.wrap (al + bl) = al + bl := wrap_i64 (by omega)
  clear ha hb
  rcases hk with rfl | rfl
  · cases aok
    · skip
      go_enter Tryd.func73, Tryd.ntmps73
      go_wp2_with fail
      refine bodyPost_ret (v := .agg #[.int .i64 (1 + max (au + bl) (al + bu)), .int .i64 (al + bl), .bool false]) (by simp [results, Tryd.results73, go_sem, c0, c1, c2]) rfl ⟨?_, ?_⟩
      · first | rfl | (rw [HE.out])
      · first
          | exact ((((Only.refl [] w).alloc _).alloc _).alloc _).alloc _
          | (have ho := S0.out.ho
             exact ((ho.setCell (.inr (by show w.heap.size ≤ w.heap.size + 1 + 1 + 1; omega)) _).setCell (.inr (by show w.heap.size ≤ w.heap.size + 1 + 1 + 1; omega)) _).setCell (.inr (by show w.heap.size ≤ w.heap.size + 1 + 1 + 1; omega)) _)
    · skip
      go_enter Tryd.func73, Tryd.ntmps73
      go_wp2_with fail
      refine bodyPost_ret (v := .agg #[.int .i64 (1 + max (au + bl) (al + bu)), .int .i64 (al + bl), .bool bok]) (by simp [results, Tryd.results73, go_sem, c0, c1, c2]) rfl ⟨?_, ?_⟩
      · first | rfl | (rw [HE.out])
      · first
          | exact ((((Only.refl [] w).alloc _).alloc _).alloc _).alloc _
          | (have ho := S0.out.ho
             exact ((ho.setCell (.inr (by show w.heap.size ≤ w.heap.size + 1 + 1 + 1; omega)) _).setCell (.inr (by show w.heap.size ≤ w.heap.size + 1 + 1 + 1; omega)) _).setCell (.inr (by show w.heap.size ≤ w.heap.size + 1 + 1 + 1; omega)) _)
  · cases aok
    · skip
      go_enter Tryd.func73, Tryd.ntmps73
      go_wp2_with fail
      refine bodyPost_ret (v := .agg #[.int .i64 (1 + max (au + bl) (al + bu)), .int .i64 (al + bl), .bool false]) (by simp [results, Tryd.results73, go_sem, c0, c1, c2]) rfl ⟨?_, ?_⟩
      · first | rfl | (rw [HE.out])
      · first
          | exact ((((Only.refl [] w).alloc _).alloc _).alloc _).alloc _
          | (have ho := S0.out.ho
             exact ((ho.setCell (.inr (by show w.heap.size ≤ w.heap.size + 1 + 1 + 1; omega)) _).setCell (.inr (by show w.heap.size ≤ w.heap.size + 1 + 1 + 1; omega)) _).setCell (.inr (by show w.heap.size ≤ w.heap.size + 1 + 1 + 1; omega)) _)
    · skip
      go_enter Tryd.func73, Tryd.ntmps73
      go_wp2_with fail
      refine bodyPost_ret (v := .agg #[.int .i64 (1 + max (au + bl) (al + bu)), .int .i64 (al + bl), .bool bok]) (by simp [results, Tryd.results73, go_sem, c0, c1, c2]) rfl ⟨?_, ?_⟩
      · first | rfl | (rw [HE.out])
      · first
          | exact ((((Only.refl [] w).alloc _).alloc _).alloc _).alloc _
          | (have ho := S0.out.ho
             exact ((ho.setCell (.inr (by show w.heap.size ≤ w.heap.size + 1 + 1 + 1; omega)) _).setCell (.inr (by show w.heap.size ≤ w.heap.size + 1 + 1 + 1; omega)) _).setCell (.inr (by show w.heap.size ≤ w.heap.size + 1 + 1 + 1; omega)) _)
set_option maxHeartbeats 1600000 in
set_option maxRecDepth 100000 in
theorem bo_comb_mul (v : Nat) (na nb : Int) (a b : En) (ha : EnOk a) (hb : EnOk b) (w : World) :
    Calls Tryd.prog 73 #[.agg #[.int .i64 3, .float .f64 v, .int .i64 na, .int .i64 nb], entV a, entV b] w fun e w' => e = .returned (entV ⟨a.u + b.u, a.l + b.l, a.ok && b.ok⟩) ∧ Only [] w w' := by
  have S0 := Lib.hid (EnB.new w 3 v na nb a b)
  have n0 := S0.out.bn.cell 0
  have n1 := S0.out.bn.cell 1
  have a0 := S0.out.b0.cell 0
  have a1 := S0.out.b0.cell 1
  have a2 := S0.out.b0.cell 2
  have b0 := S0.out.b1.cell 0
  have b1 := S0.out.b1.cell 1
  have b2 := S0.out.b1.cell 2
  have c0 := S0.out.b2.cell 0
  have c1 := S0.out.b2.cell 1
  have c2 := S0.out.b2.cell 2
  have f0 := S0.out.b2.frozen 0
  have f1 := S0.out.b2.frozen 1
  have f2 := S0.out.b2.frozen 2
  simp only [List.getElem?_cons_zero, List.getElem?_cons_succ] at n0 n1 a0 a1 a2 b0 b1 b2 c0 c1 c2
  obtain ⟨au, al, aok⟩ := a
  obtain ⟨bu, bl, bok⟩ := b
  unfold EnOk at ha hb
  simp only [topB_val] at ha hb
  simp only at *
  have h1 : IntKind.i64.wrap (au + bu) = au + bu := wrap_i64 (by omega)
  have h2 : IntKind.i64.wrap (al + bl) = al + bl := wrap_i64 (by omega)
  clear ha hb
  cases aok
  · skip
    go_enter Tryd.func73, Tryd.ntmps73
    go_wp2_with fail
    refine bodyPost_ret (v := .agg #[.int .i64 (au + bu), .int .i64 (al + bl), .bool false]) (by simp [results, Tryd.results73, go_sem, c0, c1, c2]) rfl ⟨?_, ?_⟩
    · first | rfl | (rw [HE.out])
    · first
        | exact ((((Only.refl [] w).alloc _).alloc _).alloc _).alloc _
        | (have ho := S0.out.ho
           exact ((ho.setCell (.inr (by show w.heap.size ≤ w.heap.size + 1 + 1 + 1; omega)) _).setCell (.inr (by show w.heap.size ≤ w.heap.size + 1 + 1 + 1; omega)) _).setCell (.inr (by show w.heap.size ≤ w.heap.size + 1 + 1 + 1; omega)) _)
  · skip
    go_enter Tryd.func73, Tryd.ntmps73
    go_wp2_with fail
    refine bodyPost_ret (v := .agg #[.int .i64 (au + bu), .int .i64 (al + bl), .bool bok]) (by simp [results, Tryd.results73, go_sem, c0, c1, c2]) rfl ⟨?_, ?_⟩
    · first | rfl | (rw [HE.out])
    · first
        | exact ((((Only.refl [] w).alloc _).alloc _).alloc _).alloc _
        | (have ho := S0.out.ho
           exact ((ho.setCell (.inr (by show w.heap.size ≤ w.heap.size + 1 + 1 + 1; omega)) _).setCell (.inr (by show w.heap.size ≤ w.heap.size + 1 + 1 + 1; omega)) _).setCell (.inr (by show w.heap.size ≤ w.heap.size + 1 + 1 + 1; omega)) _)
set_option maxHeartbeats 1600000 in
set_option maxRecDepth 100000 in
theorem bo_comb_div (v : Nat) (na nb : Int) (a b : En) (ha : EnOk a) (hb : EnOk b) (w : World) :
    Calls Tryd.prog 73 #[.agg #[.int .i64 4, .float .f64 v, .int .i64 na, .int .i64 nb], entV a, entV b] w fun e w' => e = .returned (entV ⟨a.u + b.l, a.l + b.u, a.ok && b.ok⟩) ∧ Only [] w w' := by
  have S0 := Lib.hid (EnB.new w 4 v na nb a b)
  have n0 := S0.out.bn.cell 0
  have n1 := S0.out.bn.cell 1
  have a0 := S0.out.b0.cell 0
  have a1 := S0.out.b0.cell 1
  have a2 := S0.out.b0.cell 2
  have b0 := S0.out.b1.cell 0
  have b1 := S0.out.b1.cell 1
  have b2 := S0.out.b1.cell 2
  have c0 := S0.out.b2.cell 0
  have c1 := S0.out.b2.cell 1
  have c2 := S0.out.b2.cell 2
  have f0 := S0.out.b2.frozen 0
  have f1 := S0.out.b2.frozen 1
  have f2 := S0.out.b2.frozen 2
  simp only [List.getElem?_cons_zero, List.getElem?_cons_succ] at n0 n1 a0 a1 a2 b0 b1 b2 c0 c1 c2
  obtain ⟨au, al, aok⟩ := a
  obtain ⟨bu, bl, bok⟩ := b
  unfold EnOk at ha hb
  simp only [topB_val] at ha hb
  simp only at *
  have h1 : IntKind.i64.wrap (au + bl) = au + bl := wrap_i64 (by omega)
  have h2 : IntKind.i64.wrap (al + bu) = al + bu := wrap_i64 (by omega)
  clear ha hb
  cases aok
  · skip
    go_enter Tryd.func73, Tryd.ntmps73
    go_wp2_with fail
    refine bodyPost_ret (v := .agg #[.int .i64 (au + bl), .int .i64 (al + bu), .bool false]) (by simp [results, Tryd.results73, go_sem, c0, c1, c2]) rfl ⟨?_, ?_⟩
    · first | rfl | (rw [HE.out])
    · first
        | exact ((((Only.refl [] w).alloc _).alloc _).alloc _).alloc _
        | (have ho := S0.out.ho
           exact ((ho.setCell (.inr (by show w.heap.size ≤ w.heap.size + 1 + 1 + 1; omega)) _).setCell (.inr (by show w.heap.size ≤ w.heap.size + 1 + 1 + 1; omega)) _).setCell (.inr (by show w.heap.size ≤ w.heap.size + 1 + 1 + 1; omega)) _)
  · skip
    go_enter Tryd.func73, Tryd.ntmps73
    go_wp2_with fail
    refine bodyPost_ret (v := .agg #[.int .i64 (au + bl), .int .i64 (al + bu), .bool bok]) (by simp [results, Tryd.results73, go_sem, c0, c1, c2]) rfl ⟨?_, ?_⟩
    · first | rfl | (rw [HE.out])
    · first
        | exact ((((Only.refl [] w).alloc _).alloc _).alloc _).alloc _
        | (have ho := S0.out.ho
           exact ((ho.setCell (.inr (by show w.heap.size ≤ w.heap.size + 1 + 1 + 1; omega)) _).setCell (.inr (by show w.heap.size ≤ w.heap.size + 1 + 1 + 1; omega)) _).setCell (.inr (by show w.heap.size ≤ w.heap.size + 1 + 1 + 1; omega)) _)
set_option maxHeartbeats 1600000 in
set_option maxRecDepth 100000 in
theorem bo_comb_root (v : Nat) (na nb : Int) (a b : En) (ha : EnOk a) (w : World) :
    Calls Tryd.prog 73 #[.agg #[.int .i64 5, .float .f64 v, .int .i64 na, .int .i64 nb], entV a, entV b] w fun e w' => e = .returned (entV (if a.l ≤ a.u then ⟨(a.u + a.l + 1) / 2, a.l, a.ok⟩ else ⟨a.u, (a.u + a.l + 1) / 2, a.ok⟩)) ∧ Only [] w w' := by
  have S0 := Lib.hid (EnB.new w 5 v na nb a b)
  have n0 := S0.out.bn.cell 0
  have n1 := S0.out.bn.cell 1
  have a0 := S0.out.b0.cell 0
  have a1 := S0.out.b0.cell 1
  have a2 := S0.out.b0.cell 2
  have b0 := S0.out.b1.cell 0
  have b1 := S0.out.b1.cell 1
  have b2 := S0.out.b1.cell 2
  have c0 := S0.out.b2.cell 0
  have c1 := S0.out.b2.cell 1
  have c2 := S0.out.b2.cell 2
  have f0 := S0.out.b2.frozen 0
  have f1 := S0.out.b2.frozen 1
  have f2 := S0.out.b2.frozen 2
  simp only [List.getElem?_cons_zero, List.getElem?_cons_succ] at n0 n1 a0 a1 a2 b0 b1 b2 c0 c1 c2
  obtain ⟨au, al, aok⟩ := a
  obtain ⟨bu, bl, bok⟩ := b
  unfold EnOk at ha
  simp only [topB_val] at ha
  simp only at *
  have h1 : IntKind.i64.wrap (au + al) = au + al := wrap_i64 (by omega)
  have h2 : IntKind.i64.wrap (au + al + 1) = au + al + 1 := wrap_i64 (by omega)
  obtain ⟨m, hm⟩ : ∃ m, (au + al + 1) / 2 = m := ⟨_, rfl⟩
  have h3 : (au + al + 1).tdiv 2 = m := by rw [Int.tdiv_eq_ediv_of_nonneg (by omega), hm]
  have h4 : IntKind.i64.wrap m = m := wrap_i64 (by omega)
  rw [hm]
  by_cases hle : al ≤ au
  · have HE : Hid ((if al ≤ au then (⟨m, al, aok⟩ : En) else ⟨au, m, aok⟩) = ⟨m, al, aok⟩) := if_pos hle
    clear ha hm
    cases aok
    · skip
      go_enter Tryd.func73, Tryd.ntmps73
      go_wp2_with fail
      refine bodyPost_ret (v := .agg #[.int .i64 m, .int .i64 al, .bool false]) (by simp [results, Tryd.results73, go_sem, c0, c1, c2]) rfl ⟨?_, ?_⟩
      · first | rfl | (rw [HE.out])
      · first
          | exact ((((Only.refl [] w).alloc _).alloc _).alloc _).alloc _
          | (have ho := S0.out.ho
             exact ((ho.setCell (.inr (by show w.heap.size ≤ w.heap.size + 1 + 1 + 1; omega)) _).setCell (.inr (by show w.heap.size ≤ w.heap.size + 1 + 1 + 1; omega)) _).setCell (.inr (by show w.heap.size ≤ w.heap.size + 1 + 1 + 1; omega)) _)
    · skip
      go_enter Tryd.func73, Tryd.ntmps73
      go_wp2_with fail
      refine bodyPost_ret (v := .agg #[.int .i64 m, .int .i64 al, .bool true]) (by simp [results, Tryd.results73, go_sem, c0, c1, c2]) rfl ⟨?_, ?_⟩
      · first | rfl | (rw [HE.out])
      · first
          | exact ((((Only.refl [] w).alloc _).alloc _).alloc _).alloc _
          | (have ho := S0.out.ho
             exact ((ho.setCell (.inr (by show w.heap.size ≤ w.heap.size + 1 + 1 + 1; omega)) _).setCell (.inr (by show w.heap.size ≤ w.heap.size + 1 + 1 + 1; omega)) _).setCell (.inr (by show w.heap.size ≤ w.heap.size + 1 + 1 + 1; omega)) _)
  · have HE : Hid ((if al ≤ au then (⟨m, al, aok⟩ : En) else ⟨au, m, aok⟩) = ⟨au, m, aok⟩) := if_neg hle
    clear ha hm
    cases aok
    · skip
      go_enter Tryd.func73, Tryd.ntmps73
      go_wp2_with fail
      refine bodyPost_ret (v := .agg #[.int .i64 au, .int .i64 m, .bool false]) (by simp [results, Tryd.results73, go_sem, c0, c1, c2]) rfl ⟨?_, ?_⟩
      · first | rfl | (rw [HE.out])
      · first
          | exact ((((Only.refl [] w).alloc _).alloc _).alloc _).alloc _
          | (have ho := S0.out.ho
             exact ((ho.setCell (.inr (by show w.heap.size ≤ w.heap.size + 1 + 1 + 1; omega)) _).setCell (.inr (by show w.heap.size ≤ w.heap.size + 1 + 1 + 1; omega)) _).setCell (.inr (by show w.heap.size ≤ w.heap.size + 1 + 1 + 1; omega)) _)
    · skip
      go_enter Tryd.func73, Tryd.ntmps73
      go_wp2_with fail
      refine bodyPost_ret (v := .agg #[.int .i64 au, .int .i64 m, .bool true]) (by simp [results, Tryd.results73, go_sem, c0, c1, c2]) rfl ⟨?_, ?_⟩
      · first | rfl | (rw [HE.out])
      · first
          | exact ((((Only.refl [] w).alloc _).alloc _).alloc _).alloc _
          | (have ho := S0.out.ho
             exact ((ho.setCell (.inr (by show w.heap.size ≤ w.heap.size + 1 + 1 + 1; omega)) _).setCell (.inr (by show w.heap.size ≤ w.heap.size + 1 + 1 + 1; omega)) _).setCell (.inr (by show w.heap.size ≤ w.heap.size + 1 + 1 + 1; omega)) _)
end Go.Proofs.YtigpnopeacicpaaDoor
