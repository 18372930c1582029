/-
  fail.Where at a kind at a node.
-/
import Derived.Test.YtfelokgmoiblgaaDoorFailC
import Derived.Test.YtfelokgmoiblgaaDoorFailAs
namespace Go.Proofs.YtfelokgmoiblgaaDoor
open Go.RowKit Go.Extern.Stop Go.Stop Go.Extern

theorem where1_deferred (g h : Nat) (w : World) : CallsD Tryd.prog 29 #[.pointer (some ⟨g, 0, none⟩), .pointer (some ⟨h, 0, none⟩)] .returning w fun e u' w' => u' = .returning ∧ e = .returned (.tuple #[]) ∧ w' = w := by
  refine callsD_of_wpS Tryd.func29 rfl fun c₀ cs hu => ?_
  apply wpS_seq
  apply wpS_region
  simp [wpOpsS, go_sem, recoverD, hu, Tryd.ntmps29, Exit.thenS]
  refine wpS_cond (t := false) (by simp [Act.eval, Array.replicate]) ?_
  simp only [Bool.false_eq_true, if_false]
  refine wpS_of_wp (wp_skip ?_)
  cases c₀
  simp_all [bodyPostS, results, Tryd.results29]

theorem three_new' (w : World) (a b c : List Value) (t t' t'' : TypeId) : Blk (((w.alloc (.cells a.toArray t)).alloc (.cells b.toArray t')).alloc (.cells c.toArray t'')) w.heap.size t a ∧ Blk (((w.alloc (.cells a.toArray t)).alloc (.cells b.toArray t')).alloc (.cells c.toArray t'')) (w.heap.size + 1) t' b ∧
    Blk (((w.alloc (.cells a.toArray t)).alloc (.cells b.toArray t')).alloc (.cells c.toArray t'')) (w.heap.size + 1 + 1) t'' c ∧ Only [] w (((w.alloc (.cells a.toArray t)).alloc (.cells b.toArray t')).alloc (.cells c.toArray t'')) := by
  have e1 : (w.alloc (.cells a.toArray t)).heap.size = w.heap.size + 1 := World.size_alloc w _
  have e2 : ((w.alloc (.cells a.toArray t)).alloc (.cells b.toArray t')).heap.size = w.heap.size + 1 + 1 := by rw [World.size_alloc, World.size_alloc]
  have h2 := Blk.new (w.alloc (.cells a.toArray t)) t' b
  have h3 := Blk.new ((w.alloc (.cells a.toArray t)).alloc (.cells b.toArray t')) t'' c
  rw [e1] at h2
  rw [e2] at h3
  exact ⟨((Blk.new w t a).alloc _).alloc _, h2.alloc _, h3, (((Only.refl [] w).alloc _).alloc _).alloc _⟩

theorem new2 {w : World} {b : Nat} (hb : b ∈ [w.heap.size + 1 + 1]) : w.heap.size ≤ b := by
  have h : b = w.heap.size + 1 + 1 := by simpa using hb
  omega

/-- errors.As at a node's error, whose target is the block t. -/
theorem as_node (a t : Nat) (w : World) (hg : w.cell? ⟨0, 0, none⟩ = some (.iface 93 (.agg #[.pointer (some ⟨4, 25, none⟩)]))) (ht : Blk w t 23 [.pointer none]) :
    Calls Tryd.prog 16 #[.iface 23 (.pointer (some ⟨a, 0, none⟩)), .iface 45 (.pointer (some ⟨t, 0, none⟩))] w fun e w' => e = .returned (.bool true) ∧ Only [t] w w' ∧ Blk w' t 23 [.pointer (some ⟨a, 0, none⟩)] :=
  (as_hit ⟨a, 0, none⟩ ⟨t, 0, none⟩ (.pointer none) w hg (ht.cell 0) (ht.frozen 0)).mono fun e w' ⟨he, hw⟩ => by
    subst hw
    exact ⟨he, (((((Only.refl [t] w).alloc _).alloc _).alloc _).alloc _).setCell (.inl (by simp)) _, ((((ht.alloc _).alloc _).alloc _).alloc _).set_ 0 _⟩

set_option maxHeartbeats 400000 in
theorem where_at (k : Int) (a : Nat) (i : Int) (w : World) (ha : Blk w a 27 [.int .i64 i, .iface 60 (.int .i64 k)]) (hg : w.cell? ⟨0, 0, none⟩ = some (.iface 93 (.agg #[.pointer (some ⟨4, 25, none⟩)]))) :
    Calls Tryd.prog 14 #[.iface 23 (.pointer (some ⟨a, 0, none⟩))] w fun e w' => e = .returned (.tuple #[.int .i64 i, .bool true]) ∧ Only [] w w' := by
  have hmf : ∀ (fn : Fn) (first cap : Array Value) (w : World), (Instr.makeFunc fn first cap).run Tryd.prog w = .ok (.func fn first cap) w := fun _ _ _ _ => rfl
  obtain ⟨hB0, hB1, hB2, hO⟩ := three_new' w [.int .i64 0] [.bool false] [.pointer none] 3 4 23
  have HA := Lib.hid (ha.only hO (by simp))
  have HG := Lib.hid (hO.cell hg (by simp))
  have H0 := Lib.hid hB0
  have H1 := Lib.hid hB1
  have H2 := Lib.hid hB2
  have HO := Lib.hid hO
  have hal := ha.lt
  clear hg hO hB0 hB1 hB2 ha
  go_enter_defers Tryd.func14, Tryd.ntmps14
  go_wp2_with fail
  refine (endless_at k a _ _ HA.out).mono ?_
  rintro e w1 ⟨rfl, ho1⟩
  have JA := Lib.hid (HA.out.only ho1 (by simp))
  have JG := Lib.hid (ho1.cell HG.out (by simp))
  have J0 := Lib.hid (H0.out.only ho1 (by simp))
  have J1 := Lib.hid (H1.out.only ho1 (by simp))
  have J2 := Lib.hid (H2.out.only ho1 (by simp))
  have JO := Lib.hid (HO.out.nil_trans ho1)
  clear ho1 HA HG H0 H1 H2 HO
  go_wp2_with fail
  refine (as_node a _ _ JG.out J2.out).mono ?_
  rintro e w2 ⟨rfl, ho2, hT⟩
  have KA := Lib.hid (JA.out.only ho2 (by simp; omega))
  have K0 := Lib.hid (J0.out.only ho2 (by simp; omega))
  have K1 := Lib.hid (J1.out.only ho2 (by simp))
  have KO := Lib.hid (JO.out.trans ho2 (fun b hb => .inr (new2 hb)))
  have t0 := hT.cell 0
  have a0 := KA.out.cell 0
  have c0 := K0.out.cell 0
  have f0 := K0.out.frozen 0
  have c1 := K1.out.cell 0
  have f1 := K1.out.frozen 0
  simp only [List.getElem?_cons_zero] at t0 a0 c0 c1
  clear JA JG J0 J1 J2 JO ho2 hT
  have hs0 := ((K0.out.set_ 0 (.int .i64 i)).far (p := ⟨w.heap.size + 1, 0, none⟩) (by simp) (.bool true)).cell 0
  have hs1 := ((K1.out.far (p := ⟨w.heap.size, 0, none⟩) (by simp) (.int .i64 i)).set_ 0 (.bool true)).cell 0
  simp only [List.set_cons_zero, List.getElem?_cons_zero] at hs0 hs1
  have hO := (KO.out.setCell (p := ⟨w.heap.size, 0, none⟩) (.inr (Nat.le_refl _)) (.int .i64 i)).setCell (p := ⟨w.heap.size + 1, 0, none⟩) (.inr (Nat.le_succ _)) (.bool true)
  have Hs := Lib.hid (And.intro hs0 (And.intro hs1 hO))
  clear hs0 hs1 hO
  go_wp2_with fail
  refine leaves_cons (f := 29) (args := #[.pointer (some ⟨w.heap.size, 0, none⟩), .pointer (some ⟨w.heap.size + 1, 0, none⟩)]) (by simp) (by simp [go_sem]) ?_
  refine (where1_deferred _ _ _).mono ?_
  rintro e u' w'' ⟨rfl, rfl, rfl⟩
  obtain ⟨hs0, hs1, hO⟩ := Hs.out
  simp [Leaves, settle, results, Tryd.results14, go_sem, hs0, hs1, hO]
end Go.Proofs.YtfelokgmoiblgaaDoor
