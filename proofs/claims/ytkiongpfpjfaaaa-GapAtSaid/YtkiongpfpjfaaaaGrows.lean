/-
  DagGrows: the walk.
-/
import Derived.Test.YtkiongpfpjfaaaaDagT
namespace Go.Proofs.Ytkiongpfpjfaaaa
open Go.RowKit

/-- Four cells that hold a node. -/
def Cells4 (w : World) (b o : Nat) (n : Nd) : Prop :=
  w.cell? ⟨b, o, none⟩ = some (.int .i64 n.k) ∧ w.cell? ⟨b, o + 1, none⟩ = some (.float .f64 n.f) ∧ w.cell? ⟨b, o + 2, none⟩ = some (.int .i64 n.a) ∧ w.cell? ⟨b, o + 3, none⟩ = some (.int .i64 n.b)
theorem Cells4.only {w w' : World} {b o : Nat} {n : Nd} {S : List Nat} (h : Cells4 w b o n) (ho : Only S w w') (hn : b ∉ S) : Cells4 w' b o n :=
  ⟨ho.cell h.1 hn, ho.cell h.2.1 hn, ho.cell h.2.2.1 hn, ho.cell h.2.2.2 hn⟩

def nd0 : Nd := ⟨0, 0, 0, 0⟩

theorem flat_get : ∀ (ns : List Nd) (k j : Nat), k < ns.length → j < 4 → (flat ns)[k * 4 + j]? = ((ns[k]?.getD nd0).cells)[j]?
  | [], k, j, h, _ => by simp at h
  | n :: r, 0, j, _, hj => by
    have e : flat (n :: r) = n.cells ++ flat r := rfl
    rw [e, Nat.zero_mul, Nat.zero_add, List.getElem?_append_left (by simpa [Nd.cells] using hj)]
    rfl
  | n :: r, k + 1, j, h, hj => by
    have e : flat (n :: r) = n.cells ++ flat r := rfl
    have hl : n.cells.length = 4 := rfl
    rw [e, List.getElem?_append_right (by omega), hl, show (k + 1) * 4 + j - 4 = k * 4 + j by omega, flat_get r k j (by simpa using h) hj]
    simp

theorem NodesAt.shape {w : World} {u : Value} {ns : List Nd} (h : NodesAt w u ns) : ∃ A c, u = .slice A ns.length c ∧ ns.length ≤ c ∧ c ≤ maxLen ∧
    (∀ k, k < ns.length → ∃ g, A = some ⟨g, 0, none⟩ ∧ Cells4 w g (k * 4) (ns[k]?.getD nd0)) := by
  rcases h.2 with ⟨rfl, h0⟩ | ⟨g, cap, cur, rfl, _, hg, hn, hm, _⟩
  · refine ⟨none, 0, by rw [h0], by omega, by simp [maxLen], fun k hk => by omega⟩
  · refine ⟨_, cap, rfl, hn, hm, fun k hk => ⟨g, rfl, ?_⟩⟩
    have hc := World.ownsRow.cells h (g := g) rfl
    have at_ : ∀ j v, j < 4 → ((ns[k]?.getD nd0).cells)[j]? = some v → w.cell? ⟨g, k * 4 + j, none⟩ = some v := by
      intro j v hj hv
      have h1 := hc (k * 4 + j) v (by rw [flat_get ns k j hk hj, hv])
      have h2 : (⟨g, 0, none⟩ : Addr).add (k * 4 + j) = ⟨g, k * 4 + j, none⟩ := by unfold Addr.add; split <;> simp_all
      rwa [h2] at h1
    exact ⟨at_ 0 _ (by omega) rfl, at_ 1 _ (by omega) rfl, at_ 2 _ (by omega) rfl, at_ 3 _ (by omega) rfl⟩

theorem NodesAt.only {w w' : World} {u : Value} {ns : List Nd} {S : List Nat} (h : NodesAt w u ns) (ho : Only S w w') (hn : ∀ g, u.ownBlock = some g → g ∉ S) : NodesAt w' u ns := ownsRow_only h ho hn

/-- What Put makes of nodes, one behind the other. -/
def puts (r : Option Nat) (l : List Nd) : List Nd := l.foldl (fun ns n => putNs r ns n) []
theorem puts_snoc (r : Option Nat) (l : List Nd) (n : Nd) : puts r (l ++ [n]) = putNs r (puts r l) n := by simp [puts]
theorem puts_le (r : Option Nat) (l : List Nd) : (puts r l).length ≤ l.length := by
  have h : ∀ (l : List Nd) (ns : List Nd), (l.foldl (fun ns n => putNs r ns n) ns).length ≤ ns.length + l.length := by
    intro l
    induction l with
    | nil => intro ns; simp
    | cons n l ih =>
      intro ns
      have h1 := ih (putNs r ns n)
      have h2 := putNs_le r ns n
      simp only [List.foldl_cons, List.length_cons]
      omega
  simpa [puts] using h l []
theorem putNs_cases (r : Option Nat) (ns : List Nd) (n : Nd) : putNs r ns n = ns ∨ putNs r ns n = ns ++ [n] := by
  unfold putNs
  split
  · split
    · exact .inl rfl
    · exact .inr rfl
  · exact .inl rfl

theorem nodup_get {l : List Nd} (h : l.Nodup) {i j : Nat} (hij : i < j) (hj : j < l.length) : l[i]?.getD nd0 ≠ l[j]?.getD nd0 := by
  have hi : i < l.length := by omega
  simp only [List.getElem?_eq_getElem hi, List.getElem?_eq_getElem hj, Option.getD_some]
  intro e
  exact List.pairwise_iff_getElem.1 h i j hi hj hij e
theorem sameB_ne {x y : Nd} (h : x ≠ y) : sameB x.k x.f x.a x.b y.k y.f y.a y.b = false := by
  obtain ⟨a, b, c, d⟩ := x
  obtain ⟨a', b', c', d'⟩ := y
  simp only [sameB, decide_eq_false_iff_not]
  rintro ⟨rfl, rfl, rfl, rfl⟩
  exact h rfl

/-- A list of nodes that came in: it reads as L. -/
def NodesIn (w : World) (A : Option Addr) (L : List Nd) : Prop := ∀ k, k < L.length → ∃ b o, A = some ⟨b, o, none⟩ ∧ Cells4 w b (o + k * 4) (L[k]?.getD nd0) ∧ (L[k]?.getD nd0).f < 2 ^ 64

def GRel (w0 : World) (d : Nat) (r : Option Nat) (L : List Nd) (k : Nat) (was : Value) (wr : World) : Prop :=
  ∃ v, Own w0 wr d v r (puts r (L.take k)) ∧ NodesAt wr was (puts r (L.take k)) ∧ ∀ g, was.ownBlock = some g → w0.heap.size ≤ g ∧ g ∉ foot d v r

set_option maxRecDepth 100000 in
set_option maxHeartbeats 1600000 in
theorem grows_great (A : Option Addr) (n c : Nat) (same : Bool) (w : World) (hn : (60 : Int) < (n : Int)) :
    Calls Try.prog 3 #[.slice A n c, .bool same] w fun e w' => e = .returned (.bool true) ∧ Only [] w w' := by
  go_enter Try.func3, Try.ntmps3
  go_wp2_with (go_at_call 7; (with_reducible refine (alive_any _).mono ?_); rintro e w1 ⟨rfl, ho1⟩)
  go_ret
  exact ⟨rfl, ho1⟩

set_option maxRecDepth 100000 in
set_option maxHeartbeats 1600000 in
theorem grows_few (A : Option Addr) (c : Nat) (L : List Nd) (same : Bool) (w : World) (hn : ¬ (60 : Int) < (L.length : Int)) (hin : Hid (NodesIn w A L)) :
    Calls Try.prog 3 #[.slice A L.length c, .bool same] w fun e w' => e = .returned (.bool true) ∧ Only [] w w' := by
  have hn60 : Hid (L.length ≤ 60) := by show L.length ≤ 60; omega
  go_enter Try.func3, Try.ntmps3
  go_wp2_with (go_at_call 7; (with_reducible refine (alive_any _).mono ?_); rintro e w1 ⟨rfl, ho1⟩)
  refine (new_any same _).mono ?_
  rintro e w2 ⟨r, rfl, hd2, hr2, hm2, ho2⟩
  have A2 := own_new hd2 hm2 ho2
  have Hr := Lib.hid hr2
  have HO := Lib.hid (ho1.nil_trans ho2)
  have HO1 := Lib.hid ho1
  clear hd2 hm2 ho2 hr2 ho1
  go_wp2_with fail
  go_loopw [6, 7] (fun was i wr => ∃ k : Nat, k ≤ L.length ∧ i = .int .i64 (k : Int) ∧ GRel w1 w1.heap.size r L k was wr) (fun _ i _ => L.length - (intOf i).toNat)
  case atStart => exact ⟨0, Nat.zero_le _, rfl, .slice none 0 0, A2, World.ownsRow_nil _ _ _ _, by simp [Value.ownBlock]⟩
  case round =>
    obtain ⟨k, hk, rfl, v, hown, hnod, hap⟩ := hrel
    clear A2
    by_cases hlt : k < L.length
    · obtain ⟨b, o, rfl, hcell, hf⟩ := hin.out k hlt
      have hw : Only [] w wr := HO1.out.nil_trans hown.only
      have htk : Hid (L.take (k + 1) = L.take k ++ [L[k]?.getD nd0]) := by
        show _ = _
        rw [List.take_succ_eq_append_getElem hlt]
        simp [hlt]
      have hpl : Hid ((puts r (L.take k)).length ≤ k) := by
        have := puts_le r (L.take k)
        show _ ≤ _
        simp only [List.length_take] at this
        omega
      generalize hns : puts r (L.take k) = ns at hown hnod hpl
      have Hns := Lib.hid hns
      clear hns
      obtain ⟨q0, q1, q2, q3⟩ := hcell.only hw (by simp)
      generalize hnd : L[k]?.getD nd0 = nd at q0 q1 q2 q3 hf htk
      clear hcell hnd hw
      obtain ⟨nk, nf, na, nb⟩ := nd
      have hf' := Lib.hid hf
      clear hf
      have hlt' : (k : Int) < (L.length : Int) := by omega
      go_wp2_with fail
      refine (put_any _ v r ns nk nf na nb _ hf' hown.is (by have := hpl.out; have := hn60.out; omega)).mono ?_
      rintro e w3 ⟨ev, v1, rfl, hd3, hs3, ho3, _⟩
      have A3 := Lib.hid (hown.step ⟨hs3, ho3⟩ hd3)
      have hnod3 : Hid (NodesAt w3 u6 ns) := hnod.only ho3 (fun g hg => (hap g hg).2)
      have hap3 : Hid (∀ g, u6.ownBlock = some g → w1.heap.size ≤ g ∧ g ∉ foot w1.heap.size v1 r) := fun g hg => ⟨(hap g hg).1, fun hm => by
        rcases Step.foot ⟨hs3, ho3⟩ g hm with h1 | h1
        · exact (hap g hg).2 h1
        · have := (hnod.lt g hg).2
          omega⟩
      have hns1 := Lib.hid (putNs_cases r ns ⟨nk, nf, na, nb⟩)
      have hpt : Hid (puts r (L.take (k + 1)) = putNs r ns ⟨nk, nf, na, nb⟩) := by show _ = _; rw [htk.out, puts_snoc, Hns.out]
      generalize hgn : putNs r ns ⟨nk, nf, na, nb⟩ = ns1 at A3 hns1 hpt
      clear hgn hd3 hs3 ho3 hnod hap hown q0 q1 q2 q3 htk Hns
      go_wp2_with fail
      refine (dall_any _ v1 r ns1 _ A3.out.is (by have h1 := hns1.out; have h2 := hpl.out; have h3 := hn60.out; show _ < _; rcases h1 with h | h <;> rw [h] <;> (try simp only [List.length_append, List.length_singleton]) <;> omega)).mono ?_
      rintro e w4 ⟨u1, rfl, hu1, hfr1, ho4⟩
      have A4 := Lib.hid (A3.out.other ho4 (by simp) (by simp))
      have hnod4 : Hid (NodesAt w4 u6 ns) := hnod3.out.only ho4 (by simp)
      have hap4 : Hid (∀ g, u1.ownBlock = some g → w1.heap.size ≤ g ∧ g ∉ foot w1.heap.size v1 r) := fun g hg => ⟨Nat.le_trans A3.out.only.size (hfr1 g hg), fun hm => by have h1 := A3.out.is.lt g hm; have h2 := hfr1 g hg; omega⟩
      obtain ⟨Aw, cw, rfl, hcw, hcwm, hcells⟩ := hnod4.out.shape
      obtain ⟨Au, cu, rfl, hcu, hcum, hcellsu⟩ := hu1.shape
      have Hu1 := Lib.hid hu1
      have Hcw := Lib.hid hcells
      have Hcu := Lib.hid hcellsu
      clear hcells hcellsu hu1 hfr1 ho4 A3 hnod3 hap3 hcwm hcum
      have hle3 : Hid (ns.length ≤ ns1.length) := by show _ ≤ _; rcases hns1.out with h | h <;> rw [h] <;> (try simp only [List.length_append, List.length_singleton]) <;> omega
      have hle1 : ¬ (ns1.length : Int) < (ns.length : Int) := by rcases hns1.out with h | h <;> rw [h] <;> (try simp only [List.length_append, List.length_singleton]) <;> omega
      have hle2 : ¬ (ns.length : Int) + 1 < (ns1.length : Int) := by rcases hns1.out with h | h <;> rw [h] <;> (try simp only [List.length_append, List.length_singleton]) <;> omega
      have hle1b : decide (ns1.length < ns.length) = false := decide_eq_false (by have := hle3.out; omega)
      have hle2b : decide ((ns.length : Int) + 1 < (ns1.length : Int)) = false := decide_eq_false hle2
      have hb60 : (ns.length : Int) ≤ 60 := by have h2 := hpl.out; have h3 := hn60.out; omega
      have hsame : Hid (∀ j, j < ns.length → ns1[j]?.getD nd0 = ns[j]?.getD nd0) := fun j hj => by
        rcases hns1.out with h | h
        · rw [h]
        · rw [h, List.getElem?_append_left hj]
      go_wp2_with fail
      go_loopw [9] (fun i wx => ∃ j : Nat, j ≤ ns.length ∧ i = .int .i64 (j : Int) ∧ Only [] w4 wx) (fun i _ => ns.length - (intOf i).toNat)
      case atStart => exact ⟨0, Nat.zero_le _, rfl, Only.refl _ _⟩
      case round =>
        obtain ⟨j, hj, rfl, ho5⟩ := hrel
        have Ho5 := Lib.hid ho5
        clear ho5
        by_cases hjl : j < ns.length
        · obtain ⟨g, rfl, hc1⟩ := Hcw.out j hjl
          obtain ⟨gu, rfl, hc2⟩ := Hcu.out j (by have := hle3.out; omega)
          rw [hsame.out j hjl] at hc2
          have C1 := Lib.hid (hc1.only Ho5.out (by simp))
          have C2 := Lib.hid (hc2.only Ho5.out (by simp))
          generalize ns[j]?.getD nd0 = x at C1 C2
          obtain ⟨xk, xf, xa, xb⟩ := x
          obtain ⟨p0, p1, p2, p3⟩ := C1.out
          obtain ⟨t0, t1, t2, t3⟩ := C2.out
          clear hc1 hc2
          have hj1 : (j : Int) < (ns.length : Int) := by omega
          have hj2 : (j : Int) < (ns1.length : Int) := by have := hle3.out; omega
          have hsb : sameB xk xf xa xb xk xf xa xb = true := by simp [sameB]
          go_wp2_with fail
          go_region_held3 (fun w' => (w'.cell? ⟨g, j * 4, none⟩ = some (.int .i64 xk) ∧ w'.cell? ⟨g, j * 4 + 1, none⟩ = some (.float .f64 xf) ∧ w'.cell? ⟨g, j * 4 + 2, none⟩ = some (.int .i64 xa) ∧ w'.cell? ⟨g, j * 4 + 3, none⟩ = some (.int .i64 xb)) ∧ w'.cell? ⟨gu, j * 4, none⟩ = some (.int .i64 xk) ∧ w'.cell? ⟨gu, j * 4 + 1, none⟩ = some (.float .f64 xf) ∧ w'.cell? ⟨gu, j * 4 + 2, none⟩ = some (.int .i64 xa) ∧ w'.cell? ⟨gu, j * 4 + 3, none⟩ = some (.int .i64 xb)) (go_keep)
            (first | (go_at_call 11; refine (same_any _ _ _ _ _ _ _ _ _).mono ?_; rintro e w5 ⟨rfl, ho6⟩; obtain ⟨z0, z1, z2, z3⟩ := C1.out.only ((Only.refl [] wr).drew.nil_trans ho6) (by simp); obtain ⟨y0, y1, y2, y3⟩ := C2.out.only ((Only.refl [] wr).drew.nil_trans ho6) (by simp)))
          have Ho6 := Lib.hid ho6
          clear ho6
          go_wp2_with fail
          go_roundw
          case rel => exact ⟨j + 1, by omega, by go_num, Ho5.out.nil_trans ((Only.refl [] wr).drew.nil_trans Ho6.out)⟩
          case measure => simp [intOf]; omega
        · have hj1 : ¬ (j : Int) < (ns.length : Int) := by omega
          have hb61 : (ns1.length : Int) ≤ 61 := by omega
          obtain ⟨wz, rfl⟩ : ∃ wz : World, wz = wr := ⟨_, rfl⟩
          cases same
          · go_wp2_with fail
            go_loopw [10] (fun i wx => ∃ j : Nat, j ≤ ns1.length ∧ i = .int .i64 (j : Int) ∧ Only [] w4 wx) (fun i _ => ns1.length - (intOf i).toNat)
            case atStart => exact ⟨0, Nat.zero_le _, rfl, Ho5.out⟩
            case round =>
              obtain ⟨j2, hj2, rfl, ho7⟩ := hrel
              have Ho7 := Lib.hid ho7
              clear ho7
              go_wp2_with fail
              all_goals go_roundw
              all_goals first
                | exact ⟨k + 1, by omega, by go_num, v1, by rw [hpt.out]; exact A4.out.other Ho7.out (by simp) (by simp), by rw [hpt.out]; exact Hu1.out.only Ho7.out (by simp), hap4.out⟩
                | (simp [intOf]; omega)
          · have hrn : Hid (ns1.Nodup) := A4.out.is.nodup (fun e => by have := Hr.out.1 e; cases this)
            go_wp2_with fail
            go_loopw [10] (fun i wx => ∃ j : Nat, j ≤ ns1.length ∧ i = .int .i64 (j : Int) ∧ Only [] w4 wx) (fun i _ => ns1.length - (intOf i).toNat)
            case atStart => exact ⟨0, Nat.zero_le _, rfl, Ho5.out⟩
            case round =>
              obtain ⟨j2, hj2, rfl, ho7⟩ := hrel
              have Ho7 := Lib.hid ho7
              clear ho7
              by_cases hj3 : j2 + 1 < ns1.length
              · have hj4 : (j2 : Int) + 1 < (ns1.length : Int) := by omega
                rcases hns1.out with hcase | hcase
                · have hg : decide (ns.length < ns1.length) = false := decide_eq_false (by rw [hcase]; omega)
                  clear hcase
                  go_wp2_with fail
                  go_quiet (fail)
                  go_wp2_with fail
                  go_roundw
                  case rel => exact ⟨j2 + 1, by omega, by go_num, Ho7.out.drewN _⟩
                  case measure => simp [intOf]; omega
                · have hlen1 : Hid (ns1.length = ns.length + 1) := by show _ = _; rw [hcase]; simp
                  have hg : decide (ns.length < ns1.length) = true := decide_eq_true (by have := hlen1.out; omega)
                  have hq : (ns1.length : Int) - 1 = (ns.length : Int) := by have := hlen1.out; omega
                  have hq2 : (ns.length : Int) < (ns1.length : Int) := by have := hlen1.out; omega
                  have hqw : IntKind.i64.wrap (ns.length : Int) = (ns.length : Int) := IntWalk.i64_in _ (by omega)
                  have hj5 : (j2 : Int) < (ns1.length : Int) := by omega
                  clear hcase
                  obtain ⟨gu, rfl, hc1⟩ := Hcu.out j2 (by omega)
                  obtain ⟨gv, hgv, hc2⟩ := Hcu.out ns.length (by have := hlen1.out; omega)
                  obtain rfl : gu = gv := by simpa using hgv
                  clear hgv
                  have hne := nodup_get hrn.out (show j2 < ns.length by have := hlen1.out; omega) (by have := hlen1.out; omega)
                  have hsb := sameB_ne hne
                  have C1 := Lib.hid (hc1.only Ho7.out (by simp))
                  have C2 := Lib.hid (hc2.only Ho7.out (by simp))
                  clear hne hc1 hc2
                  generalize ns1[j2]?.getD nd0 = x at C1 hsb
                  generalize ns1[ns.length]?.getD nd0 = y at C2 hsb
                  obtain ⟨xk, xf, xa, xb⟩ := x
                  obtain ⟨yk, yf, ya, yb⟩ := y
                  obtain ⟨p0, p1, p2, p3⟩ := C1.out
                  obtain ⟨t0, t1, t2, t3⟩ := C2.out
                  go_wp2_with fail
                  go_region_held3 (fun w' => (w'.cell? ⟨gu, j2 * 4, none⟩ = some (.int .i64 xk) ∧ w'.cell? ⟨gu, j2 * 4 + 1, none⟩ = some (.float .f64 xf) ∧ w'.cell? ⟨gu, j2 * 4 + 2, none⟩ = some (.int .i64 xa) ∧ w'.cell? ⟨gu, j2 * 4 + 3, none⟩ = some (.int .i64 xb)) ∧ w'.cell? ⟨gu, ns.length * 4, none⟩ = some (.int .i64 yk) ∧ w'.cell? ⟨gu, ns.length * 4 + 1, none⟩ = some (.float .f64 yf) ∧ w'.cell? ⟨gu, ns.length * 4 + 2, none⟩ = some (.int .i64 ya) ∧ w'.cell? ⟨gu, ns.length * 4 + 3, none⟩ = some (.int .i64 yb)) (go_keep)
                    (first | (go_at_call 11; refine (same_any _ _ _ _ _ _ _ _ _).mono ?_; rintro e w8 ⟨rfl, ho8⟩; obtain ⟨z0, z1, z2, z3⟩ := C1.out.only ((Only.refl [] wr).drew.nil_trans ho8) (by simp); obtain ⟨y0, y1, y2, y3⟩ := C2.out.only ((Only.refl [] wr).drew.nil_trans ho8) (by simp)))
                  have Ho8 := Lib.hid ho8
                  clear ho8
                  go_wp2_with fail
                  go_roundw
                  case rel => exact ⟨j2 + 1, by omega, by go_num, Ho7.out.nil_trans ((Only.refl [] wr).drew.nil_trans Ho8.out)⟩
                  case measure => simp [intOf]; omega
              · have hj4 : ¬ (j2 : Int) + 1 < (ns1.length : Int) := by omega
                go_wp2_with fail
                go_roundw
                case rel => exact ⟨k + 1, by omega, by go_num, v1, by rw [hpt.out]; exact A4.out.other Ho7.out (by simp) (by simp), by rw [hpt.out]; exact Hu1.out.only Ho7.out (by simp), hap4.out⟩
                case measure => simp [intOf]; omega
    · have hk' : k = L.length := by omega
      have hnl : ¬ (k : Int) < (L.length : Int) := by omega
      subst hk'
      obtain ⟨Aw, cw, rfl, -, -, -⟩ := hnod.shape
      go_wp2_with fail
      refine (dlen_any _ _ _ _ _ hown.is).mono ?_
      rintro e w3 ⟨rfl, rfl⟩
      go_wp2_with fail
      go_ret
      exact ⟨by simp, HO1.out.nil_trans hown.only⟩
end Go.Proofs.Ytkiongpfpjfaaaa
