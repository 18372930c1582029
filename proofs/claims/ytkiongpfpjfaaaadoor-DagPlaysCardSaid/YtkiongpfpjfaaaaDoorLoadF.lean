/-
  DagLoads: the law's walk.
-/
import Derived.Test.YtkiongpfpjfaaaaDoorLoadE
import Derived.Test.YtkiongpfpjfaaaaDoorLoadB
import Derived.Test.YtkiongpfpjfaaaaDoorPlainC
import Derived.Test.YtkiongpfpjfaaaaDoorFailD
namespace Go.Proofs.YtkiongpfpjfaaaaDoor
open Go.RowKit
attribute [local go_sem] run_store_float

theorem NodesIn.read {w : World} {A : Option Addr} {L : List Nd} (h : NodesIn w A L) : NRead w A L := fun k hk => by
  obtain ⟨b, o, h1, h2, _⟩ := h k hk
  exact ⟨b, o, h1, h2⟩
theorem NodesIn.bits {w : World} {A : Option Addr} {L : List Nd} (h : NodesIn w A L) : ∀ k, k < L.length → (L[k]?.getD nd0).f < 2 ^ 64 := fun k hk => by
  obtain ⟨b, o, _, _, h3⟩ := h k hk
  exact h3
theorem lent_read {w : World} {g cap : Nat} {L : List Nd} (hB : NodesAt w (.slice (some ⟨g, 0, none⟩) (L.length + 1) cap) (L ++ [mark])) : NRead w (some ⟨g, 0, none⟩) L := fun k hk => by
  obtain ⟨b, o, e, h⟩ := hB.read.2 k (by simp; omega)
  refine ⟨b, o, e, ?_⟩
  rw [List.getElem?_append_left hk] at h
  exact h

theorem first_one {L : List Nd} {i j : Nat} (hj : FirstBad L j) (hi : FirstBad L i) : j = i := by
  rcases Nat.lt_trichotomy j i with h | h | h
  · have := hi.2.1 j h
    rw [hj.2.2] at this
    cases this
  · exact h
  · have := hj.2.1 i h
    rw [hi.2.2] at this
    cases this

/-- The reference's side of DagLoads: the plain list, and the ids that it gives. -/
structure PlRel (w0 : World) (p : Nat) (same : Bool) (q : List Nd × List Int) (v u : Value) (wr : World) : Prop where
  is : PlainIs wr p v same q.1
  own : ∀ k ∈ foot p v none, w0.heap.size ≤ k
  only : Only [] w0 wr
  ids : IntsAt wr u q.2
  fresh : ∀ g, u.ownBlock = some g → w0.heap.size ≤ g ∧ g ∉ foot p v none
theorem PlRel.put {w0 w w' : World} {p : Nat} {same : Bool} {q : List Nd × List Int} {v v' u : Value} {ns' : List Nd} (h : PlRel w0 p same q v u w) (hs : Step p v none w v' w') (hd : PlainIs w' p v' same ns') : PlRel w0 p same (ns', q.2) v' u w' :=
  ⟨hd, fun k hk => by
    rcases hs.foot k hk with h1 | h1
    · exact h.own k h1
    · exact Nat.le_trans h.only.size h1, h.only.trans hs.2 (fun k hk => .inr (h.own k hk)), h.ids.only hs.2 (fun g hg => (h.fresh g hg).2), fun g hg => ⟨(h.fresh g hg).1, fun hm => by
    rcases hs.foot g hm with h1 | h1
    · exact (h.fresh g hg).2 h1
    · have := h.ids.lt g hg
      omega⟩⟩
theorem PlRel.nil {w0 w w' : World} {p : Nat} {same : Bool} {q : List Nd × List Int} {v u : Value} (h : PlRel w0 p same q v u w) (ho : Only [] w w') : PlRel w0 p same q v u w' :=
  ⟨h.is.only ho (by simp), h.own, h.only.nil_trans ho, h.ids.only ho (by simp), h.fresh⟩
theorem PlRel.push {w0 w w' : World} {p : Nat} {same : Bool} {q : List Nd × List Int} {v u : Value} {g cap : Nat} {x : Int} (h : PlRel w0 p same q v u w) (hown : w'.ownsRow 0 3 1 (.slice (some ⟨g, 0, none⟩) (q.2.length + 1) cap) (q.2.length + 1) (ints q.2 ++ [.int .i64 x]))
    (hgr : (w.alloc (.cells #[.int .i64 x] 3)).grownBy w' u.ownBlock) (hat : u.ownBlock = some g ∨ g = w.heap.size + 1) : PlRel w0 p same (q.1, q.2 ++ [x]) v (.slice (some ⟨g, 0, none⟩) (q.2.length + 1) cap) w' := by
  have ho : Only u.ownBlock.toList w w' := ((Only.refl _ w).alloc _).trans (Only.of_grown (S := u.ownBlock.toList) hgr (by simp)) (fun k hk => .inl hk)
  refine ⟨h.is.only ho (fun k hk hm => (h.fresh k (by simpa using hm)).2 hk), h.own, h.only.trans ho (fun k hk => .inr (h.fresh k (by simpa using hk)).1), ?_, ?_⟩
  · unfold IntsAt
    simpa [ints] using hown
  · intro g' hg'
    have e : g = g' := by simpa [Value.ownBlock] using hg'
    subst e
    rcases hat with e | e
    · exact h.fresh g e
    · refine ⟨by have := h.only.size; omega, fun hm => ?_⟩
      have := h.is.lt g hm
      omega
theorem pl_new {w : World} {same : Bool} : PlRel w w.heap.size same ([], []) (.slice none 0 0) (.slice none 0 0) (w.alloc (.cells #[.slice none 0 0, .bool same] 28)) :=
  ⟨⟨Blk.new w 28 [.slice none 0 0, .bool same], World.ownsRow_nil _ _ _ _⟩, fun k hk => by
    simp [foot, Value.ownBlock] at hk
    omega, (Only.refl [] w).alloc _, World.ownsRow_nil _ _ _ _, fun g hg => by simp [Value.ownBlock] at hg⟩

set_option maxHeartbeats 1600000 in
set_option maxRecDepth 100000 in
theorem dagLoads_long (A : Option Addr) (c len : Nat) (same : Bool) (w : World) (hl : (120 : Int) < (len : Int)) :
    Calls Tryd.prog 4 #[.slice A len c, .bool same] w fun e w' => e = .returned (.bool true) ∧ Only [] w w' := by
  go_enter Tryd.func4, Tryd.ntmps4
  go_wp2_with (go_at_call 5; (with_reducible refine (alive_any _).mono ?_); rintro e w1 ⟨rfl, ho1⟩)
  go_ret
  exact ⟨rfl, ho1⟩

set_option maxHeartbeats 1600000 in
set_option maxRecDepth 100000 in
theorem dagLoads_bad (A : Option Addr) (c : Nat) (L : List Nd) (i : Nat) (same : Bool) (w : World) (hin : NodesIn w A L) (hl : (L.length : Int) ≤ 120) (hbad : FirstBad L i)
    (hg : w.cell? ⟨0, 0, none⟩ = some (.iface 140 (.agg #[.pointer (some ⟨2, 38, none⟩)]))) :
    Calls Tryd.prog 4 #[.slice A L.length c, .bool same] w fun e w' => e = .returned (.bool true) ∧ Only [] w w' := by
  have HBad := Lib.hid hbad
  have HG := Lib.hid hg
  clear hbad hg
  have HA := Lib.hid hin.read
  have HF := Lib.hid hin.bits
  clear hin
  go_enter Tryd.func4, Tryd.ntmps4
  go_wp2_with (go_at_call 5; (with_reducible refine (alive_any _).mono ?_); rintro e w1 ⟨rfl, ho1⟩)
  have HA1 : Hid (NRead w1 A L) := HA.out.only ho1
  refine (lent_any A c L w1 HA1 (by omega)).mono ?_
  rintro e w2 ⟨g, cap, rfl, hc1, hc2, hN2, hg2, ho2⟩
  have HM2 : Hid (NRead w2 (some ⟨g, 0, none⟩) L) := lent_read hN2
  have HN2 := Lib.hid hN2
  have HO2 := Lib.hid (ho1.nil_trans ho2)
  have HA2 : Hid (NRead w2 A L) := HA1.out.only ho2
  clear hN2 ho1 ho2 HA1
  go_wp2_with fail
  refine (load_bad same _ cap L i w2 HM2 HF hl HBad.out).mono ?_
  rintro e w3 ⟨v, rfl, hv, ho3⟩
  have HN3 := HN2.out.only ho3 (by simp)
  have HA3 : Hid (NRead w3 A L) := HA2.out.only ho3
  obtain ⟨ga, hga, rfl, hb3⟩ := hv
  have HB3 := Lib.hid hb3
  have HO3 := Lib.hid (HO2.out.nil_trans ho3)
  clear hb3 ho3 HN2 HO2 HA2 HM2 HF
  go_wp2_with fail
  refine (stays_any A c g cap L w3 HA3 HN3 (by omega)).mono ?_
  rintro e w4 ⟨rfl, ho4⟩
  have HA4 : Hid (NRead w4 A L) := HA3.out.only ho4
  have HB4 := Lib.hid (HB3.out.only ho4 (by simp))
  have HO4 := Lib.hid (HO3.out.nil_trans ho4)
  clear ho4 HB3 HO3 HA3 HN3
  go_wp2_with fail
  refine (rcheck_any A c L w4 HA4 hl).mono ?_
  rintro e w5 ⟨⟨hall, -⟩ | ⟨j, hj, rfl⟩, ho5⟩
  · have := hall i HBad.out.1
    rw [HBad.out.2.2] at this
    cases this
  obtain rfl : j = i := first_one hj HBad.out
  have HB5 := Lib.hid (HB4.out.only ho5 (by simp))
  have HO5 := Lib.hid (HO4.out.nil_trans ho5)
  have HG5 := HO5.out.cell HG.out (by simp)
  clear ho5 HB4 HO4 hj
  go_wp2_with fail
  refine (where_at 1 ga _ _ HB5.out HG5).mono ?_
  rintro e w6 ⟨rfl, ho6⟩
  have HB6 := Lib.hid (HB5.out.only ho6 (by simp))
  have HO6 := Lib.hid (HO5.out.nil_trans ho6)
  clear ho6 HB5 HO5 HG5
  go_wp2_with fail
  refine (code_at 1 (by omega) ga _ _ HB6.out).mono ?_
  rintro e w7 ⟨rfl, ho7⟩
  have HO7 := Lib.hid (HO6.out.nil_trans ho7)
  clear ho7 HB6 HO6
  go_wp2_with fail
  go_ret
  exact ⟨by simp, HO7.out⟩

set_option maxHeartbeats 3200000 in
set_option maxRecDepth 100000 in
theorem dagLoads_good (A : Option Addr) (c : Nat) (L : List Nd) (same : Bool) (w : World) (hin : NodesIn w A L) (hl : (L.length : Int) ≤ 120) (hok : Hid (AllOk L)) :
    Calls Tryd.prog 4 #[.slice A L.length c, .bool same] w fun e w' => e = .returned (.bool true) ∧ Only [] w w' := by
  obtain ⟨i0, hi, hz0, hz1, hz2⟩ := int_parts
  have HA := Lib.hid hin.read
  have HF := Lib.hid hin.bits
  clear hin
  go_enter Tryd.func4, Tryd.ntmps4
  go_wp2_with (go_at_call 5; (with_reducible refine (alive_any _).mono ?_); rintro e w1 ⟨rfl, ho1⟩)
  have HA1 : Hid (NRead w1 A L) := HA.out.only ho1
  refine (lent_any A c L w1 HA1 (by omega)).mono ?_
  rintro e w2 ⟨g, cap, rfl, hc1, hc2, hN2, hg2, ho2⟩
  have HM2 : Hid (NRead w2 (some ⟨g, 0, none⟩) L) := lent_read hN2
  have HN2 := Lib.hid hN2
  have HO2 := Lib.hid (ho1.nil_trans ho2)
  have HA2 : Hid (NRead w2 A L) := HA1.out.only ho2
  clear hN2 ho1 ho2 HA1
  go_wp2_with fail
  refine (load_good same _ cap L w2 HM2 HF hl hok).mono ?_
  rintro e w3 ⟨d, r, dv, du, rfl, hr, hR⟩
  have ho3 := hR.own.only
  have HN3 := HN2.out.only ho3 (by simp)
  have HA3 : Hid (NRead w3 A L) := HA2.out.only ho3
  obtain ⟨dA, dc, rfl, hdu⟩ := hR.ids.shape
  have HDU3 : Hid (IRead w3 dA (ld r L).2) := hdu
  have HD3 := Lib.hid hR.own.is
  have HO3 := Lib.hid (HO2.out.nil_trans ho3)
  have Hr := Lib.hid hr
  have HLd := Lib.hid (ld_ok r (by omega) hok.out L.length (Nat.le_refl _))
  clear hdu hR hr ho3 HN2 HO2 HA2 HM2 HF
  go_wp2_with fail
  refine (stays_any A c g cap L w3 HA3 HN3 (by omega)).mono ?_
  rintro e w4 ⟨rfl, ho4⟩
  have HA4 : Hid (NRead w4 A L) := HA3.out.only ho4
  have HO4 := Lib.hid (HO3.out.nil_trans ho4)
  have HD4 := Lib.hid (HD3.out.only ho4 (by simp))
  have HDU4 : Hid (IRead w4 dA (ld r L).2) := HDU3.out.only ho4
  clear ho4 HO3 HA3 HN3 HD3 HDU3
  go_wp2_with fail
  refine (rcheck_any A c L w4 HA4 hl).mono ?_
  rintro e w5 ⟨⟨-, rfl⟩ | ⟨j, hj, -⟩, ho5⟩
  rotate_left 1
  · have := hok.out j hj.1
    rw [hj.2.2] at this
    cases this
  have HA5 : Hid (NRead w5 A L) := HA4.out.only ho5
  have HO5 := Lib.hid (HO4.out.nil_trans ho5)
  have HD5 := Lib.hid (HD4.out.only ho5 (by simp))
  have HDU5 : Hid (IRead w5 dA (ld r L).2) := HDU4.out.only ho5
  clear ho5 HO4 HA4 HD4 HDU4
  have hlen : (ld r L).2.length = L.length := by have := HLd.out.ids; rwa [List.take_length] at this
  go_wp2_with fail
  generalize hp : w5.heap.size = p
  have R0 : Hid (PlRel w5 p same (ld (shr same) (L.take 0)) (.slice none 0 0) (.slice none 0 0) (w5.alloc (.cells #[.slice none 0 0, .bool same] 28))) := by rw [← hp]; exact pl_new
  have Hlen := Lib.hid hlen
  clear hp hlen
  go_loopw [14, 15] (fun u i wr => ∃ (k : Nat) (v : Value), k ≤ L.length ∧ i = .int .i64 (k : Int) ∧ PlRel w5 p same (ld (shr same) (L.take k)) v u wr) (fun _ i _ => L.length - (intOf i).toNat)
  case atStart => exact ⟨0, _, Nat.zero_le _, rfl, R0.out⟩
  case round =>
    obtain ⟨k, v, hk, rfl, hR⟩ := hrel
    have Hle := ld_ok (shr same) (by omega) hok.out k hk
    have Htake : k < L.length → ld (shr same) (L.take (k + 1)) = ldStep (shr same) (ld (shr same) (L.take k)) (L[k]?.getD nd0) := fun h => ld_take (shr same) L h
    have Hfin : k = L.length → ld (shr same) (L.take k) = ld r L := fun e => by
      rw [e, List.take_length]
      refine ld_share ?_ L
      rw [Hr.out]
      cases same <;> simp [shr]
    have HLe := Lib.hid Hle
    have HTake := Lib.hid Htake
    have HFin := Lib.hid Hfin
    have HR := Lib.hid hR
    clear Hle Htake Hfin hR R0
    generalize ld (shr same) (L.take k) = q at *
    obtain ⟨ns, ids⟩ := q
    by_cases hlt : k < L.length
    · obtain ⟨b, o, rfl, h1⟩ := HA5.out k hlt
      obtain ⟨p0, p1, p2, p3⟩ := h1.only HR.out.only (by simp)
      have hokk : takesB k (L[k]?.getD nd0).k (L[k]?.getD nd0).f (L[k]?.getD nd0).a (L[k]?.getD nd0).b = true := hok.out k hlt
      have HT := Lib.hid (reNd_takes HLe.out (by omega) hokk)
      have HL1 := Lib.hid (HTake.out hlt)
      clear h1 HTake HFin
      generalize L[k]?.getD nd0 = n at p0 p1 p2 p3 hokk HT HL1
      obtain ⟨nk, nf, na, nb⟩ := n
      have hk' : (k : Int) < (L.length : Int) := by omega
      have hsplit : nk = 0 ∨ (nk = 5 ∧ nb = 0 ∧ ∃ x : Nat, na = (x : Int) ∧ x < k) ∨ ((nk != 0) = true ∧ (nk != 5) = true ∧ ∃ x y : Nat, na = (x : Int) ∧ nb = (y : Int) ∧ x < k ∧ y < k) := by
        have h := fine_of _ _ _ _ _ hokk
        unfold Fine at h
        simp only [validB, decide_eq_true_eq] at h
        rcases h with ⟨_, h, _⟩ | ⟨hv, h, ha⟩ | ⟨hv, h0, h5, ha, hb⟩
        · exact .inl h
        · refine .inr (.inl ⟨h, by omega, na.toNat, by omega, by omega⟩)
        · exact .inr (.inr ⟨by simpa using h0, by simpa using h5, na.toNat, nb.toNat, by omega, by omega, by omega, by omega⟩)
      clear hokk
      obtain ⟨uA, uc, rfl, hread⟩ := HR.out.ids.shape
      simp only at hread
      have hil := HLe.out.ids
      simp only at hil
      have HRead := Lib.hid hread
      have HIL : Hid (ids.length ≤ 120 ∧ ids.length = k) := by show _ ∧ _; omega
      clear hread hil
      simp only at p0 p1 p2 p3
      have hns : Hid (ns.length < 20000) := by show _ < _; have := HLe.out.ns; simp only at this; omega
      rcases hsplit with rfl | ⟨rfl, rfl, x, rfl, hx⟩ | ⟨g0, g5, x, y, rfl, rfl, hx, hy⟩
      · have HX := Lib.hid (ld_at (m := ⟨0, nf, na, nb⟩) (by simp [reNd]) HT.out HL1.out)
        clear HT HL1
        go_wp2_with fail
        refine (pput_any p v same ns 0 nf na nb _ (HR.out.nil ((Only.refl _ _).alloc _)).is hns).mono ?_
        rintro e w6 ⟨v6, rfl, hd6, hst6⟩
        have R6 := Lib.hid ((HR.out.nil ((Only.refl _ _).alloc _)).put hst6 hd6)
        clear hst6 hd6 HR HRead
        go_wp2_with (at_builtin; refine wpList_append_lies _ rfl _ _ _ rfl 0 3 i0 _ 1 8 Tryd.underlying59 hi hz0 hz1 hz2 rfl (by decide) (.slice _ ids.length uc) ids.length (ints ids) rfl (by exact R6.out.ids.alloc _) ⟨w6.heap.size, 0, none⟩ 1 1 [.int .i64 (putId (shr same) ns ⟨0, nf, na, nb⟩)] rfl rfl (by exact cell_one_new _ _ _) (by simp [Value.oneCell']) (by decide) (by have := HIL.out.1; simp only [maxLen]; omega) (by have := HIL.out.1; omega) (Nat.zero_le _) (w6.heap.size + 1) (by simp) ?_; intro g' cap' w7 hown7 hgr7 hat7 hlt7; have R7 := Lib.hid (R6.out.push hown7 hgr7 hat7); clear hown7 hgr7 hat7)
        go_roundw
        case rel => exact ⟨k + 1, v6, by omega, by go_num, by rw [HX.out.2]; exact R7.out⟩
        case measure => simp [intOf]; omega
      · have HX := Lib.hid (ld_at (m := ⟨5, nf, ids[x]?.getD 0, 0⟩) (by simp [reNd]) HT.out HL1.out)
        clear HT HL1
        obtain ⟨ib, io, rfl, ix⟩ := HRead.out x (by have := HIL.out.2; omega)
        have hx1 : x < ids.length := by have := HIL.out.2; omega
        have ix' := ((Only.refl [] wr).alloc (.cells #[.int .i64 5, .float .f64 nf, .int .i64 (x : Int), .int .i64 0] 43)).cell ix (by simp)
        clear ix
        generalize ids[x]?.getD 0 = ax at HX ix'
        go_wp2_with fail
        refine (pput_any p v same ns 5 nf ax 0 _ (HR.out.nil ((Only.refl _ _).alloc _)).is hns).mono ?_
        rintro e w6 ⟨v6, rfl, hd6, hst6⟩
        have R6 := Lib.hid ((HR.out.nil ((Only.refl _ _).alloc _)).put hst6 hd6)
        clear hst6 hd6 HR HRead
        go_wp2_with (at_builtin; refine wpList_append_lies _ rfl _ _ _ rfl 0 3 i0 _ 1 8 Tryd.underlying59 hi hz0 hz1 hz2 rfl (by decide) (.slice _ ids.length uc) ids.length (ints ids) rfl (by exact R6.out.ids.alloc _) ⟨w6.heap.size, 0, none⟩ 1 1 [.int .i64 (putId (shr same) ns ⟨5, nf, ax, 0⟩)] rfl rfl (by exact cell_one_new _ _ _) (by simp [Value.oneCell']) (by decide) (by have := HIL.out.1; simp only [maxLen]; omega) (by have := HIL.out.1; omega) (Nat.zero_le _) (w6.heap.size + 1) (by simp) ?_; intro g' cap' w7 hown7 hgr7 hat7 hlt7; have R7 := Lib.hid (R6.out.push hown7 hgr7 hat7); clear hown7 hgr7 hat7)
        go_roundw
        case rel => exact ⟨k + 1, v6, by omega, by go_num, by rw [HX.out.2]; exact R7.out⟩
        case measure => simp [intOf]; omega
      · have hx1 : x < ids.length := by have := HIL.out.2; omega
        have hy1 : y < ids.length := by have := HIL.out.2; omega
        have hkk : nk ≠ 0 ∧ nk ≠ 5 := by simpa using And.intro g0 g5
        have HX := Lib.hid (ld_at (m := ⟨nk, nf, ids[x]?.getD 0, ids[y]?.getD 0⟩) (by simp [reNd, hkk]) HT.out HL1.out)
        clear HT HL1
        obtain ⟨ib, io, rfl, ix⟩ := HRead.out x hx1
        obtain ⟨ib', io', e, iy⟩ := HRead.out y hy1
        injection e with e
        injection e with e1 e2
        subst e1 e2
        clear hkk
        generalize ids[x]?.getD 0 = ax at HX ix
        generalize ids[y]?.getD 0 = ay at HX iy
        have ix' := ((Only.refl [] wr).alloc (.cells #[.int .i64 nk, .float .f64 nf, .int .i64 (x : Int), .int .i64 (y : Int)] 43)).cell ix (by simp)
        have iy' := ((Only.refl [] wr).alloc (.cells #[.int .i64 nk, .float .f64 nf, .int .i64 ax, .int .i64 (y : Int)] 43)).cell iy (by simp)
        clear ix iy
        go_wp2_with fail
        refine (pput_any p v same ns nk nf ax ay _ (HR.out.nil ((Only.refl _ _).alloc _)).is hns).mono ?_
        rintro e w6 ⟨v6, rfl, hd6, hst6⟩
        have R6 := Lib.hid ((HR.out.nil ((Only.refl _ _).alloc _)).put hst6 hd6)
        clear hst6 hd6 HR HRead
        go_wp2_with (at_builtin; refine wpList_append_lies _ rfl _ _ _ rfl 0 3 i0 _ 1 8 Tryd.underlying59 hi hz0 hz1 hz2 rfl (by decide) (.slice _ ids.length uc) ids.length (ints ids) rfl (by exact R6.out.ids.alloc _) ⟨w6.heap.size, 0, none⟩ 1 1 [.int .i64 (putId (shr same) ns ⟨nk, nf, ax, ay⟩)] rfl rfl (by exact cell_one_new _ _ _) (by simp [Value.oneCell']) (by decide) (by have := HIL.out.1; simp only [maxLen]; omega) (by have := HIL.out.1; omega) (Nat.zero_le _) (w6.heap.size + 1) (by simp) ?_; intro g' cap' w7 hown7 hgr7 hat7 hlt7; have R7 := Lib.hid (R6.out.push hown7 hgr7 hat7); clear hown7 hgr7 hat7)
        go_roundw
        case rel => exact ⟨k + 1, v6, by omega, by go_num, by rw [HX.out.2]; exact R7.out⟩
        case measure => simp [intOf]; omega
    · have hnl : ¬ (k : Int) < (L.length : Int) := by omega
      have HL1 := HFin.out (by omega)
      clear HTake HFin HLe
      have HDU : Hid (IRead wr dA ids) := by
        have := HDU5.out.only HR.out.only
        rwa [← HL1] at this
      have HD : Hid (DagIs wr d dv r ns) := by
        have := HD5.out.only HR.out.only (by simp)
        rwa [← HL1] at this
      have hil : ids.length = L.length := by have := Hlen.out; rwa [← HL1] at this
      obtain ⟨uA, uc, rfl, hread⟩ := HR.out.ids.shape
      have HRead : Hid (IRead wr uA ids) := hread
      obtain ⟨pA, pc, rfl, _⟩ := HR.out.is.shape
      have hn : NodesAt wr (.slice pA ns.length pc) ns := HR.out.is.row
      have HN := Lib.hid hn.read.2
      have HRO := Lib.hid (HO5.out.nil_trans HR.out.only)
      have cp : wr.cell? ⟨p, 0, none⟩ = some (.slice pA ns.length pc) := HR.out.is.blk.cell 0
      have Hns : Hid (ns.length ≤ 120) := by
        have h := HLd.out.ns
        rw [List.take_length, ← HL1] at h
        show _ ≤ _
        simp only at h
        omega
      have hil2 : Hid (ids.length = L.length) := hil
      clear hread hn HL1 hil Hlen HDU5 HD5 HA5 HR HLd
      simp only [hil2.out]
      have hsi := fun W hd hw => sameints_any dA uA dc uc ids W hd hw (by have := hil2.out; omega)
      rw [hil2.out] at hsi
      have Hsi := Lib.hid hsi
      clear hsi hil2
      go_wp2_with fail
      go_region_held3 (fun w' => w'.cell? ⟨p, 0, none⟩ = some (.slice pA ns.length pc)) (go_keep) (first
        | (go_at_call 24; refine (Hsi.out _ (HDU.out.only (Only.refl _ _).drew) (HRead.out.only (Only.refl _ _).drew)).mono ?_; rintro e x1 ⟨rfl, hox1⟩; have Hx1 := Lib.hid ((Only.refl [] wr).drew.nil_trans hox1); have cp1 := Hx1.out.cell cp (by simp))
        | (go_at_call 11; refine (dall_any _ dv r ns _ (HD.out.only Hx1.out (by simp)) (by have := Hns.out; show _ < _; omega)).mono ?_; rintro e x2 ⟨ue, rfl, hne, _, hox2⟩; have Hx2 := Lib.hid (Hx1.out.nil_trans hox2); obtain ⟨Ae, ce, rfl, _⟩ := hne.shape; have cp2 := Hx2.out.cell cp (by simp))
        | (go_at_call 15; refine (samenodes_any Ae pA ce pc ns _ hne.read.2 (HN.out.only Hx2.out) (by have := Hns.out; omega)).mono ?_; rintro e x3 ⟨rfl, hox3⟩; have Hx3 := Lib.hid (Hx2.out.nil_trans hox3); have cp3 := Hx3.out.cell cp (by simp)))
      go_wp2_with fail
      go_ret
      exact ⟨rfl, HRO.out.nil_trans Hx3.out⟩
end Go.Proofs.YtkiongpfpjfaaaaDoor
