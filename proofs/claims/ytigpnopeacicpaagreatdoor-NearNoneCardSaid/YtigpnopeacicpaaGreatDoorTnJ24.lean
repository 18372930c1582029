/-
  Joined texts.
-/
import Derived.Test.YtigpnopeacicpaaGreatDoorTnJ23
import Derived.Laws.MakeOwn
import Derived.Test.YtigpnopeacicpaaGreatDoorTnJ21
import Derived.Test.YtigpnopeacicpaaGreatDoorTnJ22
/-
  dag.Load.
-/
namespace Go.Proofs.YtigpnopeacicpaaGreatDoor
open Go.RowKit
attribute [local go_sem] run_store_float

theorem Tryz.intInfo : (Tryz.prog.info? 3).map (fun i => (i.zero, i.size, i.bytes)) = some (some (.int .i64 0), 1, 8) := by kernel_rfl
theorem int_parts : ∃ i : TypeInfo, Tryz.prog.info? 3 = some i ∧ i.zero = some (.int .i64 0) ∧ i.size = 1 ∧ i.bytes = 8 := by
  obtain ⟨i, h, e⟩ := Option.map_eq_some_iff.1 Tryz.intInfo
  simp only [Prod.mk.injEq] at e
  exact ⟨i, h, e.1, e.2.1, e.2.2⟩

/-- A row of ints of its own. -/
def ints (xs : List Int) : List Value := xs.map fun x => .int .i64 x
def IntsAt (w : World) (u : Value) (xs : List Int) : Prop := w.ownsRow 0 3 1 u xs.length (ints xs)
theorem IntsAt.shape {w : World} {u : Value} {xs : List Int} (h : IntsAt w u xs) : ∃ A c, u = .slice A xs.length c ∧ IRead w A xs := by
  rcases h.2 with ⟨rfl, h0⟩ | ⟨g, cap, cur, rfl, _, hg, hn, hm, _⟩
  · exact ⟨none, 0, by rw [h0], fun k hk => by omega⟩
  · refine ⟨_, cap, rfl, fun k hk => ⟨g, 0, rfl, ?_⟩⟩
    have hc := World.ownsRow.cells h (g := g) rfl
    have h1 := hc k (.int .i64 (xs[k]?.getD 0)) (by simp [ints, hk])
    rw [addr_add] at h1
    exact h1
theorem IntsAt.only {w w' : World} {u : Value} {xs : List Int} {S : List Nat} (h : IntsAt w u xs) (ho : Only S w w') (hn : ∀ g, u.ownBlock = some g → g ∉ S) : IntsAt w' u xs := ownsRow_only h ho hn
theorem IntsAt.lt {w : World} {u : Value} {xs : List Int} (h : IntsAt w u xs) : ∀ g, u.ownBlock = some g → g < w.heap.size := fun g hg => (World.ownsRow.lt h g hg).2

/-- Where Load's loop stands: the dag, and the ids. -/
structure LdRel (w0 : World) (d : Nat) (r : Option Nat) (q : List Nd × List Int) (v u : Value) (wr : World) : Prop where
  own : Own w0 wr d v r q.1
  ids : IntsAt wr u q.2
  fresh : ∀ g, u.ownBlock = some g → w0.heap.size ≤ g ∧ g ∉ foot d v r
theorem LdRel.only {w0 w w' : World} {d : Nat} {r : Option Nat} {q : List Nd × List Int} {v u : Value} (h : LdRel w0 d r q v u w) (ho : Only [] w w') : LdRel w0 d r q v u w' :=
  ⟨h.own.other ho (by simp) (by simp), h.ids.only ho (by simp), h.fresh⟩
theorem LdRel.put {w0 w w' : World} {d : Nat} {r : Option Nat} {q : List Nd × List Int} {v v' u : Value} {ns' : List Nd} (h : LdRel w0 d r q v u w) (hs : Step d v r w v' w') (hd : DagIs w' d v' r ns') : LdRel w0 d r (ns', q.2) v' u w' :=
  ⟨h.own.step hs hd, h.ids.only hs.2 (fun g hg => (h.fresh g hg).2), fun g hg => ⟨(h.fresh g hg).1, fun hm => by
    rcases hs.foot g hm with h1 | h1
    · exact (h.fresh g hg).2 h1
    · have := h.ids.lt g hg
      omega⟩⟩
theorem LdRel.pre {w0 w1 w : World} {d : Nat} {r : Option Nat} {q : List Nd × List Int} {v u : Value} (h : LdRel w1 d r q v u w) (ho : Only [] w0 w1) : LdRel w0 d r q v u w :=
  ⟨⟨h.own.is, fun k hk => Nat.le_trans ho.size (h.own.fresh k hk), ho.nil_trans h.own.only⟩, h.ids, fun g hg => ⟨Nat.le_trans ho.size (h.fresh g hg).1, (h.fresh g hg).2⟩⟩
theorem LdRel.push {w0 w w' : World} {d : Nat} {r : Option Nat} {q : List Nd × List Int} {v u : Value} {g cap : Nat} {x : Int} (h : LdRel w0 d r q v u w) (hown : w'.ownsRow 0 3 1 (.slice (some ⟨g, 0, none⟩) (q.2.length + 1) cap) (q.2.length + 1) (ints q.2 ++ [.int .i64 x]))
    (hgr : (w.alloc (.cells #[.int .i64 x] 3)).grownBy w' u.ownBlock) (hat : u.ownBlock = some g ∨ g = w.heap.size + 1) : LdRel w0 d r (q.1, q.2 ++ [x]) v (.slice (some ⟨g, 0, none⟩) (q.2.length + 1) cap) w' := by
  have ho : Only u.ownBlock.toList w w' := ((Only.refl _ w).alloc _).trans (Only.of_grown (S := u.ownBlock.toList) hgr (by simp)) (fun k hk => .inl hk)
  refine ⟨h.own.other ho (fun k hk => (h.fresh k (by simpa using hk)).1) (fun k hk hm => (h.fresh k (by simpa using hm)).2 hk), ?_, ?_⟩
  · unfold IntsAt
    simpa [ints] using hown
  · intro g' hg'
    have e : g = g' := by simpa [Value.ownBlock] using hg'
    subst e
    rcases hat with e | e
    · exact h.fresh g e
    · refine ⟨by have := h.own.only.size; omega, fun hm => ?_⟩
      have := h.own.is.lt g hm
      omega

theorem ld_at {r : Option Nat} {ns : List Nd} {ids : List Int} {n m : Nd} {X : List Nd × List Int} (e : reNd ids n = m) (hT : takesB (ns, ids).1.length (reNd (ns, ids).2 n).k (reNd (ns, ids).2 n).f (reNd (ns, ids).2 n).a (reNd (ns, ids).2 n).b = true) (hL : X = ldStep r (ns, ids) n) :
    takesB ns.length m.k m.f m.a m.b = true ∧ X = (putNs r ns m, ids ++ [putId r ns m]) := by
  subst e
  exact ⟨hT, hL⟩

def LdGood (same : Bool) (L : List Nd) (w : World) (e : Ending) (w' : World) : Prop :=
  ∃ d r v u, e = .returned (.tuple #[.pointer (some ⟨d, 0, none⟩), u, .nilIface]) ∧ (r = none ↔ same = false) ∧ LdRel w d r (ld r L) v u w'

set_option maxHeartbeats 3200000 in
set_option maxRecDepth 100000 in
theorem load_good (same : Bool) (A : Option Addr) (c : Nat) (L : List Nd) (w : World) (hA : Hid (NRead w A L)) (hf : Hid (∀ k, k < L.length → (L[k]?.getD nd0).f < 2 ^ 64)) (hl : (L.length : Int) ≤ 1000) (hok : Hid (AllOk L)) :
    Calls Tryz.prog 111 #[.bool same, .slice A L.length c] w (LdGood same L w) := by
  obtain ⟨i0, hi, hz0, hz1, hz2⟩ := int_parts
  go_enter Tryz.func111, Tryz.ntmps111
  go_wp2_with fail
  refine (ccheck_any A c L _ hA hf hl).mono ?_
  rintro e w1 ⟨⟨-, rfl⟩ | ⟨i, hi, _⟩, ho1⟩
  rotate_left 1
  · have := hok.out i hi.1
    rw [hi.2.2] at this
    cases this
  have Ho1 := Lib.hid ho1
  clear ho1
  go_wp2_with fail
  refine (new_any same _).mono ?_
  rintro e w2 ⟨r, rfl, hd2, hr2, hm2, ho2⟩
  have A2 := Lib.hid (own_new hd2 hm2 ho2)
  have Hr := Lib.hid hr2
  clear hd2 hm2 ho2 hr2
  obtain ⟨w3, hmk, hrow, hgr⟩ := run_make_own (P := Tryz.prog) w2 0 108 3 i0 (.int .i64 0) 1 Tryz.underlying108 hi hz0 hz1 .i64 .i64 L.length (by rw [hz2]; omega) (by simp only [maxLen]; omega) (Nat.zero_le _)
  generalize hdd : w1.heap.size = d at *
  have R0 : Hid (LdRel w1 d r ([], []) (.slice none 0 0) (.slice (some ⟨w2.heap.size, 0, none⟩) 0 L.length) w3) :=
    ⟨A2.out.other (Only.of_grown (S := []) hgr (by simp)) (by simp) (by simp), hrow, fun g hg => by
      have e : w2.heap.size = g := by simpa [Value.ownBlock] using hg
      subst e
      exact ⟨A2.out.only.size, fun hm => by
        have := A2.out.is.lt _ hm
        omega⟩⟩
  clear A2 hrow hgr
  go_wp2_with fail
  clear hmk
  go_loopw [9, 26] (fun u i wr => ∃ (k : Nat) (v : Value), k ≤ L.length ∧ i = .int .i64 (k : Int) ∧ LdRel w1 d r (ld r (L.take k)) v u wr) (fun _ i _ => L.length - (intOf i).toNat)
  case atStart => exact ⟨0, _, Nat.zero_le _, rfl, R0.out⟩
  case round =>
    obtain ⟨k, v, hk, rfl, hR⟩ := hrel
    have Hle := ld_ok r (by omega) hok.out k hk
    have Htake : k < L.length → ld r (L.take (k + 1)) = ldStep r (ld r (L.take k)) (L[k]?.getD nd0) := fun h => ld_take r L h
    have Hfin : k = L.length → ld r (L.take k) = ld r L := fun e => by rw [e, List.take_length]
    have HLe := Lib.hid Hle
    have HTake := Lib.hid Htake
    have HFin := Lib.hid Hfin
    have HR := Lib.hid hR
    clear Hle Htake Hfin hR R0
    generalize ld r (L.take k) = q at *
    obtain ⟨ns, ids⟩ := q
    by_cases hlt : k < L.length
    · obtain ⟨b, o, rfl, h1⟩ := hA.out k hlt
      obtain ⟨p0, p1, p2, p3⟩ := (h1.only Ho1.out (by simp)).only HR.out.own.only (by simp)
      have HN := Lib.hid (hf.out k hlt)
      have hokk : takesB k (L[k]?.getD nd0).k (L[k]?.getD nd0).f (L[k]?.getD nd0).a (L[k]?.getD nd0).b = true := hok.out k hlt
      have HT := Lib.hid (reNd_takes HLe.out (by omega) hokk)
      have HL1 := Lib.hid (HTake.out hlt)
      clear h1 HTake HFin
      generalize L[k]?.getD nd0 = n at p0 p1 p2 p3 HN hokk HT HL1
      obtain ⟨nk, nf, na, nb⟩ := n
      have hk' : (k : Int) < (L.length : Int) := by omega
      have hsplit : nk = 0 ∨ (nk = 5 ∧ nb = 0 ∧ ∃ x : Nat, na = (x : Int) ∧ x < k) ∨ ((nk = 1 ∨ nk = 2 ∨ nk = 3 ∨ nk = 4) ∧ ∃ x y : Nat, na = (x : Int) ∧ nb = (y : Int) ∧ x < k ∧ y < k) := by
        have h := fine_of _ _ _ _ _ hokk
        unfold Fine at h
        simp only [validB, decide_eq_true_eq] at h
        rcases h with ⟨_, h, _⟩ | ⟨hv, h, ha⟩ | ⟨hv, h0, h5, ha, hb⟩
        · exact .inl h
        · refine .inr (.inl ⟨h, by omega, na.toNat, by omega, by omega⟩)
        · exact .inr (.inr ⟨by omega, na.toNat, nb.toNat, by omega, by omega, by omega, by omega⟩)
      clear hokk
      obtain ⟨uA, uc, rfl, hread⟩ := HR.out.ids.shape
      simp only at hread
      have hil := HLe.out.ids
      simp only at hil
      have HRead := Lib.hid hread
      have HIL : Hid (ids.length ≤ 1000 ∧ ids.length = k) := by show _ ∧ _; omega
      clear hread hil
      simp only at p0 p1 p2 p3
      replace HN : Hid (nf < 2 ^ 64) := HN
      have hns : ns.length < 20000 := by have := HLe.out.ns; simp only at this; omega
      rcases hsplit with rfl | ⟨rfl, rfl, x, rfl, hx⟩ | ⟨h4, x, y, rfl, rfl, hx, hy⟩
      · have HX := Lib.hid (ld_at (m := ⟨0, nf, na, nb⟩) (by simp [reNd]) HT.out HL1.out)
        clear HT HL1
        go_wp2_with fail
        refine (put_any d v r ns 0 nf na nb _ HN (HR.out.only ((Only.refl _ _).alloc _)).own.is hns).mono ?_
        rintro e w5 ⟨ev, v5, rfl, hd5, hblk, ho5, hev⟩
        rw [if_pos HX.out.1] at hev
        subst hev
        have R5 := Lib.hid ((HR.out.only ((Only.refl _ _).alloc _)).put ⟨hblk, ho5⟩ hd5)
        clear hblk ho5 hd5 HR HRead
        go_wp2_with (at_builtin; refine wpList_append_lies _ rfl _ _ _ rfl 0 3 i0 _ 1 8 Tryz.underlying108 hi hz0 hz1 hz2 rfl (by decide) (.slice _ ids.length uc) ids.length (ints ids) rfl (by exact R5.out.ids.alloc _) ⟨w5.heap.size, 0, none⟩ 1 1 [.int .i64 (putId r ns ⟨0, nf, na, nb⟩)] rfl rfl (by exact cell_one_new _ _ _) (by simp [Value.oneCell']) (by decide) (by have := HIL.out.1; simp only [maxLen]; omega) (by have := HIL.out.1; omega) (Nat.zero_le _) (w5.heap.size + 1) (by simp) ?_; intro g cap w6 hown6 hgr6 hat6 hlt6; have R6 := Lib.hid (R5.out.push hown6 hgr6 hat6); clear hown6 hgr6 hat6)
        go_roundw
        case rel => exact ⟨k + 1, v5, by omega, by go_num, by rw [HX.out.2]; exact R6.out⟩
        case measure => simp [intOf]; omega
      · have HX := Lib.hid (ld_at (m := ⟨5, nf, ids[x]?.getD 0, 0⟩) (by simp [reNd]) HT.out HL1.out)
        clear HT HL1
        obtain ⟨ib, io, rfl, ix⟩ := HRead.out x (by have := HIL.out.2; omega)
        have hx1 : x < ids.length := by have := HIL.out.2; omega
        have ix' := ((Only.refl [] wr).alloc (.cells #[.int .i64 5, .float .f64 nf, .int .i64 (x : Int), .int .i64 0] 95)).cell ix (by simp)
        clear ix
        generalize ids[x]?.getD 0 = ax at HX ix'
        go_wp2_with fail
        refine (put_any d v r ns 5 nf ax 0 _ HN (HR.out.only ((Only.refl _ _).alloc _)).own.is hns).mono ?_
        rintro e w5 ⟨ev, v5, rfl, hd5, hblk, ho5, hev⟩
        rw [if_pos HX.out.1] at hev
        subst hev
        have R5 := Lib.hid ((HR.out.only ((Only.refl _ _).alloc _)).put ⟨hblk, ho5⟩ hd5)
        clear hblk ho5 hd5 HR HRead
        go_wp2_with (at_builtin; refine wpList_append_lies _ rfl _ _ _ rfl 0 3 i0 _ 1 8 Tryz.underlying108 hi hz0 hz1 hz2 rfl (by decide) (.slice _ ids.length uc) ids.length (ints ids) rfl (by exact R5.out.ids.alloc _) ⟨w5.heap.size, 0, none⟩ 1 1 [.int .i64 (putId r ns ⟨5, nf, ax, 0⟩)] rfl rfl (by exact cell_one_new _ _ _) (by simp [Value.oneCell']) (by decide) (by have := HIL.out.1; simp only [maxLen]; omega) (by have := HIL.out.1; omega) (Nat.zero_le _) (w5.heap.size + 1) (by simp) ?_; intro g cap w6 hown6 hgr6 hat6 hlt6; have R6 := Lib.hid (R5.out.push hown6 hgr6 hat6); clear hown6 hgr6 hat6)
        go_roundw
        case rel => exact ⟨k + 1, v5, by omega, by go_num, by rw [HX.out.2]; exact R6.out⟩
        case measure => simp [intOf]; omega
      · have hx1 : x < ids.length := by have := HIL.out.2; omega
        have hy1 : y < ids.length := by have := HIL.out.2; omega
        have hkk : nk ≠ 0 ∧ nk ≠ 5 := by omega
        have HX := Lib.hid (ld_at (m := ⟨nk, nf, ids[x]?.getD 0, ids[y]?.getD 0⟩) (by simp [reNd, hkk]) HT.out HL1.out)
        clear HT HL1
        obtain ⟨ib, io, rfl, ix⟩ := HRead.out x hx1
        obtain ⟨ib', io', e, iy⟩ := HRead.out y hy1
        injection e with e
        injection e with e1 e2
        subst e1 e2
        clear hkk
        generalize ids[x]?.getD 0 = ax at HX ix
        generalize ids[y]?.getD 0 = ay at HX iy
        have iy' := ((Only.refl [] wr).alloc (.cells #[.int .i64 nk, .float .f64 nf, .int .i64 (x : Int), .int .i64 (y : Int)] 95)).cell iy (by simp)
        have ix' := ((Only.refl [] wr).alloc (.cells #[.int .i64 nk, .float .f64 nf, .int .i64 (x : Int), .int .i64 ay] 95)).cell ix (by simp)
        clear ix iy
        rcases h4 with rfl | rfl | rfl | rfl
        · go_wp2_with fail
          refine (put_any d v r ns 1 nf ax ay _ HN (HR.out.only ((Only.refl _ _).alloc _)).own.is hns).mono ?_
          rintro e w5 ⟨ev, v5, rfl, hd5, hblk, ho5, hev⟩
          rw [if_pos HX.out.1] at hev
          subst hev
          have R5 := Lib.hid ((HR.out.only ((Only.refl _ _).alloc _)).put ⟨hblk, ho5⟩ hd5)
          clear hblk ho5 hd5 HR HRead
          go_wp2_with (at_builtin; refine wpList_append_lies _ rfl _ _ _ rfl 0 3 i0 _ 1 8 Tryz.underlying108 hi hz0 hz1 hz2 rfl (by decide) (.slice _ ids.length uc) ids.length (ints ids) rfl (by exact R5.out.ids.alloc _) ⟨w5.heap.size, 0, none⟩ 1 1 [.int .i64 (putId r ns ⟨1, nf, ax, ay⟩)] rfl rfl (by exact cell_one_new _ _ _) (by simp [Value.oneCell']) (by decide) (by have := HIL.out.1; simp only [maxLen]; omega) (by have := HIL.out.1; omega) (Nat.zero_le _) (w5.heap.size + 1) (by simp) ?_; intro g cap w6 hown6 hgr6 hat6 hlt6; have R6 := Lib.hid (R5.out.push hown6 hgr6 hat6); clear hown6 hgr6 hat6)
          go_roundw
          case rel => exact ⟨k + 1, v5, by omega, by go_num, by rw [HX.out.2]; exact R6.out⟩
          case measure => simp [intOf]; omega
        · go_wp2_with fail
          refine (put_any d v r ns 2 nf ax ay _ HN (HR.out.only ((Only.refl _ _).alloc _)).own.is hns).mono ?_
          rintro e w5 ⟨ev, v5, rfl, hd5, hblk, ho5, hev⟩
          rw [if_pos HX.out.1] at hev
          subst hev
          have R5 := Lib.hid ((HR.out.only ((Only.refl _ _).alloc _)).put ⟨hblk, ho5⟩ hd5)
          clear hblk ho5 hd5 HR HRead
          go_wp2_with (at_builtin; refine wpList_append_lies _ rfl _ _ _ rfl 0 3 i0 _ 1 8 Tryz.underlying108 hi hz0 hz1 hz2 rfl (by decide) (.slice _ ids.length uc) ids.length (ints ids) rfl (by exact R5.out.ids.alloc _) ⟨w5.heap.size, 0, none⟩ 1 1 [.int .i64 (putId r ns ⟨2, nf, ax, ay⟩)] rfl rfl (by exact cell_one_new _ _ _) (by simp [Value.oneCell']) (by decide) (by have := HIL.out.1; simp only [maxLen]; omega) (by have := HIL.out.1; omega) (Nat.zero_le _) (w5.heap.size + 1) (by simp) ?_; intro g cap w6 hown6 hgr6 hat6 hlt6; have R6 := Lib.hid (R5.out.push hown6 hgr6 hat6); clear hown6 hgr6 hat6)
          go_roundw
          case rel => exact ⟨k + 1, v5, by omega, by go_num, by rw [HX.out.2]; exact R6.out⟩
          case measure => simp [intOf]; omega
        · go_wp2_with fail
          refine (put_any d v r ns 3 nf ax ay _ HN (HR.out.only ((Only.refl _ _).alloc _)).own.is hns).mono ?_
          rintro e w5 ⟨ev, v5, rfl, hd5, hblk, ho5, hev⟩
          rw [if_pos HX.out.1] at hev
          subst hev
          have R5 := Lib.hid ((HR.out.only ((Only.refl _ _).alloc _)).put ⟨hblk, ho5⟩ hd5)
          clear hblk ho5 hd5 HR HRead
          go_wp2_with (at_builtin; refine wpList_append_lies _ rfl _ _ _ rfl 0 3 i0 _ 1 8 Tryz.underlying108 hi hz0 hz1 hz2 rfl (by decide) (.slice _ ids.length uc) ids.length (ints ids) rfl (by exact R5.out.ids.alloc _) ⟨w5.heap.size, 0, none⟩ 1 1 [.int .i64 (putId r ns ⟨3, nf, ax, ay⟩)] rfl rfl (by exact cell_one_new _ _ _) (by simp [Value.oneCell']) (by decide) (by have := HIL.out.1; simp only [maxLen]; omega) (by have := HIL.out.1; omega) (Nat.zero_le _) (w5.heap.size + 1) (by simp) ?_; intro g cap w6 hown6 hgr6 hat6 hlt6; have R6 := Lib.hid (R5.out.push hown6 hgr6 hat6); clear hown6 hgr6 hat6)
          go_roundw
          case rel => exact ⟨k + 1, v5, by omega, by go_num, by rw [HX.out.2]; exact R6.out⟩
          case measure => simp [intOf]; omega
        · go_wp2_with fail
          refine (put_any d v r ns 4 nf ax ay _ HN (HR.out.only ((Only.refl _ _).alloc _)).own.is hns).mono ?_
          rintro e w5 ⟨ev, v5, rfl, hd5, hblk, ho5, hev⟩
          rw [if_pos HX.out.1] at hev
          subst hev
          have R5 := Lib.hid ((HR.out.only ((Only.refl _ _).alloc _)).put ⟨hblk, ho5⟩ hd5)
          clear hblk ho5 hd5 HR HRead
          go_wp2_with (at_builtin; refine wpList_append_lies _ rfl _ _ _ rfl 0 3 i0 _ 1 8 Tryz.underlying108 hi hz0 hz1 hz2 rfl (by decide) (.slice _ ids.length uc) ids.length (ints ids) rfl (by exact R5.out.ids.alloc _) ⟨w5.heap.size, 0, none⟩ 1 1 [.int .i64 (putId r ns ⟨4, nf, ax, ay⟩)] rfl rfl (by exact cell_one_new _ _ _) (by simp [Value.oneCell']) (by decide) (by have := HIL.out.1; simp only [maxLen]; omega) (by have := HIL.out.1; omega) (Nat.zero_le _) (w5.heap.size + 1) (by simp) ?_; intro g cap w6 hown6 hgr6 hat6 hlt6; have R6 := Lib.hid (R5.out.push hown6 hgr6 hat6); clear hown6 hgr6 hat6)
          go_roundw
          case rel => exact ⟨k + 1, v5, by omega, by go_num, by rw [HX.out.2]; exact R6.out⟩
          case measure => simp [intOf]; omega
    · have hnl : ¬ (k : Int) < (L.length : Int) := by omega
      have HL1 := Lib.hid (HFin.out (by omega))
      clear HTake HFin HLe
      go_wp2_with fail
      go_returns
      exact ⟨d, r, v, _, rfl, Hr.out, by rw [← HL1.out]; exact HR.out.pre Ho1.out⟩
end Go.Proofs.YtigpnopeacicpaaGreatDoor

/-
  walk.Below: its closure 'visit'; what stands in memory.
-/
namespace Go.Proofs.YtigpnopeacicpaaGreatDoor
open Go.RowKit

/-- The memory of a search: the map of those met, the stack, the list of those found. -/
structure BelowSt (w0 w : World) (vb m nn : Nat) (f : Int → Option Int) (sb : Nat) (sv : Value) (S : List Int) (fv : Value) (F : List Int) : Prop where
  vis : Blk w vb 147 [.map (some m)]
  map : MapI w m nn f
  stk : Blk w sb 108 [sv]
  s : IntsAt w sv S
  f : IntsAt w fv F
  ap : ∀ g, sv.ownBlock = some g → fv.ownBlock ≠ some g
  fv_ : w0.heap.size ≤ vb
  fm : w0.heap.size ≤ m
  fs : w0.heap.size ≤ sb
  fsv : ∀ g, sv.ownBlock = some g → w0.heap.size ≤ g
  ffv : ∀ g, fv.ownBlock = some g → w0.heap.size ≤ g
  only : Only [] w0 w

theorem MapI.obj {w : World} {b n : Nat} {f : Int → Option Int} (h : MapI w b n f) : ∃ es clock, w.heap[b]? = some (.map es clock) := by
  obtain ⟨D, ⟨es, clock, h1, _⟩, _⟩ := h
  exact ⟨es, clock, h1⟩
theorem IntsAt.typ {w : World} {u : Value} {xs : List Int} (h : IntsAt w u xs) {g : Nat} (hg : u.ownBlock = some g) : ∃ cs fr, w.heap[g]? = some (.cells cs 3 fr) := by
  rcases h.2 with ⟨rfl, _⟩ | ⟨g', cap, cur, rfl, _, h1, _⟩
  · simp [Value.ownBlock] at hg
  · have e : g' = g := by simpa [Value.ownBlock] using hg
    subst e
    exact ⟨_, _, h1⟩
theorem heap_ne {w : World} {g g' : Nat} {o o' : Obj} (h : w.heap[g]? = some o) (h' : w.heap[g']? = some o') (hne : o ≠ o') : g ≠ g' := by
  rintro rfl
  rw [h] at h'
  exact hne (Option.some.inj h')

section
variable {w0 w w' : World} {vb m nn : Nat} {f : Int → Option Int} {sb : Nat} {sv : Value} {S : List Int} {fv : Value} {F : List Int}
theorem BelowSt.nil (h : BelowSt w0 w vb m nn f sb sv S fv F) (ho : Only [] w w') : BelowSt w0 w' vb m nn f sb sv S fv F :=
  ⟨h.vis.only ho (by simp), h.map.only ho (by simp), h.stk.only ho (by simp), h.s.only ho (by simp), h.f.only ho (by simp), h.ap, h.fv_, h.fm, h.fs, h.fsv, h.ffv, h.only.nil_trans ho⟩
theorem BelowSt.ne_mv (h : BelowSt w0 w vb m nn f sb sv S fv F) : vb ≠ m ∧ sb ≠ m ∧ (∀ g, sv.ownBlock = some g → g ≠ m) ∧ (∀ g, fv.ownBlock = some g → g ≠ m) := by
  obtain ⟨es, clock, hm⟩ := h.map.obj
  refine ⟨heap_ne h.vis hm (by simp), heap_ne h.stk hm (by simp), fun g hg => ?_, fun g hg => ?_⟩
  · obtain ⟨cs, fr, hc⟩ := h.s.typ hg
    exact heap_ne hc hm (by simp)
  · obtain ⟨cs, fr, hc⟩ := h.f.typ hg
    exact heap_ne hc hm (by simp)
theorem BelowSt.ne_s (h : BelowSt w0 w vb m nn f sb sv S fv F) : vb ≠ sb ∧ (∀ g, sv.ownBlock = some g → g ≠ vb ∧ g ≠ sb) ∧ (∀ g, fv.ownBlock = some g → g ≠ vb ∧ g ≠ sb) := by
  refine ⟨heap_ne h.vis h.stk (by intro e; injection e with _ e2; exact absurd e2 (by decide)), fun g hg => ?_, fun g hg => ?_⟩
  · obtain ⟨cs, fr, hc⟩ := h.s.typ hg
    exact ⟨heap_ne hc h.vis (by intro e; injection e with _ e2; exact absurd e2 (by decide)), heap_ne hc h.stk (by intro e; injection e with _ e2; exact absurd e2 (by decide))⟩
  · obtain ⟨cs, fr, hc⟩ := h.f.typ hg
    exact ⟨heap_ne hc h.vis (by intro e; injection e with _ e2; exact absurd e2 (by decide)), heap_ne hc h.stk (by intro e; injection e with _ e2; exact absurd e2 (by decide))⟩
/-- The map has been written. -/
theorem BelowSt.mark (h : BelowSt w0 w vb m nn f sb sv S fv F) {n' : Nat} {f' : Int → Option Int} (hm : MapI w' m n' f') (ho : Only [m] w w') : BelowSt w0 w' vb m n' f' sb sv S fv F := by
  obtain ⟨e1, e2, e3, e4⟩ := h.ne_mv
  exact ⟨h.vis.only ho (by simpa using e1), hm, h.stk.only ho (by simpa using e2), h.s.only ho (fun g hg => by simpa using e3 g hg), h.f.only ho (fun g hg => by simpa using e4 g hg), h.ap, h.fv_, h.fm, h.fs, h.fsv, h.ffv,
    h.only.trans ho (fun k hk => .inr (by have e : k = m := by simpa using hk
                                          have := h.fm
                                          omega))⟩
/-- The stack's variable has been written. -/
theorem BelowSt.stack (h : BelowSt w0 w vb m nn f sb sv S fv F) {sv' : Value} {S' : List Int} (hs : IntsAt w sv' S') (hap : ∀ g, sv'.ownBlock = some g → fv.ownBlock ≠ some g) (hf : ∀ g, sv'.ownBlock = some g → w0.heap.size ≤ g) :
    BelowSt w0 (w.setCell ⟨sb, 0, none⟩ sv') vb m nn f sb sv' S' fv F := by
  have ho : Only [sb] w (w.setCell ⟨sb, 0, none⟩ sv') := (Only.refl _ _).setCell (.inl (by simp)) _
  obtain ⟨e1, e2, e3, e4⟩ := h.ne_mv
  obtain ⟨d1, d2, d3⟩ := h.ne_s
  have hsn : ∀ g, sv'.ownBlock = some g → g ≠ sb := by
    intro g hg
    obtain ⟨cs, fr, hc⟩ := hs.typ hg
    exact heap_ne hc h.stk (by intro e; injection e with _ e2; exact absurd e2 (by decide))
  refine ⟨h.vis.only ho (by simpa using d1), h.map.only ho (by simpa using e2.symm), h.stk.set_ 0 _, hs.only ho (fun g hg => by simpa using hsn g hg), h.f.only ho (fun g hg => by simpa using (d3 g hg).2), hap, h.fv_, h.fm, h.fs, hf, h.ffv, ?_⟩
  refine h.only.trans ho (fun k hk => .inr ?_)
  have e : k = sb := by simpa using hk
  have := h.fs
  omega
/-- A row of ints of another's has grown; what follows of an append to the stack's row. -/
theorem BelowSt.grow_s (h : BelowSt w0 w vb m nn f sb sv S fv F) {g cap : Nat} {x : Int} (hown : w'.ownsRow 0 3 1 (.slice (some ⟨g, 0, none⟩) (S.length + 1) cap) (S.length + 1) (ints S ++ [.int .i64 x]))
    (hgr : (w.alloc (.cells #[.int .i64 x] 3)).grownBy w' sv.ownBlock) (hat : sv.ownBlock = some g ∨ g = w.heap.size + 1) :
    Blk w' sb 108 [sv] ∧ BelowSt w0 (w'.setCell ⟨sb, 0, none⟩ (.slice (some ⟨g, 0, none⟩) (S.length + 1) cap)) vb m nn f sb (.slice (some ⟨g, 0, none⟩) (S.length + 1) cap) (S ++ [x]) fv F := by
  have ho : Only sv.ownBlock.toList w w' := ((Only.refl _ w).alloc _).trans (Only.of_grown (S := sv.ownBlock.toList) hgr (by simp)) (fun k hk => .inl hk)
  obtain ⟨e1, e2, e3, e4⟩ := h.ne_mv
  obtain ⟨d1, d2, d3⟩ := h.ne_s
  have hs' : IntsAt w' (.slice (some ⟨g, 0, none⟩) (S.length + 1) cap) (S ++ [x]) := by
    unfold IntsAt
    simpa [ints] using hown
  have hstk : Blk w' sb 108 [sv] := h.stk.only ho (fun hm => (d2 sb (by simpa using hm)).2 rfl)
  have hmid : ∀ k, (∀ q, sv.ownBlock = some q → q ≠ k) → k ∉ sv.ownBlock.toList := fun k hk hm => hk k (by simpa using hm) rfl
  refine ⟨hstk, ?_⟩
  have h1 : Blk w' vb 147 [.map (some m)] := h.vis.only ho (hmid vb (fun q hq => (d2 q hq).1))
  have h2 : MapI w' m nn f := h.map.only ho (hmid m (fun q hq => e3 q hq))
  have h3 : IntsAt w' fv F := h.f.only ho (fun q hq hm => h.ap q (by simpa using hm) hq)
  have hgf : w0.heap.size ≤ g := by
    rcases hat with e | e
    · exact h.fsv g e
    · have := h.only.size
      omega
  have hgap : ∀ q, (Value.slice (some ⟨g, 0, none⟩) (S.length + 1) cap).ownBlock = some q → fv.ownBlock ≠ some q := by
    intro q hq hq2
    have e : g = q := by simpa [Value.ownBlock] using hq
    subst e
    rcases hat with e | e
    · exact h.ap g e hq2
    · have := h.f.lt g hq2
      omega
  have hsn : g ≠ sb := by
    obtain ⟨cs, fr, hc⟩ := hs'.typ (g := g) rfl
    exact heap_ne hc hstk (by intro e; injection e with _ e2; exact absurd e2 (by decide))
  have hO : Only [] w0 w' := h.only.trans ho (fun k hk => .inr (h.fsv k (by simpa using hk)))
  have ho2 : Only [sb] w' (w'.setCell ⟨sb, 0, none⟩ (.slice (some ⟨g, 0, none⟩) (S.length + 1) cap)) := (Only.refl _ _).setCell (.inl (by simp)) _
  exact ⟨h1.only ho2 (by simpa using d1), h2.only ho2 (by simpa using e2.symm), hstk.set_ 0 _, hs'.only ho2 (fun q hq => by
    have e : g = q := by simpa [Value.ownBlock] using hq
    subst e
    simpa using hsn), h3.only ho2 (fun q hq => by simpa using (d3 q hq).2), hgap, h.fv_, h.fm, h.fs, fun q hq => by
    have e : g = q := by simpa [Value.ownBlock] using hq
    omega, h.ffv, hO.trans ho2 (fun k hk => .inr (by
      have e : k = sb := by simpa using hk
      have := h.fs
      omega))⟩
end
end Go.Proofs.YtigpnopeacicpaaGreatDoor

/-
  walk.Below: 'visit', the walk.
-/
namespace Go.Proofs.YtigpnopeacicpaaGreatDoor
open Go.RowKit

/-- What has been met: those of the map. -/
def Met (f : Int → Option Int) (x : Int) : Prop := f x = some 1
def Plain01 (f : Int → Option Int) : Prop := ∀ x, f x = none ∨ f x = some 1
def metF (f : Int → Option Int) (id : Int) : Int → Option Int := fun x => if x = id then some 1 else f x
theorem metF_plain {f : Int → Option Int} (h : Plain01 f) (id : Int) : Plain01 (metF f id) := fun x => by
  unfold metF
  by_cases e : x = id
  · exact .inr (by rw [if_pos e])
  · rw [if_neg e]
    exact h x
theorem met_metF {f : Int → Option Int} (id : Int) (y : Int) : Met (metF f id) y ↔ Met f y ∨ y = id := by
  unfold Met metF
  by_cases e : y = id
  · simp [e]
  · simp [e]

/-- Arrays of two ints are as they were. -/
def Keep2 (w w' : World) : Prop := ∀ q cs, Blk w q 170 cs → Blk w' q 170 cs
theorem BelowSt.keep_map {w0 w w' : World} {vb m nn : Nat} {f : Int → Option Int} {sb : Nat} {sv : Value} {S : List Int} {fv : Value} {F : List Int} (h : BelowSt w0 w vb m nn f sb sv S fv F) (ho : Only [m] w w') : Keep2 w w' := by
  intro q cs hq
  obtain ⟨es, clock, hm⟩ := h.map.obj
  exact hq.only ho (by simpa using heap_ne hq hm (by simp))
theorem BelowSt.keep_s {w0 w w' : World} {vb m nn : Nat} {f : Int → Option Int} {sb : Nat} {sv : Value} {S : List Int} {fv : Value} {F : List Int} (h : BelowSt w0 w vb m nn f sb sv S fv F) {x : Int} {u : Value}
    (hgr : (w.alloc (.cells #[.int .i64 x] 3)).grownBy w' sv.ownBlock) : Keep2 w (w'.setCell ⟨sb, 0, none⟩ u) := by
  intro q cs hq
  have ho : Only sv.ownBlock.toList w w' := ((Only.refl _ w).alloc _).trans (Only.of_grown (S := sv.ownBlock.toList) hgr (by simp)) (fun k hk => .inl hk)
  have h1 : Blk w' q 170 cs := hq.only ho (fun hm => by
    obtain ⟨cs', fr, hc⟩ := h.s.typ (g := q) (by simpa using hm)
    exact heap_ne hq hc (by intro e; injection e with _ e2; exact absurd e2 (by decide)) rfl)
  have hne : q ≠ sb := heap_ne hq h.stk (by intro e; injection e with _ e2; exact absurd e2 (by decide))
  exact h1.far hne u
/-- What visit leaves: the same, or the id on the stack. -/
def VPost (w0 w : World) (vb m nn : Nat) (f : Int → Option Int) (sb : Nat) (sv : Value) (S : List Int) (fv : Value) (F : List Int) (id : Int) (e : Ending) (w' : World) : Prop :=
  e = .returned (.tuple #[]) ∧ Keep2 w w' ∧ ((Met f id ∧ BelowSt w0 w' vb m nn f sb sv S fv F) ∨ (¬ Met f id ∧ ∃ sv', BelowSt w0 w' vb m (nn + 1) (metF f id) sb sv' (S ++ [id]) fv F))

set_option maxHeartbeats 800000 in
set_option maxRecDepth 100000 in
theorem visit_any (w0 w : World) (vb m nn : Nat) (f : Int → Option Int) (sb : Nat) (sv : Value) (S : List Int) (fv : Value) (F : List Int) (id : Int) (h : BelowSt w0 w vb m nn f sb sv S fv F) (hf : Plain01 f) (hid : Small id) (hnn : nn < 100000) (hS : Hid (S.length ≤ 100000)) :
    Calls Tryz.prog 142 #[.int .i64 id, .pointer (some ⟨vb, 0, none⟩), .pointer (some ⟨sb, 0, none⟩)] w (VPost w0 w vb m nn f sb sv S fv F id) := by
  obtain ⟨i0, hi, hz0, hz1, hz2⟩ := int_parts
  have cv : w.cell? ⟨vb, 0, none⟩ = some (.map (some m)) := h.vis.cell 0
  have hl := h.map.look hid
  rcases hf id with e | e
  · have hn : ¬ Met f id := by unfold Met; rw [e]; simp
    rw [e] at hl
    obtain ⟨w1, hup, hm1, ho1⟩ := h.map.store (by omega) hid (v := 1) (by unfold Small; omega)
    have H1 := h.mark (f' := metF f id) hm1 ho1
    have HKm := Lib.hid (h.keep_map ho1)
    have HH := Lib.hid H1
    have Hn := Lib.hid hn
    obtain ⟨A, c, rfl, -⟩ := H1.s.shape
    have cs1 : w1.cell? ⟨sb, 0, none⟩ = some (.slice A S.length c) := H1.stk.cell 0
    have cs1' := ((Only.refl [] w1).alloc (.cells #[.int .i64 id] 3)).cell cs1 (by simp)
    clear h hm1 ho1 H1 e hn hf
    go_enter Tryz.func142, Tryz.ntmps142
    go_wp2_with (at_builtin; refine wpList_append_lies _ rfl _ _ _ rfl 0 3 i0 _ 1 8 Tryz.underlying108 hi hz0 hz1 hz2 rfl (by decide) (.slice A S.length c) S.length (ints S) rfl (by exact HH.out.s.alloc _) ⟨w1.heap.size, 0, none⟩ 1 1 [.int .i64 id] rfl rfl (by exact cell_one_new _ _ _) (by simp [Value.oneCell']) (by decide) (by have := hS.out; simp only [maxLen]; omega) (by have := hS.out; omega) (Nat.zero_le _) (w1.heap.size + 1) (by simp) ?_; intro g cap w2 hown2 hgr2 hat2 hlt2; have G := Lib.hid (HH.out.grow_s hown2 hgr2 hat2); have HKs := Lib.hid (HH.out.keep_s (u := .slice (some ⟨g, 0, none⟩) (S.length + 1) cap) hgr2); have a0 := G.out.1.cell 0; have f0 := G.out.1.frozen 0; simp only [List.getElem?_cons_zero] at a0)
    go_returns
    exact ⟨rfl, fun q cs hq => HKs.out q cs (HKm.out q cs hq), .inr ⟨Hn.out, _, G.out.2⟩⟩
  · rw [e] at hl
    have HH := Lib.hid h
    have Hn : Hid (Met f id) := e
    clear h hf e
    go_enter Tryz.func142, Tryz.ntmps142
    go_wp2_with fail
    go_returns
    exact ⟨rfl, fun _ _ hq => hq, .inl ⟨Hn.out, HH.out⟩⟩
end Go.Proofs.YtigpnopeacicpaaGreatDoor

/-
  walk.Below: the search, step by step.
-/
namespace Go.Proofs.YtigpnopeacicpaaGreatDoor
open Go.RowKit

theorem ints_prefix {w : World} {g n c : Nat} {S : List Int} {x : Int} (h : IntsAt w (.slice (some ⟨g, 0, none⟩) n c) (S ++ [x])) : IntsAt w (.slice (some ⟨g, 0, none⟩) S.length c) S := by
  rcases h.2 with ⟨h0, _⟩ | ⟨g', cap, cur, he, hb, hg, h1, h2, h3, h4⟩
  · cases h0
  · injection he with e1 e2 e3
    injection e1 with e1
    injection e1 with e1 _ _
    subst e1 e3
    refine ⟨by simp [ints], .inr ⟨g, c, cur, rfl, hb, hg, by simp at h1; omega, h2, h3, ?_⟩⟩
    have h5 : (cur.toList.take ((S ++ [x]).length * 1)).take (S.length * 1) = (ints (S ++ [x])).take (S.length * 1) := by rw [h4]
    rw [List.take_take, show min (S.length * 1) ((S ++ [x]).length * 1) = S.length * 1 by simp] at h5
    rw [h5]
    have e : ints (S ++ [x]) = ints S ++ [.int .i64 x] := by simp [ints]
    rw [e, List.take_append_of_le_length (by simp [ints]), List.take_of_length_le (by simp [ints])]

section
variable {w0 w w' : World} {vb m nn : Nat} {f : Int → Option Int} {sb : Nat} {sv : Value} {S : List Int} {fv : Value} {F : List Int}
theorem BelowSt.grow_f (h : BelowSt w0 w vb m nn f sb sv S fv F) {g cap : Nat} {x : Int} (hown : w'.ownsRow 0 3 1 (.slice (some ⟨g, 0, none⟩) (F.length + 1) cap) (F.length + 1) (ints F ++ [.int .i64 x]))
    (hgr : (w.alloc (.cells #[.int .i64 x] 3)).grownBy w' fv.ownBlock) (hat : fv.ownBlock = some g ∨ g = w.heap.size + 1) : BelowSt w0 w' vb m nn f sb sv S (.slice (some ⟨g, 0, none⟩) (F.length + 1) cap) (F ++ [x]) := by
  have ho : Only fv.ownBlock.toList w w' := ((Only.refl _ w).alloc _).trans (Only.of_grown (S := fv.ownBlock.toList) hgr (by simp)) (fun k hk => .inl hk)
  obtain ⟨e1, e2, e3, e4⟩ := h.ne_mv
  obtain ⟨d1, d2, d3⟩ := h.ne_s
  have hmid : ∀ k, (∀ q, fv.ownBlock = some q → q ≠ k) → k ∉ fv.ownBlock.toList := fun k hk hm => hk k (by simpa using hm) rfl
  have hf' : IntsAt w' (.slice (some ⟨g, 0, none⟩) (F.length + 1) cap) (F ++ [x]) := by
    unfold IntsAt
    simpa [ints] using hown
  refine ⟨h.vis.only ho (hmid vb (fun q hq => (d3 q hq).1)), h.map.only ho (hmid m (fun q hq => e4 q hq)), h.stk.only ho (hmid sb (fun q hq => (d3 q hq).2)), h.s.only ho (fun q hq hm => h.ap q hq (by simpa using hm)), hf', ?_, h.fv_, h.fm, h.fs, h.fsv, ?_, h.only.trans ho (fun k hk => .inr (h.ffv k (by simpa using hk)))⟩
  · intro q hq hq2
    have e : g = q := by simpa [Value.ownBlock] using hq2
    subst e
    rcases hat with e | e
    · exact h.ap g hq e
    · have := h.s.lt g hq
      omega
  · intro q hq
    have e : g = q := by simpa [Value.ownBlock] using hq
    subst e
    rcases hat with e | e
    · exact h.ffv g e
    · have := h.only.size
      omega
end

/-- A search under way: F has been found, all that 'need' names have been met. -/
def Srch (ns : List Nd) (R : Int → Prop) (w0 w : World) (vb m sb : Nat) (fv : Value) (F : List Int) (need : Int → Prop) : Prop :=
  ∃ nn f sv S, BelowSt w0 w vb m nn f sb sv S fv F ∧ Plain01 f ∧ Dfs ns R F S (Met f) ∧ nn = F.length + S.length ∧ ∀ y, need y → Met f y
theorem Srch.nil {ns : List Nd} {R : Int → Prop} {w0 w w' : World} {vb m sb : Nat} {fv : Value} {F : List Int} {need : Int → Prop} (h : Srch ns R w0 w vb m sb fv F need) (ho : Only [] w w') : Srch ns R w0 w' vb m sb fv F need := by
  obtain ⟨nn, f, sv, S, h1, h2⟩ := h
  exact ⟨nn, f, sv, S, h1.nil ho, h2⟩
theorem Srch.weak {ns : List Nd} {R : Int → Prop} {w0 w : World} {vb m sb : Nat} {fv : Value} {F : List Int} {need need' : Int → Prop} (h : Srch ns R w0 w vb m sb fv F need) (hn : ∀ y, need' y → need y) : Srch ns R w0 w vb m sb fv F need' := by
  obtain ⟨nn, f, sv, S, h1, h2, h3, h4, h5⟩ := h
  exact ⟨nn, f, sv, S, h1, h2, h3, h4, fun y hy => h5 y (hn y hy)⟩
theorem Srch.only {ns : List Nd} {R : Int → Prop} {w0 w : World} {vb m sb : Nat} {fv : Value} {F : List Int} {need : Int → Prop} (h : Srch ns R w0 w vb m sb fv F need) : Only [] w0 w := by
  obtain ⟨nn, f, sv, S, h1, _⟩ := h
  exact h1.only

theorem visit_srch {ns : List Nd} (ok : OkDag ns) (hns : ns.length ≤ 20000) {R : Int → Prop} {w0 w : World} {vb m sb : Nat} {fv : Value} {F : List Int} {need : Int → Prop} {id : Int} (h : Srch ns R w0 w vb m sb fv F need) (hid : Reach ns R id) :
    Calls Tryz.prog 142 #[.int .i64 id, .pointer (some ⟨vb, 0, none⟩), .pointer (some ⟨sb, 0, none⟩)] w fun e w' => e = .returned (.tuple #[]) ∧ Keep2 w w' ∧ Srch ns R w0 w' vb m sb fv F (fun y => need y ∨ y = id) := by
  obtain ⟨nn, f, sv, S, h1, h2, h3, h4, h5⟩ := h
  have hr := hid.range ok
  have hl := h3.len ok
  refine (visit_any w0 w vb m nn f sb sv S fv F id h1 h2 (by unfold Small; omega) (by omega) (by show _ ≤ _; omega)).mono ?_
  rintro e w' ⟨he, hK, ⟨hm, hb⟩ | ⟨hm, sv', hb⟩⟩
  · refine ⟨he, hK, nn, f, sv, S, hb, h2, h3, h4, fun y hy => ?_⟩
    rcases hy with hy | hy
    · exact h5 y hy
    · exact hy ▸ hm
  · refine ⟨he, hK, nn + 1, metF f id, sv', S ++ [id], hb, metF_plain h2 id, h3.visit hid hm (fun y => met_metF id y), by simp; omega, fun y hy => ?_⟩
    rw [met_metF]
    rcases hy with hy | hy
    · exact .inl (h5 y hy)
    · exact .inr hy
end Go.Proofs.YtigpnopeacicpaaGreatDoor

/-
  dag.Node, walk.parts.
-/
namespace Go.Proofs.YtigpnopeacicpaaGreatDoor
open Go.RowKit
attribute [local go_sem] run_store_float

set_option maxHeartbeats 800000 in
theorem dnode_in (d : Nat) (v : Value) (r : Option Nat) (ns : List Nd) (k : Nat) (w : World) (hd : DagIs w d v r ns) (hk : k < ns.length) :
    Calls Tryz.prog 114 #[.pointer (some ⟨d, 0, none⟩), .int .i64 (k : Int)] w fun e w' => e = .returned (.tuple #[(ns[k]?.getD nd0).val, .bool true]) ∧ Only [] w w' := by
  obtain ⟨A, c, hv, _, _, hc⟩ := NodesAt.shape (w := w) (u := v) (ns := ns) hd.row
  obtain ⟨g, rfl, x0, x1, x2, x3⟩ := hc k hk
  have h0 : w.cell? ⟨d, 0, none⟩ = some (.slice (some ⟨g, 0, none⟩) ns.length c) := by rw [← hv]; exact hd.blk.cell 0
  have hh : hasB ns.length (k : Int) = true := by simp [hasB]; omega
  generalize ns[k]?.getD nd0 = n at x0 x1 x2 x3 ⊢
  obtain ⟨nk, nf, na, nb⟩ := n
  simp only at x0 x1 x2 x3
  have hk' : (k : Int) < (ns.length : Int) := by omega
  have ho := (Only.refl [] w).alloc (.cells #[.int .i64 0, .float .f64 0, .int .i64 0, .int .i64 0] 95)
  have h0' := ho.cell h0 (by simp)
  have y0 := ho.cell x0 (by simp)
  have y1 := ho.cell x1 (by simp)
  have y2 := ho.cell x2 (by simp)
  have y3 := ho.cell x3 (by simp)
  clear hd hc hv ho x0 x1 x2 x3
  go_enter Tryz.func114, Tryz.ntmps114
  go_wp2_with (go_at_call 120; (with_reducible refine (has_any d _ ns.length c _ _ h0').mono ?_); rintro e w' ⟨rfl, rfl⟩)
  all_goals go_returns
  all_goals exact ⟨rfl, (Only.refl _ _).alloc _⟩

set_option maxHeartbeats 800000 in
theorem dnode_out (d : Nat) (v : Value) (r : Option Nat) (ns : List Nd) (k : Int) (w : World) (hd : DagIs w d v r ns) (hk : hasB ns.length k = false) :
    Calls Tryz.prog 114 #[.pointer (some ⟨d, 0, none⟩), .int .i64 k] w fun e w' => e = .returned (.tuple #[nd0.val, .bool false]) ∧ Only [] w w' := by
  obtain ⟨A, c, rfl⟩ := hd.shape
  have h0 : w.cell? ⟨d, 0, none⟩ = some (.slice A ns.length c) := hd.blk.cell 0
  have h0' := ((Only.refl [] w).alloc (.cells #[.int .i64 0, .float .f64 0, .int .i64 0, .int .i64 0] 95)).cell h0 (by simp)
  clear hd
  go_enter Tryz.func114, Tryz.ntmps114
  go_wp2_with (go_at_call 120; (with_reducible refine (has_any d _ ns.length c _ _ h0').mono ?_); rintro e w' ⟨rfl, rfl⟩)
  go_returns
  exact ⟨rfl, (Only.refl _ _).alloc _⟩

theorem arr_cells (w : World) (x0 x1 x2 x3 y0 y1 : Value) : (((w.alloc (.cells #[x0, x1, x2, x3] 95)).alloc (.cells #[y0, y1] 170)).cell? ⟨w.heap.size + 1, 0, none⟩ = some y0) ∧ (((w.alloc (.cells #[x0, x1, x2, x3] 95)).alloc (.cells #[y0, y1] 170)).cell? ⟨w.heap.size + 1, 1, none⟩ = some y1) := by
  have h := Blk.new (w.alloc (.cells #[x0, x1, x2, x3] 95)) 170 [y0, y1]
  rw [World.size_alloc] at h
  exact ⟨h.cell 0, h.cell 1⟩

set_option maxHeartbeats 800000 in
theorem parts_leaf (f : Nat) (a b : Int) (w : World) :
    Calls Tryz.prog 141 #[.agg #[.int .i64 0, .float .f64 f, .int .i64 a, .int .i64 b]] w fun e w' => e = .returned (.tuple #[.agg #[.int .i64 0, .int .i64 0], .int .i64 0]) ∧ Only [] w w' := by
  go_enter Tryz.func141, Tryz.ntmps141
  go_wp2_with fail
  obtain ⟨c0, c1⟩ := arr_cells w (.int .i64 0) (.float .f64 f) (.int .i64 a) (.int .i64 b) (.int .i64 0) (.int .i64 0)
  refine bodyPost_ret (v := .tuple #[.agg #[.int .i64 0, .int .i64 0], .int .i64 0]) (by simp [results, Tryz.results141, go_sem, c0, c1]) rfl ⟨rfl, ?_⟩
  exact ((Only.refl _ _).alloc _).alloc _

set_option maxHeartbeats 800000 in
theorem parts_root (f : Nat) (a b : Int) (w : World) :
    Calls Tryz.prog 141 #[.agg #[.int .i64 5, .float .f64 f, .int .i64 a, .int .i64 b]] w fun e w' => e = .returned (.tuple #[.agg #[.int .i64 a, .int .i64 0], .int .i64 1]) ∧ Only [] w w' := by
  go_enter Tryz.func141, Tryz.ntmps141
  go_wp2_with fail
  obtain ⟨c0, c1⟩ := arr_cells w (.int .i64 5) (.float .f64 f) (.int .i64 a) (.int .i64 b) (.int .i64 a) (.int .i64 0)
  refine bodyPost_ret (v := .tuple #[.agg #[.int .i64 a, .int .i64 0], .int .i64 1]) (by simp [results, Tryz.results141, go_sem, c0, c1]) rfl ⟨rfl, ?_⟩
  exact ((Only.refl _ _).alloc _).alloc _

set_option maxHeartbeats 800000 in
theorem parts_two (k : Int) (f : Nat) (a b : Int) (w : World) (h0 : (k == 0) = false) (h5 : (k == 5) = false) :
    Calls Tryz.prog 141 #[.agg #[.int .i64 k, .float .f64 f, .int .i64 a, .int .i64 b]] w fun e w' => e = .returned (.tuple #[.agg #[.int .i64 a, .int .i64 b], .int .i64 2]) ∧ Only [] w w' := by
  go_enter Tryz.func141, Tryz.ntmps141
  go_wp2_with fail
  obtain ⟨c0, c1⟩ := arr_cells w (.int .i64 k) (.float .f64 f) (.int .i64 a) (.int .i64 b) (.int .i64 a) (.int .i64 b)
  refine bodyPost_ret (v := .tuple #[.agg #[.int .i64 a, .int .i64 b], .int .i64 2]) (by simp [results, Tryz.results141, go_sem, c0, c1]) rfl ⟨rfl, ?_⟩
  exact ((Only.refl _ _).alloc _).alloc _
end Go.Proofs.YtigpnopeacicpaaGreatDoor
