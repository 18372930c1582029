/-
  nat.Text: the decimal digits.
-/
import Derived.Test.YtphjcphcgnjogaaDoorNatJ
import Derived.Test.YtphjcphcgnjogaaDoorDec
import Derived.Test.YtphjcphcgnjogaaDoorBld
import Derived.Test.YtphjcphcgnjogaaDoorFmt
namespace Go.Proofs.YtphjcphcgnjogaaDoor
open Go.RowKit

/-- The length of a slice's value. -/
def slen : Value → Nat
  | .slice _ n _ => n
  | _ => 0
theorem owns_only {w w' : World} {S : List Nat} {base : Nat} {e : TypeId} {s n : Nat} {v : Value} {xs : List Value} (h : w.ownsRow base e s v n xs) (ho : Only S w w') (hn : ∀ g, v.ownBlock = some g → g ∉ S) : w'.ownsRow base e s v n xs := by
  rcases h with ⟨h0, h1 | ⟨g, cap, cur, rfl, hb, hg, h2⟩⟩
  · exact ⟨h0, .inl h1⟩
  · exact ⟨h0, .inr ⟨g, cap, cur, rfl, hb, ho.heap hg (hn g rfl), h2⟩⟩
theorem builder_only {w w' : World} {T e : TypeId} {B b : Nat} {bs : List Value} (h : Lib.IsBuilderF T e B b bs w) (ho : Only [] w w') : Lib.IsBuilderF T e B b bs w' := by
  have key : ∀ p, Lib.BuilderAtF T e B b p bs w → Lib.BuilderAtF T e B b p bs w' := by
    rintro p ⟨hB, v, hb, ⟨h0, h1⟩, hne⟩
    refine ⟨hB, v, ho.heap hb (by simp), ⟨h0, ?_⟩, hne⟩
    rcases h1 with h1 | ⟨g, cap, cur, fz, rfl, hbg, hg, h2⟩
    · exact .inl h1
    · exact .inr ⟨g, cap, cur, fz, rfl, hbg, ho.heap hg (by simp), h2⟩
  rcases h with h | h
  · exact .inl (key _ h)
  · exact .inr (key _ h)
theorem size_mk (l : List UInt8) : (⟨l.toArray⟩ : ByteArray).size = l.length := by simp [ByteArray.size]
theorem below_only {w w1 w2 : World} {B : Nat} (h : Below B w w1) (ho : Only [] w1 w2) (hB : B ≤ w.heap.size) : Below B w w2 :=
  ⟨ho.os.trans h.os, ho.tape.trans h.tape, ho.output.trans h.output, Nat.le_trans h.size ho.size, fun k hk => (ho.block k (Nat.lt_of_lt_of_le hk (Nat.le_trans hB h.size)) (by simp)).trans (h.block k hk)⟩
theorem BB_le_CH2 : BB ≤ CH ^ 2 := by rw [BB_val, CH_pow]; decide
theorem chunks_len_bb {n k : Nat} (h : n < BB ^ k) : (chunks n).length ≤ 2 * k := by
  apply chunks_len_le
  rw [Nat.pow_mul]
  exact Nat.lt_of_lt_of_le h (Nat.pow_le_pow_left BB_le_CH2 k)
/-- A row of numbers whose head is n: n's limbs, and whatever is behind them. -/
theorem limb_row {zs : List Nat} (h : Limb zs) (tl : List Value) : ∃ tl', limbV zs ++ tl = limbV (limbsOf (val zs)) ++ tl' := by
  have e := (limbsOf_take h).1
  refine ⟨limbV (zs.drop (limbsOf (val zs)).length) ++ tl, ?_⟩
  rw [← List.append_assoc]
  congr 1
  have h2 : zs = zs.take (limbsOf (val zs)).length ++ zs.drop (limbsOf (val zs)).length := (List.take_append_drop _ _).symm
  rw [e] at h2
  have h3 := congrArg limbV h2
  simpa [limbV] using h3
/-- A result as a row. -/
theorem Res.row {w0 w : World} {u : Value} {n : Nat} (h : Res w0 w u n) (hn : n ≠ 0) : ∃ g c tl, u = .slice (some ⟨g, 0, none⟩) (limbsOf n).length c ∧ Blk w g 64 (limbV (limbsOf n) ++ tl) ∧ w0.heap.size ≤ g ∧ g < w.heap.size ∧ (limbsOf n).length ≤ c := by
  have h1 := h.at_
  rcases h1.2 with ⟨rfl, h0⟩ | ⟨g, cap, cur, rfl, _, hg, hc, _, _, ht⟩
  · exact absurd (limbsOf_len0.1 h0) hn
  · refine ⟨g, cap, cur.toList.drop (limbsOf n).length, rfl, ?_, h.fresh g rfl, lt_of_heap hg, hc⟩
    unfold Blk
    rw [hg]
    congr 2
    apply Array.ext'
    rw [Nat.mul_one] at ht
    rw [← ht]
    simp

theorem LRead.of_tl {w : World} {g : Nat} {t : TypeId} {xs : List Nat} {tl : List Value} (h : Blk w g t (limbV xs ++ tl)) : LRead w (some ⟨g, 0, none⟩) xs := fun k hk => ⟨g, 0, rfl, by
  rw [h.cell, Nat.zero_add, List.getElem?_append_left (by rw [limbV_len]; exact hk), limbV_get _ _ hk]⟩
/-- The first loop of Text. -/
structure XCar (w wr : World) (B g n c : Nat) (pv : Value) (q : Nat) (ps : List Nat) (tl : List Value) : Prop where
  blk : Blk wr g 64 (limbV (limbsOf q) ++ tl)
  own : wr.ownsRow B 64 1 pv ps.length (limbV ps)
  cut : Cut n ps q
  only : Only [] w wr
  le : (limbsOf q).length ≤ c
  len : ((limbsOf q).length : Int) ≤ 4000000
  big : B ≤ wr.heap.size
theorem XCar.many {w wr : World} {B g n c : Nat} {pv : Value} {q : Nat} {ps : List Nat} {tl : List Value} (h : XCar w wr B g n c pv q ps tl) : ps.length + (chunks q).length = (chunks n).length := by
  rw [h.cut.all, List.length_append]
def TextPost (n : Nat) (w : World) (e : Ending) (w' : World) : Prop := e = .returned (.string ⟨(Lib.decDigits n).toArray⟩) ∧ Only [] w w'

set_option maxHeartbeats 4000000 in
set_option maxRecDepth 100000 in
theorem text_any (A : Option Addr) (c : Nat) (xs : List Nat) (w : World) (hA : Hid (Arg w A xs)) (hc : xs.length ≤ c) (htab : Hid (Tab w)) :
    Calls Tryd.prog 43 #[.slice A xs.length c] w (TextPost (val xs) w) := by
  have HLx : Hid ((limbsOf (val xs)).length ≤ xs.length) := limbsOf_len hA.out.limb
  have HLen := Lib.hid hA.out.len
  obtain ⟨n, hn⟩ : ∃ n, val xs = n := ⟨_, rfl⟩
  have HN := Lib.hid hn
  have hof := of_any A c xs w hA hc
  rw [hn] at hof HLx
  rw [hn]
  clear hn
  by_cases h0 : n = 0
  · subst h0
    go_enter Tryd.func43, Tryd.ntmps43
    go_wp2_with fail
    refine hof.mono ?_
    rintro e w1 ⟨u, rfl, hu, ho⟩
    have HO := Lib.hid ho
    obtain ⟨Au, cu, hu2, _, _⟩ := hu.shape (by rw [limbsOf_zero]; simp)
    have hz : (limbsOf 0).length = 0 := by rw [limbsOf_zero]; rfl
    rw [hz] at hu2
    subst hu2
    clear hof hu ho hz
    go_wp2_with fail
    go_ret
    exact ⟨by rw [Lib.decDigits]; rfl, HO.out⟩
  · have HNZ := Lib.hid h0
    obtain ⟨i0, hi, hz0, hz1, hz2⟩ := u64_parts
    go_enter Tryd.func43, Tryd.ntmps43
    go_wp2_with fail
    refine hof.mono ?_
    clear hof
    rintro e w1 ⟨u, rfl, hu, ho⟩
    have HO := Lib.hid ho
    obtain ⟨g, cu, tl0, rfl, hb, hg1, hg2, hcu⟩ := hu.row HNZ.out
    have hlz : (limbsOf n).length ≠ 0 := fun h => HNZ.out (limbsOf_len0.1 h)
    obtain ⟨L, hL⟩ : ∃ L, (limbsOf n).length = L := ⟨_, rfl⟩
    obtain ⟨B, hB⟩ : ∃ B, w1.heap.size = B := ⟨_, rfl⟩
    have HStart : Hid (XCar w w1 B g n cu (.slice none 0 0) n [] tl0) := ⟨hb, World.ownsRow_nil _ _ _ _, Cut.start HNZ.out, HO.out, hcu, by have := HLx.out; have := HLen.out; omega, by omega⟩
    have HG : Hid (w.heap.size ≤ g ∧ g < B) := ⟨hg1, by omega⟩
    have hLz : ((L : Int) == 0) = false := by rw [beq_eq_false_iff_ne]; omega
    have HL := Lib.hid hL
    have HB := Lib.hid hB
    have HChL : Hid (((chunks n).length : Int) ≤ 8000000) := by
      have h1 := chunks_len_bb (lt_limbsOf n)
      have := HLx.out
      have := HLen.out
      show _ ≤ _
      omega
    rw [hL]
    clear ho hu hb hg1 hg2 hcu hlz hL hB h0
    go_wp2_with fail
    go_loopw [3, 4] (fun rv pv wr => ∃ (q : Nat) (ps : List Nat) (tl : List Value) (ap : Option Addr) (cp : Nat), rv = .slice (some ⟨g, 0, none⟩) (limbsOf q).length cu ∧ pv = .slice ap ps.length cp ∧ XCar w wr B g n cu (.slice ap ps.length cp) q ps tl) (fun _ pv _ => (chunks n).length - slen pv)
    case atStart => exact ⟨n, [], tl0, none, 0, by rw [HL.out], rfl, HStart.out⟩
    case round =>
      obtain ⟨q, ps, tl, ap, cp, rfl, rfl, hT⟩ := hrel
      have HT := Lib.hid hT
      clear hT HStart
      by_cases hq : q = 0
      · subst hq
        obtain ⟨wo, rfl⟩ : ∃ wo : World, wo = wr := ⟨_, rfl⟩
        have hz : (limbsOf 0).length = 0 := by rw [limbsOf_zero]; rfl
        rw [hz]
        clear hz
        have HP : Hid (chunks n = ps) := by
          have := HT.out.cut.all
          rw [chunks_zero, List.append_nil] at this
          exact this
        obtain ⟨j, hj⟩ : ∃ j, ps.length = j + 1 := ⟨ps.length - 1, by
          have h1 : ps ≠ [] := by
            rw [← HP.out, chunks_pos HNZ.out]
            simp
          have := List.length_pos_iff.2 h1
          omega⟩
        obtain ⟨gp, rfl⟩ : ∃ gp, ap = some ⟨gp, 0, none⟩ := by
          rcases HT.out.own.2 with ⟨hv, h0⟩ | ⟨gp, cap, cur, hv, _⟩
          · omega
          · injection hv with h1 _ _
            exact ⟨gp, h1⟩
        have HOn := Lib.hid HT.out.only
        have HOwn := Lib.hid HT.out.own
        have hk8 : ((j + 1 : Nat) : Int) ≤ 8000000 := by have := HChL.out; rw [HP.out, hj] at this; exact this
        have HJ := Lib.hid hj
        rw [hj]
        clear hj HT
        obtain ⟨b, hb⟩ : ∃ b, wo.heap.size = b := ⟨_, rfl⟩
        have hgpb : gp < b := by
          have := (HOwn.out.lt gp rfl).2
          omega
        have HGp := Lib.hid hgpb
        have HBb := Lib.hid hb
        have HBld : Hid (Lib.IsBuilderF 97 5 b b (Lib.byteCells (wrote n (j + 1))) (wo.alloc (.cells #[.pointer none, .slice none 0 0] 97))) := by
          have hwr : wrote n (j + 1) = [] := by unfold wrote; rw [if_pos (by rw [HP.out]; exact HJ.out.symm)]
          rw [hwr]
          have hx := heap_alloc_new wo (.cells #[.pointer none, .slice none 0 0] 97)
          rw [hb] at hx
          exact .inl ⟨Nat.le_refl _, .slice none 0 0, hx, World.ownsRowF_nil _ _ _ _, by simp [Value.ownBlock]⟩
        have HBel : Hid (Below b wo (wo.alloc (.cells #[.pointer none, .slice none 0 0] 97))) := (Below.refl b wo).alloc (by omega) _
        go_wp2_with fail
        clear hb hgpb
        generalize wo.alloc (.cells #[.pointer none, .slice none 0 0] 97) = wb at *
        go_loopw [6] (fun iv wx => ∃ k : Nat, k ≤ j + 1 ∧ iv = .int .i64 ((k : Int) - 1) ∧ Lib.IsBuilderF 97 5 b b (Lib.byteCells (wrote n k)) wx ∧ Below b wo wx) (fun iv _ => (intOf iv + 1).toNat)
        case atStart => exact ⟨j + 1, Nat.le_refl _, by simp, HBld.out, HBel.out⟩
        case round =>
          obtain ⟨k, hk, rfl, hB1, hB2⟩ := hrel
          have HB1 := Lib.hid hB1
          have HB2 := Lib.hid hB2
          clear hB1 hB2
          rcases k with _ | m
          · go_wp2_with fail
            refine (string_any b b (wrote n 0) _ HB1 (by have := HB2.out.size; have := HBb.out; omega)).mono ?_
            rintro e w9 ⟨rfl, hbe⟩
            have HB9 := Lib.hid hbe
            clear hbe
            go_wp2_with fail
            go_ret
            refine ⟨by rw [wrote_end HNZ.out]; rfl, HOn.out.nil_trans (Only.of_below (HBb.out ▸ (HB2.out.trans HB9.out)) [])⟩
          · have hi2 : ((m + 1 : Nat) : Int) - 1 = (m : Int) := by omega
            rw [hi2]
            clear hi2
            have hm1 : (m : Int) < (j : Int) + 1 := by omega
            have hc0 := HOwn.out.cells (g := gp) rfl m _ (limbV_get ps m (by have := HJ.out; omega))
            rw [addr_plus, Nat.zero_add, ← HP.out] at hc0
            have hc1 := (HB2.out.cell (p := ⟨gp, m, none⟩) HGp.out).trans hc0
            have HTab : Hid (Tab wr) := htab.out.only (HOn.out.nil_trans (Only.of_below (HBb.out ▸ HB2.out) []))
            have HPl : Hid ((chunks n)[m]?.getD 0 < 18446744073709551616) := by
              have : (chunks n)[m]?.getD 0 < CH := by rw [chunks_get]; exact Nat.mod_lt _ CH_pos
              rw [CH_val] at this
              show _ < _
              omega
            obtain ⟨d, hd⟩ : ∃ d, Lib.decDigits ((chunks n)[m]?.getD 0) = d := ⟨_, rfl⟩
            have HDg := chunk_digits (n := n) (k := m)
            rw [hd] at HDg
            have hfu := formatUint_any _ HPl.out wr HTab
            rw [hd] at hfu
            have HD := Lib.hid hd
            have HWs := Lib.hid (wrote_step (n := n) (k := m))
            have HWt := Lib.hid (wrote_top (n := n) (k := m))
            have HWl : Hid ((wrote n (m + 1)).length ≤ 19 * 8000000) := by
              have h1 := wrote_length_le (j - m) n (m + 1) (by rw [HP.out, HJ.out]; omega)
              show _ ≤ _
              omega
            generalize (chunks n)[m]?.getD 0 = pm at *
            clear hc0 hd
            rcases Nat.lt_or_eq_of_le (show m ≤ j by omega) with hmj | hmj
            · have hmi : (m : Int) < (j : Int) := by omega
              have HStep : Hid (wrote n m = wrote n (m + 1) ++ (List.replicate (19 - (Lib.decDigits pm).length) 48 ++ Lib.decDigits pm)) := HWs.out (by rw [HP.out, HJ.out]; omega)
              obtain ⟨z, hz⟩ : ∃ z : Nat, 19 - d.length = z := ⟨_, rfl⟩
              have hzi : (19 : Int) - (d.length : Int) = (z : Int) := by omega
              have HZ := Lib.hid hz
              have hrep := fun w => Tryd.strings_Repeat ⟨#[48]⟩ z w (by omega) (by show 1 * z ≤ _; omega)
              have HRep := Lib.hid hrep
              have hz19 : (z : Int) ≤ 19 := by omega
              have hd19 : (d.length : Int) ≤ 19 := by omega
              clear hmj hz hrep
              go_wp2_with fail
              refine hfu.mono ?_
              clear hfu
              rintro e w5 ⟨rfl, ho5⟩
              have HO5 := Lib.hid ho5
              have HB5 := Lib.hid (builder_only HB1.out ho5)
              clear ho5
              go_wp2_with fail
              refine (HRep.out w5).mono ?_
              rintro e w6 ⟨rfl, hb6⟩
              have HO6 : Hid (Only [] w5 w6) := Only.of_below hb6 []
              have HB6 := Lib.hid (builder_only HB5.out HO6.out)
              rw [show ([48] : List UInt8) = List.replicate 1 48 from rfl, Lib.repeatL_replicate, Nat.mul_one]
              have hl2 : (List.replicate z (48 : UInt8)).length = z := List.length_replicate
              clear hb6
              go_wp2_with fail
              refine (writeString_any b b (wrote n (m + 1)) ⟨(List.replicate z (48 : UInt8)).toArray⟩ w6 HB6 (by rw [size_mk, List.length_replicate]; have := HWl.out; omega) (by have h1 := HB2.out.size; have h2 := HBb.out; have h3 := HO5.out.size; have h4 := HO6.out.size; omega)).mono ?_
              rintro e w7 ⟨rfl, hb7, hbe7⟩
              have HB7 := Lib.hid hb7
              have HBe7 := Lib.hid hbe7
              clear hb7 hbe7 hl2
              go_wp2_with fail
              refine (writeString_any b b (wrote n (m + 1) ++ List.replicate z 48) ⟨d.toArray⟩ w7 HB7 (by rw [size_mk, List.length_append, List.length_replicate]; have := HWl.out; omega) (by have h1 := HB2.out.size; have h2 := HBb.out; have h3 := HO5.out.size; have h4 := HO6.out.size; have h5 := HBe7.out.size; omega)).mono ?_
              rintro e w8 ⟨rfl, hb8, hbe8⟩
              have HB8 := Lib.hid hb8
              have HBe8 := Lib.hid hbe8
              clear hb8 hbe8
              go_wp2_with fail
              go_roundw
              case rel =>
                refine ⟨m, by omega, rfl, ?_, ?_⟩
                · have h1 := HStep.out
                  rw [HD.out, HZ.out, ← List.append_assoc] at h1
                  rw [h1]
                  exact HB8.out
                · have hBw : b ≤ wo.heap.size := Nat.le_of_eq HBb.out.symm
                  exact ((below_only (below_only HB2.out HO5.out hBw) HO6.out hBw).trans HBe7.out).trans HBe8.out
              case measure => simp [intOf]
            · subst hmj
              have HTop : Hid (wrote n m = Lib.decDigits pm) := HWt.out (by rw [HP.out, HJ.out])
              have HNil : Hid (wrote n (m + 1) = []) := by unfold wrote; rw [if_pos (by rw [HP.out, HJ.out])]; exact rfl
              have hd19 : (d.length : Int) ≤ 19 := by omega
              go_wp2_with fail
              refine hfu.mono ?_
              clear hfu
              rintro e w5 ⟨rfl, ho5⟩
              have HO5 := Lib.hid ho5
              have HB5 := Lib.hid (builder_only HB1.out ho5)
              clear ho5
              go_wp2_with fail
              refine (writeString_any b b (wrote n (m + 1)) ⟨d.toArray⟩ w5 HB5 (by rw [size_mk]; have := HWl.out; omega) (by have h1 := HB2.out.size; have h2 := HBb.out; have h3 := HO5.out.size; omega)).mono ?_
              rintro e w8 ⟨rfl, hb8, hbe8⟩
              have HB8 := Lib.hid hb8
              have HBe8 := Lib.hid hbe8
              clear hb8 hbe8
              go_wp2_with fail
              go_roundw
              case rel =>
                refine ⟨m, by omega, rfl, ?_, ?_⟩
                · have h1 := HB8.out
                  rw [HNil.out, List.nil_append] at h1
                  rw [HTop.out, HD.out]
                  exact h1
                · have hBw : b ≤ wo.heap.size := Nat.le_of_eq HBb.out.symm
                  exact (below_only HB2.out HO5.out hBw).trans HBe8.out
              case measure => simp [intOf]
      · have HQ := Lib.hid hq
        have hlq : ((limbsOf q).length : Int) > 0 := by
          have : (limbsOf q).length ≠ 0 := fun h => hq (limbsOf_len0.1 h)
          omega
        have HZl : Hid (Limb (limbsOf q)) := limb_limbsOf q
        have HBl := Lib.hid HT.out.blk
        have hlen := HT.out.len
        have HCp : Hid (0 < CH) := CH_pos
        have HCb : Hid (CH < BB) := by show _ < _; rw [CH_val, BB_val]; omega
        have hsh := short_tl g cu (limbsOf q).length CH tl (limbsOf q) wr HBl HZl (Lib.hid rfl) (by omega) HCp HCb
        rw [show (CH : Int) = 10000000000000000000 by rw [CH_val]; rfl] at hsh
        obtain ⟨r, hr⟩ : ∃ r, q % CH = r := ⟨_, rfl⟩
        have HR := Lib.hid hr
        have hps : (ps.length : Int) ≤ 8000000 := by
          have := HT.out.many
          have := HChL.out
          omega
        have hcut := HT.out.cut.step HQ.out
        rw [hr] at hcut
        have HCut := Lib.hid hcut
        have HMany : Hid (ps.length < (chunks n).length) := by
          have := HT.out.many
          rw [chunks_pos HQ.out, List.length_cons] at this
          show _ < _
          omega
        have HOwn := Lib.hid HT.out.own
        have HOn := Lib.hid HT.out.only
        have HBig := Lib.hid HT.out.big
        have HLe := Lib.hid HT.out.le
        have HNe : Hid (∀ k, (Value.slice ap ps.length cp).ownBlock = some k → k ≠ g) := fun k hk => by
          have := (HOwn.out.lt k hk).1
          have := HG.out.2
          omega
        clear hq hr HT
        go_wp2_with fail
        refine hsh.mono ?_
        clear hsh
        rintro e w2 ⟨zs, he, hb2, hzl, hzn, hzv, ho2⟩
        rw [val_limbsOf, HR.out] at he
        rw [val_limbsOf] at hzv
        subst he
        have hown2 := owns_only HOwn.out ho2 (fun k hk => by have := HNe.out k hk; simpa using this)
        have HB2 := Lib.hid hb2
        have HZn := Lib.hid hzn
        have HZv := Lib.hid hzv
        have HZl2 := Lib.hid hzl
        have HO2 := Lib.hid ho2
        have HOwn2 := Lib.hid hown2
        clear hb2 hzl hzn hzv ho2 hown2
        go_wp2_with (at_builtin; refine wpList_append_own _ rfl _ _ 24 rfl B 64 i0 (.int .u64 0) 1 8 Tryd.underlying24 hi hz0 hz1 hz2 rfl (by decide) _ _ _ rfl (HOwn2.out.alloc _) ⟨w2.heap.size, 0, none⟩ 1 1 [.int .u64 (r : Int)] rfl rfl ?c1 ?c2 ?c3 ?c4 ?c5 ?_)
        case c1 =>
          intro i u hu
          match i, hu with
          | 0, hu => simp at hu; subst hu; simp [Addr.add]
        case c2 => intro u hu; simp at hu; subst hu; rfl
        case c3 => unfold maxLen; omega
        case c4 => omega
        case c5 => have h1 := HBig.out; have h2 := HO2.out.size; simp; omega
        intro v' w4 hown4 hgrow4 _
        have hown5 : w4.ownsRow B 64 1 v' (ps ++ [r]).length (limbV (ps ++ [r])) := by
          rw [List.length_append]
          have e : limbV (ps ++ [r]) = limbV ps ++ [.int .u64 (r : Int)] := by simp [limbV]
          rw [e]
          exact hown4
        obtain ⟨ap', cp', rfl⟩ : ∃ ap' cp', v' = Value.slice ap' (ps.length + 1) cp' := by
          rcases hown4.2 with ⟨hv, h0⟩ | ⟨gp, cap, cur, hv, _⟩
          · exact absurd h0 (by omega)
          · exact ⟨_, _, hv⟩
        have HO4 : Hid (Only (Value.slice ap ps.length cp).ownBlock.toList w2 w4) := ((Only.refl _ w2).alloc _).trans (Only.of_grown hgrow4 (fun k hk => by rw [hk]; simp)) (fun k hk => .inl hk)
        have HB4 : Hid (Blk w4 g 64 (limbV zs ++ tl)) := (HB2.out.alloc _).grown hgrow4 (fun h => HNe.out g h rfl)
        have HOwn5 := Lib.hid hown5
        have htr := trim_any (some ⟨g, 0, none⟩) cu zs w4 (Lib.hid ⟨LRead.of_tl HB4.out, HZl2.out, by rw [HZn.out]; omega⟩) (by rw [HZn.out]; exact HLe.out)
        rw [HZn.out, HZv.out] at htr
        clear hown4 hown5 hgrow4
        go_wp2_with fail
        refine htr.mono ?_
        clear htr
        rintro e w' ⟨rfl, rfl⟩
        go_wp2_with fail
        go_roundw
        case rel => 
          obtain ⟨tl', htl⟩ := limb_row HZl2.out tl
          rw [HZv.out] at htl
          have hle := limbsOf_len HZl2.out
          rw [HZv.out, HZn.out] at hle
          refine ⟨q / CH, ps ++ [r], tl', ap', cp', rfl, by simp, ?_⟩
          have e : (ps ++ [r]).length = ps.length + 1 := by simp
          refine ⟨by rw [← htl]; exact HB4.out, by have h := HOwn5.out; rw [e] at h ⊢; exact h, HCut.out, ?_, by have := HLe.out; omega, by omega, ?_⟩
          · refine (HOn.out.trans HO2.out ?_).trans HO4.out ?_
            · intro k hk
              have := HG.out.1
              simp at hk
              omega
            · intro k hk
              have h1 := (HOwn.out.lt k (by simpa using hk)).1
              have h2 := HG.out
              omega
          · have := HO2.out.size
            have := HO4.out.size
            have := HBig.out
            omega
        case measure => simp [slen]; have := HMany.out; omega
end Go.Proofs.YtphjcphcgnjogaaDoor
