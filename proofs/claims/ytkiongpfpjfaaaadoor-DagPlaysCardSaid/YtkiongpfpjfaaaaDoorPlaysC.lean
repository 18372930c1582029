/-
  DagPlays: the law's walk.
-/
import Derived.Test.YtkiongpfpjfaaaaDoorPlaysA
import Derived.Test.YtkiongpfpjfaaaaDoorPlaysB
import Derived.Test.YtkiongpfpjfaaaaDoorBookJ
import Derived.Test.YtkiongpfpjfaaaaDoorLoadF
namespace Go.Proofs.YtkiongpfpjfaaaaDoor
open Go.RowKit
attribute [local go_sem] run_store_float

theorem plays_new {w1 w2 : World} {r : Option Nat} {same : Bool} (h : Own w1 w2 w1.heap.size nilS r []) :
    Plays w1 ((w2.alloc (.cells #[nilS, .bool same] 28)).alloc (.cells #[nilS, nilS, nilS, nilS, nilS, nilS, nilS, nilS, nilS, nilS] 36)) w1.heap.size r nilS [] w2.heap.size same nilS [] (w2.heap.size + 1) nilS nilS [] [] [] := by
  have e : (w2.alloc (.cells #[nilS, .bool same] 28)).heap.size = w2.heap.size + 1 := World.size_alloc w2 _
  have hb2 := Blk.new (w2.alloc (.cells #[nilS, .bool same] 28)) 36 [nilS, nilS, nilS, nilS, nilS, nilS, nilS, nilS, nilS, nilS]
  rw [e] at hb2
  have ho : Only [] w2 ((w2.alloc (.cells #[nilS, .bool same] 28)).alloc (.cells #[nilS, nilS, nilS, nilS, nilS, nilS, nilS, nilS, nilS, nilS] 36)) := ((Only.refl _ _).alloc _).alloc _
  have hlt := h.is.lt
  have hs := h.only.size
  have hnb : ∀ k, k ∈ bfoot (w2.heap.size + 1) nilS nilS [] [] → k = w2.heap.size + 1 := by
    intro k hk
    simpa [bfoot, Value.ownBlock, obs] using hk
  have hnp : ∀ k, k ∈ foot w2.heap.size nilS none → k = w2.heap.size := by
    intro k hk
    simpa [foot, Value.ownBlock] using hk
  refine ⟨h.is.only ho (by simp), ⟨(Blk.new w2 28 [nilS, .bool same]).alloc _, World.ownsRow_nil _ _ _ _⟩, ⟨hb2, World.ownsRow_nil _ _ _ _, World.ownsRow_nil _ _ _ _, ⟨rfl, fun i hi => by simp at hi⟩, ⟨rfl, fun i hi => by simp at hi⟩, fun g hg => by simp [Value.ownBlock] at hg, by simp [obs]⟩, ?_, ?_, ?_, h.fresh, ?_, ?_, h.only.nil_trans ho⟩
  · intro k hk hm
    have h1 := hnp k hm
    have h2 := hlt k hk
    omega
  · intro k hk hm
    have h1 := hnb k hm
    have h2 := hlt k hk
    omega
  · intro k hk hm
    have h1 := hnb k hm
    have h2 := hnp k hk
    omega
  · intro k hk
    have h1 := hnp k hk
    omega
  · intro k hk
    have h1 := hnb k hk
    omega

theorem eq_at_nil (u : Value) (w : World) : (binOp .eql 38 (.iface 77 u) .nilIface).run Tryd.prog w = .ok (.bool false) w := by kernel_rfl

/-- Where the loop of DagPlays stands. -/
def PlaysRel (w1 : World) (L : List Nd) (same : Bool) (d p b : Nat) (r : Option Nat) (k : Nat) (wr : World) : Prop :=
  ∃ dv pv un uw us ws Ls, Plays w1 wr d r dv (puts (shr same) (L.take k)) p same pv (puts (shr same) (L.take k)) b un uw us ws Ls ∧ us.length = k ∧ (∀ i, i < us.length → (Ls[i]?.getD []).length ≤ 120)

set_option maxHeartbeats 1600000 in
set_option maxRecDepth 100000 in
theorem dagPlays_long (A : Option Addr) (c len : Nat) (same : Bool) (at_ : Int) (w : World) (hl : (120 : Int) < (len : Int)) :
    Calls Tryd.prog 3 #[.slice A len c, .bool same, .int .i64 at_] w fun e w' => e = .returned (.bool true) ∧ Only [] w w' := by
  go_enter Tryd.func3, Tryd.ntmps3
  go_wp2_with (go_at_call 5; (with_reducible refine (alive_any _).mono ?_); rintro e w1 ⟨rfl, ho1⟩)
  go_ret
  exact ⟨rfl, ho1⟩

theorem plays_len {us : List Value} {u : Value} {Ls : List (List Nd)} {L : List Nd} (hlen : (us ++ [u]).length = (Ls ++ [L]).length) (h : ∀ i, i < us.length → (Ls[i]?.getD []).length ≤ 120) (hL : L.length ≤ 120) : ∀ i, i < (us ++ [u]).length → ((Ls ++ [L])[i]?.getD []).length ≤ 120 := by
  intro i hi
  simp only [List.length_append, List.length_singleton] at hlen hi
  rw [get_snoc _ _ _ _ (by omega)]
  split
  · exact h i (by omega)
  · exact hL
theorem at_cases (at_ : Int) (n : Nat) : (∃ a : Nat, at_ = (a : Int) ∧ a < n) ∨ (hasB n at_ = false ∧ decide (0 ≤ at_) = false) ∨ (hasB n at_ = false ∧ decide (0 ≤ at_) = true ∧ decide (at_ < (n : Int)) = false) := by
  by_cases h0 : 0 ≤ at_
  · by_cases h1 : at_ < (n : Int)
    · exact .inl ⟨at_.toNat, by omega, by omega⟩
    · exact .inr (.inr ⟨by simp [hasB]; omega, by simpa using h0, by simpa using h1⟩)
  · exact .inr (.inl ⟨by simp [hasB]; omega, by simpa using h0⟩)
theorem same_refl (n : Nd) (w : World) : Calls Tryd.prog 16 #[.agg #[.int .i64 n.k, .float .f64 n.f, .int .i64 n.a, .int .i64 n.b], .agg #[.int .i64 n.k, .float .f64 n.f, .int .i64 n.a, .int .i64 n.b]] w fun e w' => e = .returned (.bool true) ∧ Only [] w w' := by
  have h := same_any n.k n.a n.b n.f n.k n.a n.b n.f w
  simpa [sameB] using h
theorem last_read {w : World} {b : Nat} {un uw : Value} {us ws : List Value} {Ls : List (List Nd)} {uA : Option Addr} {uc : Nat} {L : List Nd} {x : Value} (h : BookIs w b un uw (us ++ [.slice uA L.length uc]) (ws ++ [x]) (Ls ++ [L])) : NRead w uA L := by
  have hlen : us.length = Ls.length := by have := h.ln.len; simpa using this
  have h1 := h.ln.at_ us.length (by simp)
  rw [get_snoc _ _ _ _ (by omega), if_neg (by omega), get_snoc _ _ _ _ (by omega), if_neg (by omega)] at h1
  exact h1.read.2

set_option maxHeartbeats 6400000 in
set_option maxRecDepth 100000 in
theorem dagPlays_few (A : Option Addr) (c : Nat) (L : List Nd) (same : Bool) (at_ : Int) (w : World) (hin : NodesIn w A L) (hl : (L.length : Int) ≤ 120)
    (hg : w.cell? ⟨0, 0, none⟩ = some (.iface 140 (.agg #[.pointer (some ⟨2, 38, none⟩)]))) :
    Calls Tryd.prog 3 #[.slice A L.length c, .bool same, .int .i64 at_] w fun e w' => e = .returned (.bool true) ∧ Only [] w w' := by
  have HA := Lib.hid hin.read
  have HF := Lib.hid hin.bits
  have HG := Lib.hid hg
  have heq := eq_at_nil
  clear hin hg
  go_enter Tryd.func3, Tryd.ntmps3
  go_wp2_with (go_at_call 5; (with_reducible refine (alive_any _).mono ?_); rintro e w1 ⟨rfl, ho1⟩)
  have HO1 := Lib.hid ho1
  clear ho1
  refine (new_any same w1).mono ?_
  rintro e w2 ⟨r, rfl, hd2, hr2, hm2, ho2⟩
  have Hr : Hid (r = none ↔ shr same = none) := by
    show _ ↔ _
    rw [hr2]
    cases same <;> simp [shr]
  have P0 := Lib.hid (plays_new (same := same) (own_new hd2 hm2 ho2))
  clear hd2 hm2 ho2 hr2
  go_wp2_with fail
  generalize hdd : w1.heap.size = d at *
  generalize hpp : w2.heap.size = p at *
  generalize hbb : p + 1 = b at *
  go_loopw [10] (fun i wr => ∃ k : Nat, k ≤ L.length ∧ i = .int .i64 (k : Int) ∧ PlaysRel w1 L same d p b r k wr) (fun i _ => L.length - (intOf i).toNat)
  case atStart => exact ⟨0, Nat.zero_le _, rfl, _, _, _, _, _, _, _, P0.out, rfl, fun i hi => by simp at hi⟩
  case round =>
    obtain ⟨k, hk, rfl, dv, pv, un, uw, us, ws, Ls, hP, hlu, hLs⟩ := hrel
    have HP := Lib.hid hP
    have HLu := Lib.hid hlu
    have HLs := Lib.hid hLs
    clear hP hlu hLs P0
    by_cases hlt : k < L.length
    · obtain ⟨bb, oo, rfl, hc⟩ := HA.out k hlt
      have HC : Hid (∀ W, Only [] w W → Cells4 W bb (oo + k * 4) (L[k]?.getD nd0)) := fun W ho => hc.only ho (by simp)
      have HN := Lib.hid (HF.out k hlt)
      have Hsn : Hid (puts (shr same) (L.take (k + 1)) = putNs (shr same) (puts (shr same) (L.take k)) (L[k]?.getD nd0)) := by
        show _ = _
        rw [List.take_succ_eq_append_getElem hlt, puts_snoc]
        simp [hlt]
      have hle := puts_le (shr same) (L.take k)
      have hle2 := puts_le (shr same) (L.take (k + 1))
      rw [List.length_take] at hle hle2
      have HLen : Hid ((puts (shr same) (L.take k)).length ≤ 120 ∧ (puts (shr same) (L.take (k + 1))).length ≤ 120) := by show _ ∧ _; omega
      clear hc hle hle2
      generalize puts (shr same) (L.take k) = ns at HP Hsn HLen
      generalize L[k]?.getD nd0 = n at HC HN Hsn
      obtain ⟨nk, nf, na, nb⟩ := n
      replace HN : Hid (nf < 2 ^ 64) := HN
      have hk' : (k : Int) < (L.length : Int) := by omega
      obtain ⟨pA, pc, rfl, -⟩ := HP.out.pl.shape
      have cp : wr.cell? ⟨p, 0, none⟩ = some (.slice pA ns.length pc) := HP.out.pl.blk.cell 0
      obtain ⟨x0, x1, x2, x3⟩ := HC.out wr (HO1.out.nil_trans HP.out.only)
      simp only at x0 x1 x2 x3
      go_wp2_with fail
      refine (put_any d dv r ns nk nf na nb wr HN HP.out.dag (by have := HLen.out.1; omega)).mono ?_
      rintro e w3 ⟨ev, dv', rfl, hd3, hbl3, ho3, hev3⟩
      rw [(put_share Hr.out ns ⟨nk, nf, na, nb⟩).2]
      rw [(put_share Hr.out ns ⟨nk, nf, na, nb⟩).1] at hd3
      have HP3 := Lib.hid (HP.out.dput ⟨hbl3, ho3⟩ hd3)
      have HEv := Lib.hid hev3
      have HFp := Lib.hid HP.out.pl.lt
      clear hd3 hbl3 ho3 hev3 HP cp x0 x1 x2 x3
      obtain ⟨x0, x1, x2, x3⟩ := HC.out w3 (HO1.out.nil_trans HP3.out.only)
      simp only at x0 x1 x2 x3
      go_wp2_with fail
      refine (pput_any p _ same ns nk nf na nb w3 HP3.out.pl (by have := HLen.out.1; show _ < _; omega)).mono ?_
      rintro e w4 ⟨pv', rfl, hp4, hst4⟩
      have HP4 := Lib.hid (HP3.out.pput hst4 hp4)
      have Ho34 := Lib.hid hst4.2
      clear hst4 hp4 x0 x1 x2 x3
      rw [← Hsn.out] at HP4
      clear Hsn HP3
      cases ht : takesB ns.length nk nf na nb
      · have hid : putId (shr same) ns ⟨nk, nf, na, nb⟩ = -1 := by simp [putId, ht]
        have hev := HEv.out
        rw [if_neg (by rw [ht]; decide)] at hev
        obtain ⟨ga, hga, rfl, hb3⟩ := hev
        have HB4 := Lib.hid (hb3.only Ho34.out (fun hm => by have := HFp.out ga hm; omega))
        have HG4 := Lib.hid ((HO1.out.nil_trans HP4.out.only).cell HG.out (by simp))
        clear HEv HFp Ho34 hb3
        rw [hid]
        go_wp2_with fail
        refine (where_at 1 ga _ _ HB4.out HG4.out).mono ?_
        rintro e w5 ⟨rfl, ho5⟩
        have HP5 := Lib.hid (HP4.out.nil ho5)
        have HB5 := Lib.hid (HB4.out.only ho5 (by simp))
        clear HP4 HB4 HG4 ho5
        go_wp2_with fail
        refine (code_at 1 (by omega) ga _ _ HB5.out).mono ?_
        rintro e w6 ⟨rfl, ho6⟩
        have HP6 := Lib.hid (HP5.out.nil ho6)
        clear HP5 HB5 ho6
        go_wp2_with fail
        have hns1 : ∃ ns1, puts (shr same) (L.take (k + 1)) = ns1 := ⟨_, rfl⟩
        obtain ⟨ns1, hns1⟩ := hns1
        rw [hns1] at HP6 HLen
        have HNs := Lib.hid hns1
        clear hns1
        refine (dall_any d dv' r ns1 w6 HP6.out.dag (by have := HLen.out.2; show _ < _; omega)).mono ?_
        rintro e w7 ⟨u, rfl, hu, hug, ho7⟩
        obtain ⟨uA, uc, rfl, -⟩ := hu.shape
        have HP7 := Lib.hid (HP6.out.nil ho7)
        have HU7 := Lib.hid hu
        have HUg : Hid (∀ g, (Value.slice uA ns1.length uc).ownBlock = some g → g ∉ foot d dv' r ∧ g ∉ foot p pv' none ∧ g ∉ bfoot b un uw us ws ∧ w1.heap.size ≤ g) := by
          intro g hg
          have h0 := hug g hg
          refine ⟨fun hm => ?_, fun hm => ?_, fun hm => ?_, Nat.le_trans HP6.out.only.size h0⟩
          · have := HP6.out.dag.lt g hm
            omega
          · have := HP6.out.pl.lt g hm
            omega
          · have := HP6.out.bk.lt g hm
            omega
        clear hu hug ho7 HP6
        go_wp2_with fail
        refine (bnodes_any b un uw us ws Ls uA uc ns1 w7 HP7.out.bk HU7.out (fun g hg hm => (HUg.out g hg).2.2.1 (by simp [bfoot, hm])) (by have := HLu.out; omega) (by have := HLen.out.2; omega)).mono ?_
        rintro e w8 hb8
        obtain ⟨un', uw', x, rfl, hP8⟩ := HP7.out.book (fun g hg => ⟨(HUg.out g hg).1, (HUg.out g hg).2.1, (HUg.out g hg).2.2.2⟩) hb8
        have HP8 := Lib.hid hP8
        clear hP8 hb8 HP7 HU7 HUg
        go_wp2_with fail
        rcases at_cases at_ ns1.length with ⟨a, rfl, ha⟩ | ⟨hout, ga1⟩ | ⟨hout, ga1, ga2⟩
        · refine (dnode_in d dv' r ns1 a w8 HP8.out.dag ha).mono ?_
          rintro e w9 ⟨rfl, ho9⟩
          have HP9 := Lib.hid (HP8.out.nil ho9)
          clear HP8 ho9
          have ha' : (a : Int) < (ns1.length : Int) := by omega
          have ha0 : (0 : Int) ≤ (a : Int) := by omega
          have hsame := fun (W : World) => same_refl (ns1[a]?.getD nd0) W
          obtain ⟨P, q, rfl, hcl⟩ := HP9.out.pl.shape
          obtain ⟨gP, rfl, y0, y1, y2, y3⟩ := hcl a ha
          have HRp : Hid (NRead w9 (some ⟨gP, 0, none⟩) ns1) := (show NodesAt w9 _ ns1 from HP9.out.pl.row).read.2
          clear hcl
          generalize ns1[a]?.getD nd0 = m at hsame y0 y1 y2 y3
          obtain ⟨mk, mf, ma, mb⟩ := m
          simp only at y0 y1 y2 y3
          have hO := (Only.refl [] w9).alloc (.cells #[.int .i64 mk, .float .f64 mf, .int .i64 ma, .int .i64 mb] 43)
          have z0 := hO.cell y0 (by simp)
          have z1 := hO.cell y1 (by simp)
          have z2 := hO.cell y2 (by simp)
          have z3 := hO.cell y3 (by simp)
          have cp : (w9.alloc (.cells #[.int .i64 mk, .float .f64 mf, .int .i64 ma, .int .i64 mb] 43)).cell? ⟨p, 0, none⟩ = some (.slice (some ⟨gP, 0, none⟩) ns1.length q) := hO.cell (HP9.out.pl.blk.cell 0) (by simp)
          obtain ⟨q0, q1, q2, q3⟩ := box_cells (Blk.new w9 43 [.int .i64 mk, .float .f64 mf, .int .i64 ma, .int .i64 mb]) (Only.refl [] _) (by simp)
          have HPA := Lib.hid (HP9.out.nil hO)
          have HRA := Lib.hid (HRp.out.only hO)
          have HUA : Hid (NRead (w9.alloc (.cells #[.int .i64 mk, .float .f64 mf, .int .i64 ma, .int .i64 mb] 43)) uA ns1) := (last_read HPA.out.bk).only (Only.refl _ _)
          clear y0 y1 y2 y3 hO HP9 HRp
          simp only [Nd.val]
          go_wp2_with fail
          have e0 := fun g => Ext.cell z0 g
          have e1 := fun g => Ext.cell z1 g
          have e2 := fun g => Ext.cell z2 g
          have e3 := fun g => Ext.cell z3 g
          have ep := fun g => Ext.cell cp g
          have b0 := fun g => Ext.cell q0 g
          have b1 := fun g => Ext.cell q1 g
          have b2 := fun g => Ext.cell q2 g
          have b3 := fun g => Ext.cell q3 g
          clear z0 z1 z2 z3 cp q0 q1 q2 q3
          refine wp_region_ext (by kernel_rfl) (by kernel_rfl) ?_
          repeat (any_goals (first | go_big_quiet_step ((first
            | (go_at_call 14; exact ext_of_same (dlen_any d dv' r ns1 _ (HPA.out.dag.only (Ext.ho _) (by simp))))
            | (go_at_call 15; exact ext_of (samenodes_any _ _ _ _ ns1 _ (HUA.out.only (Ext.ho _)) (HRA.out.only (Ext.ho _)) (by have := HLen.out.2; omega)))
            | (go_at_call 16; exact ext_of (hsame _)))) | quiet_step ((first
            | (go_at_call 14; exact ext_of_same (dlen_any d dv' r ns1 _ (HPA.out.dag.only (Ext.ho _) (by simp))))
            | (go_at_call 15; exact ext_of (samenodes_any _ _ _ _ ns1 _ (HUA.out.only (Ext.ho _)) (HRA.out.only (Ext.ho _)) (by have := HLen.out.2; omega)))
            | (go_at_call 16; exact ext_of (hsame _)))) | (refine wpQuiet_step (fun K hK => ?_); go_simp; split <;> (refine hK _ ?_; clear hK K))))
          all_goals (refine wpQuiet_nil ?_; intro _ hw'; obtain ⟨gx, hw''⟩ := hw'; subst hw'')
          go_wp2_with fail
          go_roundw
          case rel => exact ⟨k + 1, by omega, by go_num, dv', _, un', uw', _, _, _, by rw [HNs.out]; exact HPA.out.nil gx.ho, by simp [HLu.out], plays_len HPA.out.bk.ln.len HLs.out HLen.out.2⟩
          case measure => simp [intOf]; omega
        · refine (dnode_out d dv' r ns1 at_ w8 HP8.out.dag hout).mono ?_
          rintro e w9 ⟨rfl, ho9⟩
          have HP9 := Lib.hid (HP8.out.nil ho9)
          clear HP8 ho9 hout
          have hsame := fun (W : World) => same_refl nd0 W
          obtain ⟨P, q, rfl, -⟩ := HP9.out.pl.shape
          have HRp : Hid (NRead w9 P ns1) := (show NodesAt w9 _ ns1 from HP9.out.pl.row).read.2
          have hO := (Only.refl [] w9).alloc (.cells #[.int .i64 0, .float .f64 0, .int .i64 0, .int .i64 0] 43)
          have cp : (w9.alloc (.cells #[.int .i64 0, .float .f64 0, .int .i64 0, .int .i64 0] 43)).cell? ⟨p, 0, none⟩ = some (.slice P ns1.length q) := hO.cell (HP9.out.pl.blk.cell 0) (by simp)
          obtain ⟨q0, q1, q2, q3⟩ := box_cells (Blk.new w9 43 [.int .i64 0, .float .f64 0, .int .i64 0, .int .i64 0]) (Only.refl [] _) (by simp)
          have HPA := Lib.hid (HP9.out.nil hO)
          have HRA := Lib.hid (HRp.out.only hO)
          have HUA : Hid (NRead (w9.alloc (.cells #[.int .i64 0, .float .f64 0, .int .i64 0, .int .i64 0] 43)) uA ns1) := (last_read HPA.out.bk).only (Only.refl _ _)
          clear hO HP9 HRp
          simp only [Nd.val, nd0] at hsame ⊢
          go_wp2_with fail
          have ep := fun g => Ext.cell cp g
          have b0 := fun g => Ext.cell q0 g
          have b1 := fun g => Ext.cell q1 g
          have b2 := fun g => Ext.cell q2 g
          have b3 := fun g => Ext.cell q3 g
          clear cp q0 q1 q2 q3
          refine wp_region_ext (by kernel_rfl) (by kernel_rfl) ?_
          repeat (any_goals (first | go_big_quiet_step ((first
            | (go_at_call 14; exact ext_of_same (dlen_any d dv' r ns1 _ (HPA.out.dag.only (Ext.ho _) (by simp))))
            | (go_at_call 15; exact ext_of (samenodes_any _ _ _ _ ns1 _ (HUA.out.only (Ext.ho _)) (HRA.out.only (Ext.ho _)) (by have := HLen.out.2; omega)))
            | (go_at_call 16; exact ext_of (hsame _)))) | quiet_step ((first
            | (go_at_call 14; exact ext_of_same (dlen_any d dv' r ns1 _ (HPA.out.dag.only (Ext.ho _) (by simp))))
            | (go_at_call 15; exact ext_of (samenodes_any _ _ _ _ ns1 _ (HUA.out.only (Ext.ho _)) (HRA.out.only (Ext.ho _)) (by have := HLen.out.2; omega)))
            | (go_at_call 16; exact ext_of (hsame _)))) | (refine wpQuiet_step (fun K hK => ?_); go_simp; split <;> (refine hK _ ?_; clear hK K))))
          all_goals (refine wpQuiet_nil ?_; intro _ hw'; obtain ⟨gx, hw''⟩ := hw'; subst hw'')
          go_wp2_with fail
          go_roundw
          case rel => exact ⟨k + 1, by omega, by go_num, dv', _, un', uw', _, _, _, by rw [HNs.out]; exact HPA.out.nil gx.ho, by simp [HLu.out], plays_len HPA.out.bk.ln.len HLs.out HLen.out.2⟩
          case measure => simp [intOf]; omega
        · refine (dnode_out d dv' r ns1 at_ w8 HP8.out.dag hout).mono ?_
          rintro e w9 ⟨rfl, ho9⟩
          have HP9 := Lib.hid (HP8.out.nil ho9)
          clear HP8 ho9 hout
          have hsame := fun (W : World) => same_refl nd0 W
          obtain ⟨P, q, rfl, -⟩ := HP9.out.pl.shape
          have HRp : Hid (NRead w9 P ns1) := (show NodesAt w9 _ ns1 from HP9.out.pl.row).read.2
          have hO := (Only.refl [] w9).alloc (.cells #[.int .i64 0, .float .f64 0, .int .i64 0, .int .i64 0] 43)
          have cp : (w9.alloc (.cells #[.int .i64 0, .float .f64 0, .int .i64 0, .int .i64 0] 43)).cell? ⟨p, 0, none⟩ = some (.slice P ns1.length q) := hO.cell (HP9.out.pl.blk.cell 0) (by simp)
          obtain ⟨q0, q1, q2, q3⟩ := box_cells (Blk.new w9 43 [.int .i64 0, .float .f64 0, .int .i64 0, .int .i64 0]) (Only.refl [] _) (by simp)
          have HPA := Lib.hid (HP9.out.nil hO)
          have HRA := Lib.hid (HRp.out.only hO)
          have HUA : Hid (NRead (w9.alloc (.cells #[.int .i64 0, .float .f64 0, .int .i64 0, .int .i64 0] 43)) uA ns1) := (last_read HPA.out.bk).only (Only.refl _ _)
          clear hO HP9 HRp
          simp only [Nd.val, nd0] at hsame ⊢
          go_wp2_with fail
          have ep := fun g => Ext.cell cp g
          have b0 := fun g => Ext.cell q0 g
          have b1 := fun g => Ext.cell q1 g
          have b2 := fun g => Ext.cell q2 g
          have b3 := fun g => Ext.cell q3 g
          clear cp q0 q1 q2 q3
          refine wp_region_ext (by kernel_rfl) (by kernel_rfl) ?_
          repeat (any_goals (first | go_big_quiet_step ((first
            | (go_at_call 14; exact ext_of_same (dlen_any d dv' r ns1 _ (HPA.out.dag.only (Ext.ho _) (by simp))))
            | (go_at_call 15; exact ext_of (samenodes_any _ _ _ _ ns1 _ (HUA.out.only (Ext.ho _)) (HRA.out.only (Ext.ho _)) (by have := HLen.out.2; omega)))
            | (go_at_call 16; exact ext_of (hsame _)))) | quiet_step ((first
            | (go_at_call 14; exact ext_of_same (dlen_any d dv' r ns1 _ (HPA.out.dag.only (Ext.ho _) (by simp))))
            | (go_at_call 15; exact ext_of (samenodes_any _ _ _ _ ns1 _ (HUA.out.only (Ext.ho _)) (HRA.out.only (Ext.ho _)) (by have := HLen.out.2; omega)))
            | (go_at_call 16; exact ext_of (hsame _)))) | (refine wpQuiet_step (fun K hK => ?_); go_simp; split <;> (refine hK _ ?_; clear hK K))))
          all_goals (refine wpQuiet_nil ?_; intro _ hw'; obtain ⟨gx, hw''⟩ := hw'; subst hw'')
          go_wp2_with fail
          go_roundw
          case rel => exact ⟨k + 1, by omega, by go_num, dv', _, un', uw', _, _, _, by rw [HNs.out]; exact HPA.out.nil gx.ho, by simp [HLu.out], plays_len HPA.out.bk.ln.len HLs.out HLen.out.2⟩
          case measure => simp [intOf]; omega
      · have hid : 0 ≤ putId (shr same) ns ⟨nk, nf, na, nb⟩ := by
          unfold putId
          rw [if_pos ht]
          split <;> omega
        have hev := HEv.out
        rw [if_pos ht] at hev
        subst hev
        clear HEv HFp Ho34
        generalize putId (shr same) ns ⟨nk, nf, na, nb⟩ = id at hid
        go_wp2_with fail
        have hns1 : ∃ ns1, puts (shr same) (L.take (k + 1)) = ns1 := ⟨_, rfl⟩
        obtain ⟨ns1, hns1⟩ := hns1
        rw [hns1] at HP4 HLen
        have HNs := Lib.hid hns1
        clear hns1
        refine (dall_any d dv' r ns1 w4 HP4.out.dag (by have := HLen.out.2; show _ < _; omega)).mono ?_
        rintro e w7 ⟨u, rfl, hu, hug, ho7⟩
        obtain ⟨uA, uc, rfl, -⟩ := hu.shape
        have HP7 := Lib.hid (HP4.out.nil ho7)
        have HU7 := Lib.hid hu
        have HUg : Hid (∀ g, (Value.slice uA ns1.length uc).ownBlock = some g → g ∉ foot d dv' r ∧ g ∉ foot p pv' none ∧ g ∉ bfoot b un uw us ws ∧ w1.heap.size ≤ g) := by
          intro g hg
          have h0 := hug g hg
          refine ⟨fun hm => ?_, fun hm => ?_, fun hm => ?_, Nat.le_trans HP4.out.only.size h0⟩
          · have := HP4.out.dag.lt g hm
            omega
          · have := HP4.out.pl.lt g hm
            omega
          · have := HP4.out.bk.lt g hm
            omega
        clear hu hug ho7 HP4
        go_wp2_with fail
        refine (bnodes_any b un uw us ws Ls uA uc ns1 w7 HP7.out.bk HU7.out (fun g hg hm => (HUg.out g hg).2.2.1 (by simp [bfoot, hm])) (by have := HLu.out; omega) (by have := HLen.out.2; omega)).mono ?_
        rintro e w8 hb8
        obtain ⟨un', uw', x, rfl, hP8⟩ := HP7.out.book (fun g hg => ⟨(HUg.out g hg).1, (HUg.out g hg).2.1, (HUg.out g hg).2.2.2⟩) hb8
        have HP8 := Lib.hid hP8
        clear hP8 hb8 HP7 HU7 HUg
        go_wp2_with fail
        rcases at_cases at_ ns1.length with ⟨a, rfl, ha⟩ | ⟨hout, ga1⟩ | ⟨hout, ga1, ga2⟩
        · refine (dnode_in d dv' r ns1 a w8 HP8.out.dag ha).mono ?_
          rintro e w9 ⟨rfl, ho9⟩
          have HP9 := Lib.hid (HP8.out.nil ho9)
          clear HP8 ho9
          have ha' : (a : Int) < (ns1.length : Int) := by omega
          have ha0 : (0 : Int) ≤ (a : Int) := by omega
          have hsame := fun (W : World) => same_refl (ns1[a]?.getD nd0) W
          obtain ⟨P, q, rfl, hcl⟩ := HP9.out.pl.shape
          obtain ⟨gP, rfl, y0, y1, y2, y3⟩ := hcl a ha
          have HRp : Hid (NRead w9 (some ⟨gP, 0, none⟩) ns1) := (show NodesAt w9 _ ns1 from HP9.out.pl.row).read.2
          clear hcl
          generalize ns1[a]?.getD nd0 = m at hsame y0 y1 y2 y3
          obtain ⟨mk, mf, ma, mb⟩ := m
          simp only at y0 y1 y2 y3
          have hO := (Only.refl [] w9).alloc (.cells #[.int .i64 mk, .float .f64 mf, .int .i64 ma, .int .i64 mb] 43)
          have z0 := hO.cell y0 (by simp)
          have z1 := hO.cell y1 (by simp)
          have z2 := hO.cell y2 (by simp)
          have z3 := hO.cell y3 (by simp)
          have cp : (w9.alloc (.cells #[.int .i64 mk, .float .f64 mf, .int .i64 ma, .int .i64 mb] 43)).cell? ⟨p, 0, none⟩ = some (.slice (some ⟨gP, 0, none⟩) ns1.length q) := hO.cell (HP9.out.pl.blk.cell 0) (by simp)
          obtain ⟨q0, q1, q2, q3⟩ := box_cells (Blk.new w9 43 [.int .i64 mk, .float .f64 mf, .int .i64 ma, .int .i64 mb]) (Only.refl [] _) (by simp)
          have HPA := Lib.hid (HP9.out.nil hO)
          have HRA := Lib.hid (HRp.out.only hO)
          have HUA : Hid (NRead (w9.alloc (.cells #[.int .i64 mk, .float .f64 mf, .int .i64 ma, .int .i64 mb] 43)) uA ns1) := (last_read HPA.out.bk).only (Only.refl _ _)
          clear y0 y1 y2 y3 hO HP9 HRp
          simp only [Nd.val]
          go_wp2_with fail
          have e0 := fun g => Ext.cell z0 g
          have e1 := fun g => Ext.cell z1 g
          have e2 := fun g => Ext.cell z2 g
          have e3 := fun g => Ext.cell z3 g
          have ep := fun g => Ext.cell cp g
          have b0 := fun g => Ext.cell q0 g
          have b1 := fun g => Ext.cell q1 g
          have b2 := fun g => Ext.cell q2 g
          have b3 := fun g => Ext.cell q3 g
          clear z0 z1 z2 z3 cp q0 q1 q2 q3
          refine wp_region_ext (by kernel_rfl) (by kernel_rfl) ?_
          repeat (any_goals (first | go_big_quiet_step ((first
            | (go_at_call 14; exact ext_of_same (dlen_any d dv' r ns1 _ (HPA.out.dag.only (Ext.ho _) (by simp))))
            | (go_at_call 15; exact ext_of (samenodes_any _ _ _ _ ns1 _ (HUA.out.only (Ext.ho _)) (HRA.out.only (Ext.ho _)) (by have := HLen.out.2; omega)))
            | (go_at_call 16; exact ext_of (hsame _)))) | quiet_step ((first
            | (go_at_call 14; exact ext_of_same (dlen_any d dv' r ns1 _ (HPA.out.dag.only (Ext.ho _) (by simp))))
            | (go_at_call 15; exact ext_of (samenodes_any _ _ _ _ ns1 _ (HUA.out.only (Ext.ho _)) (HRA.out.only (Ext.ho _)) (by have := HLen.out.2; omega)))
            | (go_at_call 16; exact ext_of (hsame _)))) | (refine wpQuiet_step (fun K hK => ?_); go_simp; split <;> (refine hK _ ?_; clear hK K))))
          all_goals (refine wpQuiet_nil ?_; intro _ hw'; obtain ⟨gx, hw''⟩ := hw'; subst hw'')
          go_wp2_with fail
          go_roundw
          case rel => exact ⟨k + 1, by omega, by go_num, dv', _, un', uw', _, _, _, by rw [HNs.out]; exact HPA.out.nil gx.ho, by simp [HLu.out], plays_len HPA.out.bk.ln.len HLs.out HLen.out.2⟩
          case measure => simp [intOf]; omega
        · refine (dnode_out d dv' r ns1 at_ w8 HP8.out.dag hout).mono ?_
          rintro e w9 ⟨rfl, ho9⟩
          have HP9 := Lib.hid (HP8.out.nil ho9)
          clear HP8 ho9 hout
          have hsame := fun (W : World) => same_refl nd0 W
          obtain ⟨P, q, rfl, -⟩ := HP9.out.pl.shape
          have HRp : Hid (NRead w9 P ns1) := (show NodesAt w9 _ ns1 from HP9.out.pl.row).read.2
          have hO := (Only.refl [] w9).alloc (.cells #[.int .i64 0, .float .f64 0, .int .i64 0, .int .i64 0] 43)
          have cp : (w9.alloc (.cells #[.int .i64 0, .float .f64 0, .int .i64 0, .int .i64 0] 43)).cell? ⟨p, 0, none⟩ = some (.slice P ns1.length q) := hO.cell (HP9.out.pl.blk.cell 0) (by simp)
          obtain ⟨q0, q1, q2, q3⟩ := box_cells (Blk.new w9 43 [.int .i64 0, .float .f64 0, .int .i64 0, .int .i64 0]) (Only.refl [] _) (by simp)
          have HPA := Lib.hid (HP9.out.nil hO)
          have HRA := Lib.hid (HRp.out.only hO)
          have HUA : Hid (NRead (w9.alloc (.cells #[.int .i64 0, .float .f64 0, .int .i64 0, .int .i64 0] 43)) uA ns1) := (last_read HPA.out.bk).only (Only.refl _ _)
          clear hO HP9 HRp
          simp only [Nd.val, nd0] at hsame ⊢
          go_wp2_with fail
          have ep := fun g => Ext.cell cp g
          have b0 := fun g => Ext.cell q0 g
          have b1 := fun g => Ext.cell q1 g
          have b2 := fun g => Ext.cell q2 g
          have b3 := fun g => Ext.cell q3 g
          clear cp q0 q1 q2 q3
          refine wp_region_ext (by kernel_rfl) (by kernel_rfl) ?_
          repeat (any_goals (first | go_big_quiet_step ((first
            | (go_at_call 14; exact ext_of_same (dlen_any d dv' r ns1 _ (HPA.out.dag.only (Ext.ho _) (by simp))))
            | (go_at_call 15; exact ext_of (samenodes_any _ _ _ _ ns1 _ (HUA.out.only (Ext.ho _)) (HRA.out.only (Ext.ho _)) (by have := HLen.out.2; omega)))
            | (go_at_call 16; exact ext_of (hsame _)))) | quiet_step ((first
            | (go_at_call 14; exact ext_of_same (dlen_any d dv' r ns1 _ (HPA.out.dag.only (Ext.ho _) (by simp))))
            | (go_at_call 15; exact ext_of (samenodes_any _ _ _ _ ns1 _ (HUA.out.only (Ext.ho _)) (HRA.out.only (Ext.ho _)) (by have := HLen.out.2; omega)))
            | (go_at_call 16; exact ext_of (hsame _)))) | (refine wpQuiet_step (fun K hK => ?_); go_simp; split <;> (refine hK _ ?_; clear hK K))))
          all_goals (refine wpQuiet_nil ?_; intro _ hw'; obtain ⟨gx, hw''⟩ := hw'; subst hw'')
          go_wp2_with fail
          go_roundw
          case rel => exact ⟨k + 1, by omega, by go_num, dv', _, un', uw', _, _, _, by rw [HNs.out]; exact HPA.out.nil gx.ho, by simp [HLu.out], plays_len HPA.out.bk.ln.len HLs.out HLen.out.2⟩
          case measure => simp [intOf]; omega
        · refine (dnode_out d dv' r ns1 at_ w8 HP8.out.dag hout).mono ?_
          rintro e w9 ⟨rfl, ho9⟩
          have HP9 := Lib.hid (HP8.out.nil ho9)
          clear HP8 ho9 hout
          have hsame := fun (W : World) => same_refl nd0 W
          obtain ⟨P, q, rfl, -⟩ := HP9.out.pl.shape
          have HRp : Hid (NRead w9 P ns1) := (show NodesAt w9 _ ns1 from HP9.out.pl.row).read.2
          have hO := (Only.refl [] w9).alloc (.cells #[.int .i64 0, .float .f64 0, .int .i64 0, .int .i64 0] 43)
          have cp : (w9.alloc (.cells #[.int .i64 0, .float .f64 0, .int .i64 0, .int .i64 0] 43)).cell? ⟨p, 0, none⟩ = some (.slice P ns1.length q) := hO.cell (HP9.out.pl.blk.cell 0) (by simp)
          obtain ⟨q0, q1, q2, q3⟩ := box_cells (Blk.new w9 43 [.int .i64 0, .float .f64 0, .int .i64 0, .int .i64 0]) (Only.refl [] _) (by simp)
          have HPA := Lib.hid (HP9.out.nil hO)
          have HRA := Lib.hid (HRp.out.only hO)
          have HUA : Hid (NRead (w9.alloc (.cells #[.int .i64 0, .float .f64 0, .int .i64 0, .int .i64 0] 43)) uA ns1) := (last_read HPA.out.bk).only (Only.refl _ _)
          clear hO HP9 HRp
          simp only [Nd.val, nd0] at hsame ⊢
          go_wp2_with fail
          have ep := fun g => Ext.cell cp g
          have b0 := fun g => Ext.cell q0 g
          have b1 := fun g => Ext.cell q1 g
          have b2 := fun g => Ext.cell q2 g
          have b3 := fun g => Ext.cell q3 g
          clear cp q0 q1 q2 q3
          refine wp_region_ext (by kernel_rfl) (by kernel_rfl) ?_
          repeat (any_goals (first | go_big_quiet_step ((first
            | (go_at_call 14; exact ext_of_same (dlen_any d dv' r ns1 _ (HPA.out.dag.only (Ext.ho _) (by simp))))
            | (go_at_call 15; exact ext_of (samenodes_any _ _ _ _ ns1 _ (HUA.out.only (Ext.ho _)) (HRA.out.only (Ext.ho _)) (by have := HLen.out.2; omega)))
            | (go_at_call 16; exact ext_of (hsame _)))) | quiet_step ((first
            | (go_at_call 14; exact ext_of_same (dlen_any d dv' r ns1 _ (HPA.out.dag.only (Ext.ho _) (by simp))))
            | (go_at_call 15; exact ext_of (samenodes_any _ _ _ _ ns1 _ (HUA.out.only (Ext.ho _)) (HRA.out.only (Ext.ho _)) (by have := HLen.out.2; omega)))
            | (go_at_call 16; exact ext_of (hsame _)))) | (refine wpQuiet_step (fun K hK => ?_); go_simp; split <;> (refine hK _ ?_; clear hK K))))
          all_goals (refine wpQuiet_nil ?_; intro _ hw'; obtain ⟨gx, hw''⟩ := hw'; subst hw'')
          go_wp2_with fail
          go_roundw
          case rel => exact ⟨k + 1, by omega, by go_num, dv', _, un', uw', _, _, _, by rw [HNs.out]; exact HPA.out.nil gx.ho, by simp [HLu.out], plays_len HPA.out.bk.ln.len HLs.out HLen.out.2⟩
          case measure => simp [intOf]; omega
    · have hnl : ¬ (k : Int) < (L.length : Int) := by omega
      have hkl : k = L.length := by omega
      go_wp2_with (first
        | (go_at_call 13; refine (dnode_nil _ _).mono ?_; rintro e w3 ⟨rfl, ho3⟩; have HP3 := Lib.hid (HP.out.nil ho3); clear ho3; simp only [Nd.val, nd0])
        | (go_at_call 7; refine (dput_nil _ _ _ _ _).mono ?_; rintro e w4 ⟨rfl, ho4⟩; have HP4 := Lib.hid ((HP3.out.nil ((Only.refl [] _).alloc _)).nil ho4); clear ho4))
      clear HP3 HG heq HA HF
      generalize puts (shr same) (L.take k) = ns at HP4
      refine (code_kind 1 (by omega) _).mono ?_
      rintro e w5 ⟨rfl, ho5⟩
      have HP5 := Lib.hid (HP4.out.nil ho5)
      clear ho5 HP4
      go_wp2_with (first
        | (go_at_call 14; refine (dlen_nil _).mono ?_; rintro e w' ⟨rfl, hh⟩; obtain rfl := hh)
        | (go_at_call 11; refine (dall_nil _).mono ?_; rintro e w' ⟨rfl, hh⟩; obtain rfl := hh.symm)
        | (go_at_call 17; refine (dleaf_nil _ _).mono ?_; rintro e w6 ⟨rfl, ho6⟩; have HP6 := Lib.hid (HP5.out.nil ho6); clear ho6 HP5; have hB7 := (Blk.new w6 3 [.int .i64 0]).cell 0; simp only [List.getElem?_cons_zero] at hB7)
        | (go_at_call 18; refine (dadd_nil 0 _ _ _ hB7).mono ?_; rintro e w' ⟨rfl, hh⟩; obtain rfl := hh.symm))
      clear hB7
      have HP7 := Lib.hid (HP6.out.nil ((Only.refl [] w6).alloc (.cells #[.int .i64 0] 3)))
      refine (apart_any b un uw us ws Ls _ HP7.out.bk (by have := HLu.out; omega) (fun i hi => by have := HLs.out i hi; omega)).mono ?_
      rintro e w8 ⟨rfl, ho8⟩
      have HO8 := Lib.hid (HP7.out.only.trans ho8 (fun x hx => .inr (HP7.out.fb x (by simp [bfoot, hx]))))
      clear HP6 HP7 ho8
      go_wp2_with fail
      go_ret
      exact ⟨rfl, HO1.out.nil_trans HO8.out⟩
end Go.Proofs.YtkiongpfpjfaaaaDoor
