/-
  Joined texts.
-/
import Derived.Test.YtigpnopeacicpaaDoorTaBoB
import Derived.Test.YtigpnopeacicpaaDoorTaMapV
import Derived.Test.YtigpnopeacicpaaDoorTaLd10
import Derived.Test.YtigpnopeacicpaaDoorTaRoots
import Derived.Laws.MakeOwn
/-
  bound.combine of any node; bound.entries.
-/
namespace Go.Proofs.YtigpnopeacicpaaDoor
set_option linter.unusedSimpArgs false
open Go.RowKit
attribute [local go_sem] run_store_float

/-- The dyad of a word. -/
def dyW (v : Nat) : Dy := Fl.fD (decide (9223372036854775808 ≤ v)) (v % 9223372036854775808)
/-- What is known of a leaf. -/
def lfB (v : Nat) : En := if finB v = true ∧ v < 18446744073709551616 then leafE (dyW v) else ⟨0, 0, true⟩
theorem fin_word2 {v : Nat} (h : finB v = true) (hv : v < 18446744073709551616) : v % 9223372036854775808 < Fl.INF ∧ Fl.wordB (decide (9223372036854775808 ≤ v)) (v % 9223372036854775808) = v := by
  have hr : v % 9223372036854775808 < 9223372036854775808 := Nat.mod_lt _ (by decide)
  have hw : Fl.wordB (decide (9223372036854775808 ≤ v)) (v % 9223372036854775808) = v := by
    unfold Fl.wordB
    by_cases h : 9223372036854775808 ≤ v
    · rw [decide_eq_true h, if_pos rfl]; omega
    · rw [decide_eq_false h, if_neg (by decide)]; omega
  refine ⟨?_, hw⟩
  have h2 := Fl.fin_word (decide (9223372036854775808 ≤ v)) hr
  rw [hw] at h2
  have h3 : Fl.finB v = finB v := rfl
  rw [h3, h] at h2
  simpa using h2.symm
theorem dyW_bnd {v : Nat} (h : finB v = true) (hv : v < 18446744073709551616) : Bnd 3000 (dyW v) := by
  have h1 := (fin_word2 h hv).1
  unfold dyW Fl.fD
  generalize v % 9223372036854775808 = r at h1
  have hI := Fl.inf_val
  have hm := Fl.mant_lt r
  have he : Fl.expoW r ≤ 2046 := by unfold Fl.expoW; omega
  refine bnd_nrm (K := 53) (M := 1100) ?_ (by omega) (by omega) (by omega)
  have : (sg (decide (9223372036854775808 ≤ v)) (Fl.mantW r)).natAbs = Fl.mantW r := sg_abs _ _
  rw [this]
  omega
theorem lfB_ok : LfOk lfB := by
  intro v
  unfold lfB
  split
  · rename_i h
    have := leafE_ok (dyW_bnd h.1 h.2)
    omega
  · dsimp only; omega
theorem leaf_word (v : Nat) (h : finB v = true) (hv : v < 18446744073709551616) (w : World) (hT : Hid (Tab6 w)) : Calls Tryd.prog 104 #[.float .f64 v] w fun e w' => e = .returned (entV (lfB v)) ∧ Only [] w w' := by
  have e : lfB v = leafE (dyW v) := if_pos ⟨h, hv⟩
  rw [e]
  obtain ⟨h1, h2⟩ := fin_word2 h hv
  exact bo_leaf v (dyW v) (fun W hW => Fl.fl_dyadV v _ (dyW v) h1 h2 rfl W hW) (dyW_bnd h hv) w hT
/-- A node as it should be: of a kind that there is, a leaf of a finite word. -/
def NodeOk (n : Nd) : Prop := (n.k = 0 ∨ n.k = 1 ∨ n.k = 2 ∨ n.k = 3 ∨ n.k = 4 ∨ n.k = 5) ∧ (n.k = 0 → finB n.f = true ∧ n.f < 18446744073709551616)
theorem comb_any (n : Nd) (hn : NodeOk n) (a b : En) (ha : EnOk a) (hb : EnOk b) (w : World) (hT : Hid (Tab6 w)) :
    Calls Tryd.prog 73 #[n.val, entV a, entV b] w fun e w' => e = .returned (entV (combE lfB n a b)) ∧ Only [] w w' := by
  obtain ⟨k, f, na, nb⟩ := n
  obtain ⟨hk, hf⟩ := hn
  simp only at hk hf
  rcases hk with rfl | rfl | rfl | rfl | rfl | rfl
  · exact bo_comb_leaf f na nb a b (lfB f) w (fun w' ho => leaf_word f (hf rfl).1 (hf rfl).2 w' (Lib.hid (hT.out.keep ho)))
  · exact bo_comb_add 1 (.inl rfl) f na nb a b ha hb w
  · exact bo_comb_add 2 (.inr rfl) f na nb a b ha hb w
  · exact bo_comb_mul f na nb a b ha hb w
  · exact bo_comb_div f na nb a b ha hb w
  · have e : combE lfB ⟨5, f, na, nb⟩ a b = if a.l ≤ a.u then ⟨(a.u + a.l + 1) / 2, a.l, a.ok⟩ else ⟨a.u, (a.u + a.l + 1) / 2, a.ok⟩ := rfl
    rw [e]
    exact bo_comb_root f na nb a b ha w

/-- Entries at hand: those of P. -/
def mapE (ns : List Nd) (P : List Int) : Int → Option Value := fun y => if y ∈ P then some (entV (ent lfB ns y)) else none
def atE (ns : List Nd) (P : List Int) (y : Int) : En := if y ∈ P then ent lfB ns y else en0
theorem mapE_get (ns : List Nd) (P : List Int) (y : Int) : (mapE ns P y).getD (entV en0) = entV (atE ns P y) := by
  unfold mapE atE
  split <;> rfl
theorem atE_ok (ns : List Nd) (P : List Int) (y : Int) : EnOk (atE ns P y) := by
  unfold atE
  split
  · exact ent_ok lfB_ok ns y
  · exact en0_ok
theorem mapE_next (ns : List Nd) (P P' : List Int) (x : Int) (hP : ∀ y, y ∈ P' ↔ y ∈ P ∨ y = x) : (fun y => if y = x then some (entV (ent lfB ns x)) else mapE ns P y) = mapE ns P' := by
  funext y
  unfold mapE
  by_cases e : y = x
  · subst e
    rw [if_pos rfl, if_pos ((hP y).2 (.inr rfl))]
  · rw [if_neg e]
    by_cases h : y ∈ P
    · rw [if_pos h, if_pos ((hP y).2 (.inl h))]
    · rw [if_neg h, if_neg (fun h2 => by rcases (hP y).1 h2 with h3 | h3; exact h h3; exact e h3)]
theorem zeroEnt (w : World) : (zeroValue 83).run Tryd.prog w = .ok (entV en0) w := by kernel_rfl
theorem belowL_kids {ns : List Nd} (ok : OkDag ns) {R : Int → Prop} {x c : Int} (hx : x ∈ belowL ns R) (hc : c ∈ kids (nodeAt ns x)) : c ∈ belowL ns R :=
  (mem_belowL ok).2 (.kid x c ((mem_belowL ok).1 hx) hc)
/-- What combine is handed is what is known. -/
theorem comb_at {ns : List Nd} (ok : OkDag ns) (hk : KindOk ns) {R : Int → Prop} {k a : Nat} (hlt : k < (belowL ns R).length) (ha : (belowL ns R)[k]?.getD 0 = (a : Int)) (han : a < ns.length) :
    clipE (combE lfB (nodeAt ns (a : Int)) (atE ns ((belowL ns R).take k) (nodeAt ns (a : Int)).a) (atE ns ((belowL ns R).take k) (nodeAt ns (a : Int)).b)) = ent lfB ns (a : Int) := by
  rw [ent_eq lfB ok hk han]
  congr 1
  have hmem : (a : Int) ∈ belowL ns R := by
    rw [← ha, List.getElem?_eq_getElem hlt]
    exact List.getElem_mem hlt
  have key : ∀ c ∈ kids (nodeAt ns (a : Int)), atE ns ((belowL ns R).take k) c = ent lfB ns c := by
    intro c hc
    unfold atE
    rw [if_pos]
    have h1 := belowL_kids ok hmem hc
    obtain ⟨j, hj, e⟩ := List.getElem_of_mem h1
    have h2 := ok (a : Int) (by omega) (by omega) c hc
    have h3 : j < k := by
      rcases Nat.lt_or_ge j k with h | h
      · exact h
      · exfalso
        rw [List.getElem?_eq_getElem hlt, Option.getD_some] at ha
        by_cases e2 : j = k
        · subst e2; omega
        · have := (List.pairwise_iff_getElem.1 (belowL_asc ns R)) k j hlt hj (by omega)
          omega
    rw [List.mem_take_iff_getElem]
    exact ⟨j, by omega, e⟩
  exact combE_congr lfB _ (fun h0 => key _ (by unfold kids; rw [if_neg h0]; split <;> simp)) (fun h0 h5 => key _ (by unfold kids; rw [if_neg h0, if_neg h5]; simp)) (hk a han)
end Go.Proofs.YtigpnopeacicpaaDoor

/-
  bound.entries over what one is made of.
-/
namespace Go.Proofs.YtigpnopeacicpaaDoor
set_option linter.unusedSimpArgs false
open Go.RowKit
attribute [local go_sem] run_store_float

/-- Nodes as they should be. -/
def NodesOk (ns : List Nd) : Prop := ∀ x : Nat, x < ns.length → NodeOk (nodeAt ns (x : Int)) ∧ Small (nodeAt ns (x : Int)).a ∧ Small (nodeAt ns (x : Int)).b
theorem NodesOk.kind {ns : List Nd} (h : NodesOk ns) : KindOk ns := fun x hx => (h x hx).1.1

section
variable {u l : Int} {ok : Bool}
theorem clip_uu (hu : 1099511627776 < u) (hl : 1099511627776 < l) : clipE ⟨u, l, ok⟩ = ⟨1099511627776, 1099511627776, false⟩ := by
  unfold clipE
  have h1 : decide (u ≤ topB) = false := decide_eq_false (by rw [topB_val]; omega)
  have h2 : decide (l ≤ topB) = false := decide_eq_false (by rw [topB_val]; omega)
  rw [h1, h2]
  simp only [En.mk.injEq, Bool.false_and, Bool.true_and, Bool.and_true, Bool.and_false, and_true, topB_val]
  omega
theorem clip_ul (hu : 1099511627776 < u) (hl : ¬ 1099511627776 < l) : clipE ⟨u, l, ok⟩ = ⟨1099511627776, l, false⟩ := by
  unfold clipE
  have h1 : decide (u ≤ topB) = false := decide_eq_false (by rw [topB_val]; omega)
  have h2 : decide (l ≤ topB) = true := decide_eq_true (by rw [topB_val]; omega)
  rw [h1, h2]
  simp only [En.mk.injEq, Bool.false_and, Bool.true_and, Bool.and_true, Bool.and_false, and_true, topB_val]
  omega
theorem clip_lu (hu : ¬ 1099511627776 < u) (hl : 1099511627776 < l) : clipE ⟨u, l, ok⟩ = ⟨u, 1099511627776, false⟩ := by
  unfold clipE
  have h1 : decide (u ≤ topB) = true := decide_eq_true (by rw [topB_val]; omega)
  have h2 : decide (l ≤ topB) = false := decide_eq_false (by rw [topB_val]; omega)
  rw [h1, h2]
  simp only [En.mk.injEq, Bool.false_and, Bool.true_and, Bool.and_true, Bool.and_false, and_true, topB_val]
  omega
theorem clip_ll (hu : ¬ 1099511627776 < u) (hl : ¬ 1099511627776 < l) : clipE ⟨u, l, ok⟩ = ⟨u, l, ok⟩ := by
  unfold clipE
  have h1 : decide (u ≤ topB) = true := decide_eq_true (by rw [topB_val]; omega)
  have h2 : decide (l ≤ topB) = true := decide_eq_true (by rw [topB_val]; omega)
  rw [h1, h2]
  simp only [En.mk.injEq, Bool.false_and, Bool.true_and, Bool.and_true, Bool.and_false, and_true, topB_val]
  omega
end
set_option maxHeartbeats 3200000 in
set_option maxRecDepth 100000 in
theorem ents_any (d : Nat) (v : Value) (ns : List Nd) (R : Int → Prop) (A : Option Addr) (c : Nat) (w : World) (hT : Hid (Tab6 w)) (hd : DagIs w d v none ns) (ok : OkDag ns) (hns : ns.length ≤ 20000) (hno : NodesOk ns)
    (hread : IRead w A (belowL ns R)) :
    Calls Tryd.prog 42 #[.pointer (some ⟨d, 0, none⟩), .slice A (belowL ns R).length c] w fun e w' => ∃ m, e = .returned (.map (some m)) ∧ MapV w' m (belowL ns R).length (mapE ns (belowL ns R)) ∧ w.heap.size ≤ m ∧ Only [] w w' := by
  have hmm := @run_makeMap Tryd.prog
  have HD := Lib.hid hd
  have HNs := Lib.hid hns
  have HOk := Lib.hid ok
  have HNo := Lib.hid hno
  obtain ⟨L, hLe⟩ : ∃ L, L = belowL ns R := ⟨_, rfl⟩
  have HIds : Hid (Ids ns L) := hLe ▸ belowL_ids ok R
  have HAsc : Hid (L.Pairwise (· < ·)) := by
    show List.Pairwise _ _
    rw [hLe]
    exact belowL_asc ns R
  have HComb : Hid (∀ k a : Nat, k < L.length → L[k]?.getD 0 = (a : Int) → a < ns.length → clipE (combE lfB (nodeAt ns (a : Int)) (atE ns (L.take k) (nodeAt ns (a : Int)).a) (atE ns (L.take k) (nodeAt ns (a : Int)).b)) = ent lfB ns (a : Int)) := by
    rw [hLe]
    exact fun k a h1 h2 h3 => comb_at ok hno.kind h1 h2 h3
  rw [← hLe] at hread ⊢
  have HR := Lib.hid hread
  have HM : Hid (MapV (w.alloc (.map #[] 0)) w.heap.size 0 (fun _ => none)) := MapV.made w
  have HO1 : Hid (Only [] w (w.alloc (.map #[] 0))) := (Only.refl [] w).alloc _
  have hlen : (L.length : Int) ≤ 20000 := by have := HIds.out.len; omega
  clear hd hns ok hno hread hLe
  go_enter Tryd.func42, Tryd.ntmps42
  go_wp2_with fail
  clear hmm
  have HFr : Hid (∀ b o, A = some ⟨b, o, none⟩ → 0 < L.length → b ≠ w.heap.size) := by
    rintro b o rfl hl
    obtain ⟨b2, o2, e, hc⟩ := HR.out 0 hl
    injection e with e
    injection e with e1 _ _
    subst e1
    have : b < w.heap.size := World.block_lt_of_cell? w _ hc
    omega
  generalize w.alloc (.map #[] 0) = w1 at *
  generalize hm : w.heap.size = m at HM HFr ⊢
  have HSz : Hid (w.heap.size ≤ m) := by show _ ≤ _; omega
  clear hm
  go_loopw [14] (fun i wr => ∃ k : Nat, k ≤ L.length ∧ i = .int .i64 (k : Int) ∧ Only [m] w1 wr ∧ MapV wr m k (mapE ns (L.take k))) (fun i _ => L.length - (intOf i).toNat)
  case atStart => exact ⟨0, Nat.zero_le _, rfl, Only.refl _ _, by
    have e : mapE ns (L.take 0) = fun _ => none := by funext y; simp [mapE]
    rw [e]; exact HM.out⟩
  case round =>
    obtain ⟨k, hk, rfl, ho, hD⟩ := hrel
    have HO := Lib.hid ho
    have HMp := Lib.hid hD
    clear ho hD HM
    by_cases hlt : k < L.length
    · obtain ⟨a, ha, han⟩ := HIds.out.mem k hlt
      obtain ⟨b, o, rfl, hcell0⟩ := HR.out k hlt
      have hbm : b ≠ m := HFr.out b o rfl (by omega)
      have hcell := HO.out.cell (HO1.out.cell hcell0 (by simp)) (by simpa using hbm)
      rw [ha] at hcell
      have hlt' : (k : Int) < (L.length : Int) := by omega
      have HW0 : Hid (Only [] w wr) := (HO1.out.mono (by simp)).trans HO.out (fun y hy => .inr (by
        have e : y = m := by simpa using hy
        have := HSz.out
        omega))
      have HTw := Lib.hid (hT.out.keep HW0.out)
      have hsa : Small (a : Int) := by have := HNs.out; unfold Small; omega
      have HSa := Lib.hid hsa
      have hkn : k ≤ 20000 := by omega
      have HTake : Hid (L.take (k + 1) = L.take k ++ [(a : Int)]) := by
        show _ = _
        rw [List.take_succ_eq_append_getElem hlt, ← ha, List.getElem?_eq_getElem hlt]
        rfl
      have HNot : Hid ((a : Int) ∉ L.take k) := by
        intro hm
        rw [List.mem_take_iff_getElem] at hm
        obtain ⟨j, hj, e⟩ := hm
        have h1 := (List.pairwise_iff_getElem.1 HAsc.out) j k (by omega) hlt (by omega)
        rw [List.getElem?_eq_getElem hlt, Option.getD_some] at ha
        omega
      have HCk := Lib.hid (HComb.out k a hlt ha han)
      have HNk := Lib.hid (HNo.out a han)
      clear ha hsa
      go_wp2_with fail
      refine (dnode_in d v none ns a wr (HD.out.only HW0.out (by simp)) han).mono ?_
      rintro e w2 ⟨rfl, ho2⟩
      have HN : Hid (nodeAt ns (a : Int) = ns[a]?.getD nd0) := rfl
      rw [HN.out] at HCk HNk
      generalize ns[a]?.getD nd0 = nd at HCk HNk HN ⊢
      obtain ⟨nk, nf, na, nb⟩ := nd
      simp only at HCk
      have HMp2 := Lib.hid (HMp.out.only ho2 (by simp))
      have HOw2 := Lib.hid (HO.out.nil_trans ho2)
      have HT2 := Lib.hid (HTw.out.keep ho2)
      have hlm : m < w2.heap.size := HMp2.out.lt
      clear ho2 HMp HO hcell0 hcell HN HTw HW0
      simp only [Nd.val]
      go_upto_region 6 with fail
      have hbx : Blk (w2.alloc (.cells #[.int .i64 nk, .float .f64 nf, .int .i64 na, .int .i64 nb] 31)) w2.heap.size 31 [.int .i64 nk, .float .f64 nf, .int .i64 na, .int .i64 nb] := Blk.new w2 _ _
      have hoa : Only [] w2 (w2.alloc (.cells #[.int .i64 nk, .float .f64 nf, .int .i64 na, .int .i64 nb] 31)) := (Only.refl _ _).alloc _
      generalize w2.alloc (.cells #[.int .i64 nk, .float .f64 nf, .int .i64 na, .int .i64 nb] 31) = w3 at *
      generalize w2.heap.size = bx at *
      have HMp3 := Lib.hid (HMp2.out.only hoa (by simp))
      have HOw3 := Lib.hid (HOw2.out.nil_trans hoa)
      have HT3 := Lib.hid (HT2.out.keep hoa)
      have b0 := hbx.cell 0
      have b1 := hbx.cell 1
      have b2 := hbx.cell 2
      have b3 := hbx.cell 3
      simp only [List.getElem?_cons_zero, List.getElem?_cons_succ] at b0 b1 b2 b3
      have hlA := HMp3.out.look Tryd.underlying85 (zeroEnt w3) HNk.out.2.1
      have hlB := HMp3.out.look Tryd.underlying85 (zeroEnt w3) HNk.out.2.2
      rw [mapE_get] at hlA hlB
      have HPa := Lib.hid (atE_ok ns (L.take k) na)
      have HPb := Lib.hid (atE_ok ns (L.take k) nb)
      generalize atE ns (L.take k) na = pa at hlA HCk HPa
      generalize atE ns (L.take k) nb = pb at hlB HCk HPb
      have HCm := Lib.hid (comb_any ⟨nk, nf, na, nb⟩ HNk.out.1 pa pb HPa.out HPb.out w3 HT3)
      simp only [Nd.val] at HCm
      generalize combE lfB ⟨nk, nf, na, nb⟩ pa pb = ce at HCk HCm
      generalize entV pa = va at hlA HCm
      generalize entV pb = vb at hlB HCm
      clear hbx hoa HMp2 HOw2 HT2
      go_wp2_with fail
      (with_reducible refine HCm.out.mono ?_)
      rintro e w4 ⟨rfl, ho4⟩
      have HMp4 := Lib.hid (HMp3.out.only ho4 (by simp))
      have HOw4 := Lib.hid (HOw3.out.nil_trans ho4)
      clear ho4 HMp3 HOw3 HCm hlA hlB b0 b1 b2 b3
      have HBx := Lib.hid (fun cs => (Only.refl [] w4).alloc (.cells cs 83))
      obtain ⟨u, l, okb⟩ := ce
      by_cases hu : 1099511627776 < u
      · by_cases hl : 1099511627776 < l
        · have HE : Hid (ent lfB ns (a : Int) = ⟨1099511627776, 1099511627776, false⟩) := HCk.out.symm.trans (clip_uu hu hl)
          clear HCk
          obtain ⟨w5, hup, hM5, hO5⟩ := (HMp4.out.only (HBx.out #[.int .i64 1099511627776, .int .i64 1099511627776, .bool false]) (by simp)).store Tryd.underlying85 (by omega) HSa.out (.agg #[.int .i64 1099511627776, .int .i64 1099511627776, .bool false])
          have HM5 := Lib.hid hM5
          have HO5 := Lib.hid ((HOw4.out.nil_trans (HBx.out #[.int .i64 1099511627776, .int .i64 1099511627776, .bool false])).trans hO5 (fun y hy => .inl hy))
          clear hM5 hO5 HMp4 HOw4
          go_wp2_with fail
          have HM6 : Hid (MapV w5 m (k + 1) (mapE ns (L.take (k + 1)))) := by
            have h := HM5.out
            have e : (Value.agg #[.int .i64 1099511627776, .int .i64 1099511627776, .bool false]) = entV (ent lfB ns (a : Int)) := by rw [HE.out]
            rw [e, mapE_next ns (L.take k) (L.take (k + 1)) (a : Int) (by rw [HTake.out]; simp)] at h
            have e2 : (mapE ns (L.take k) (a : Int)).isSome = false := by unfold mapE; rw [if_neg HNot.out]; rfl
            rw [e2] at h
            exact h
          go_roundw
          case rel => exact ⟨k + 1, by omega, by go_num, HO5.out, HM6.out⟩
          case measure => simp [intOf] <;> omega
        · have HE : Hid (ent lfB ns (a : Int) = ⟨1099511627776, l, false⟩) := HCk.out.symm.trans (clip_ul hu hl)
          clear HCk
          obtain ⟨w5, hup, hM5, hO5⟩ := (HMp4.out.only (HBx.out #[.int .i64 1099511627776, .int .i64 l, .bool false]) (by simp)).store Tryd.underlying85 (by omega) HSa.out (.agg #[.int .i64 1099511627776, .int .i64 l, .bool false])
          have HM5 := Lib.hid hM5
          have HO5 := Lib.hid ((HOw4.out.nil_trans (HBx.out #[.int .i64 1099511627776, .int .i64 l, .bool false])).trans hO5 (fun y hy => .inl hy))
          clear hM5 hO5 HMp4 HOw4
          go_wp2_with fail
          have HM6 : Hid (MapV w5 m (k + 1) (mapE ns (L.take (k + 1)))) := by
            have h := HM5.out
            have e : (Value.agg #[.int .i64 1099511627776, .int .i64 l, .bool false]) = entV (ent lfB ns (a : Int)) := by rw [HE.out]
            rw [e, mapE_next ns (L.take k) (L.take (k + 1)) (a : Int) (by rw [HTake.out]; simp)] at h
            have e2 : (mapE ns (L.take k) (a : Int)).isSome = false := by unfold mapE; rw [if_neg HNot.out]; rfl
            rw [e2] at h
            exact h
          go_roundw
          case rel => exact ⟨k + 1, by omega, by go_num, HO5.out, HM6.out⟩
          case measure => simp [intOf] <;> omega
      · by_cases hl : 1099511627776 < l
        · have HE : Hid (ent lfB ns (a : Int) = ⟨u, 1099511627776, false⟩) := HCk.out.symm.trans (clip_lu hu hl)
          clear HCk
          obtain ⟨w5, hup, hM5, hO5⟩ := (HMp4.out.only (HBx.out #[.int .i64 u, .int .i64 1099511627776, .bool false]) (by simp)).store Tryd.underlying85 (by omega) HSa.out (.agg #[.int .i64 u, .int .i64 1099511627776, .bool false])
          have HM5 := Lib.hid hM5
          have HO5 := Lib.hid ((HOw4.out.nil_trans (HBx.out #[.int .i64 u, .int .i64 1099511627776, .bool false])).trans hO5 (fun y hy => .inl hy))
          clear hM5 hO5 HMp4 HOw4
          go_wp2_with fail
          have HM6 : Hid (MapV w5 m (k + 1) (mapE ns (L.take (k + 1)))) := by
            have h := HM5.out
            have e : (Value.agg #[.int .i64 u, .int .i64 1099511627776, .bool false]) = entV (ent lfB ns (a : Int)) := by rw [HE.out]
            rw [e, mapE_next ns (L.take k) (L.take (k + 1)) (a : Int) (by rw [HTake.out]; simp)] at h
            have e2 : (mapE ns (L.take k) (a : Int)).isSome = false := by unfold mapE; rw [if_neg HNot.out]; rfl
            rw [e2] at h
            exact h
          go_roundw
          case rel => exact ⟨k + 1, by omega, by go_num, HO5.out, HM6.out⟩
          case measure => simp [intOf] <;> omega
        · have HE : Hid (ent lfB ns (a : Int) = ⟨u, l, okb⟩) := HCk.out.symm.trans (clip_ll hu hl)
          clear HCk
          obtain ⟨w5, hup, hM5, hO5⟩ := (HMp4.out.only (HBx.out #[.int .i64 u, .int .i64 l, .bool okb]) (by simp)).store Tryd.underlying85 (by omega) HSa.out (.agg #[.int .i64 u, .int .i64 l, .bool okb])
          have HM5 := Lib.hid hM5
          have HO5 := Lib.hid ((HOw4.out.nil_trans (HBx.out #[.int .i64 u, .int .i64 l, .bool okb])).trans hO5 (fun y hy => .inl hy))
          clear hM5 hO5 HMp4 HOw4
          go_wp2_with fail
          have HM6 : Hid (MapV w5 m (k + 1) (mapE ns (L.take (k + 1)))) := by
            have h := HM5.out
            have e : (Value.agg #[.int .i64 u, .int .i64 l, .bool okb]) = entV (ent lfB ns (a : Int)) := by rw [HE.out]
            rw [e, mapE_next ns (L.take k) (L.take (k + 1)) (a : Int) (by rw [HTake.out]; simp)] at h
            have e2 : (mapE ns (L.take k) (a : Int)).isSome = false := by unfold mapE; rw [if_neg HNot.out]; rfl
            rw [e2] at h
            exact h
          go_roundw
          case rel => exact ⟨k + 1, by omega, by go_num, HO5.out, HM6.out⟩
          case measure => simp [intOf] <;> omega
    · have hnl : ¬ (k : Int) < (L.length : Int) := by omega
      obtain rfl : k = L.length := by omega
      go_wp2_with fail
      go_returns
      have h := HMp.out
      rw [List.take_length] at h
      exact ⟨m, rfl, h, HSz.out, (HO1.out.mono (by simp)).trans HO.out (fun y hy => .inr (by
        have e : y = m := by simpa using hy
        have := HSz.out
        omega))⟩
end Go.Proofs.YtigpnopeacicpaaDoor

/-
  bound.Of and bound.Sep.
-/
namespace Go.Proofs.YtigpnopeacicpaaDoor
set_option linter.unusedSimpArgs false
open Go.RowKit Go.Maps
attribute [local go_sem] run_store_float

/-- A bound's value. -/
abbrev bndV (u l k : Int) : Value := .agg #[.int .i64 u, .int .i64 l, .int .i64 k]
/-- A dag as it should be. -/
structure DagOk (ns : List Nd) : Prop where
  ok : OkDag ns
  len : ns.length ≤ 20000
  nodes : NodesOk ns
theorem below_self {ns : List Nd} (ok : OkDag ns) {a : Nat} (h : a < ns.length) : (a : Int) ∈ belowOf ns (a : Int) := (mem_belowL ok).2 (.root _ (by simp) (by omega) (by omega))

theorem roots_K (d : Nat) (v : Value) (r : Option Nat) (ns : List Nd) (a K : Nat) (w : World) (hd : DagIs w d v r ns) (ok : Hid (DagOk ns)) (hK : Hid (rootsL ns (belowOf ns (a : Int)) = K)) :
    Calls Tryd.prog 44 #[.pointer (some ⟨d, 0, none⟩), .int .i64 (a : Int)] w fun e w' => e = .returned (.int .i64 (K : Int)) ∧ Only [] w w' := by
  rw [← hK.out]
  exact roots_any d v r ns (a : Int) w hd ok.out.ok ok.out.len
theorem ents_L (d : Nat) (v : Value) (ns : List Nd) (R : Int → Prop) (L : List Int) (hL : Hid (belowL ns R = L)) (A : Option Addr) (c : Nat) (w : World) (hT : Hid (Tab6 w)) (hd : DagIs w d v none ns) (ok : Hid (DagOk ns)) (hread : Hid (IRead w A L)) :
    Calls Tryd.prog 42 #[.pointer (some ⟨d, 0, none⟩), .slice A L.length c] w fun e w' => ∃ m, e = .returned (.map (some m)) ∧ MapV w' m L.length (mapE ns L) ∧ w.heap.size ≤ m ∧ Only [] w w' := by
  obtain rfl : belowL ns R = L := hL.out
  exact ents_any d v ns R A c w hT hd ok.out.ok ok.out.len ok.out.nodes hread.out
set_option maxHeartbeats 3200000 in
set_option maxRecDepth 100000 in
theorem bof_in (d : Nat) (v : Value) (ns : List Nd) (a : Nat) (e0 : En) (K : Nat) (w : World) (hT : Hid (Tab6 w)) (hd : Hid (DagIs w d v none ns)) (ok : Hid (DagOk ns)) (ha : a < ns.length) (he : Hid (ent lfB ns (a : Int) = e0)) (hK : Hid (rootsL ns (belowOf ns (a : Int)) = K)) :
    Calls Tryd.prog 10 #[.pointer (some ⟨d, 0, none⟩), .int .i64 (a : Int)] w fun e w' => e = .returned (.tuple #[bndV e0.u e0.l K, .bool e0.ok]) ∧ Only [] w w' := by
  have HB0 := Lib.hid (Blk.new w 35 [.int .i64 0, .int .i64 0, .int .i64 0])
  have HO0 : Hid (Only [] w (w.alloc (.cells #[.int .i64 0, .int .i64 0, .int .i64 0] 35))) := (Only.refl _ _).alloc _
  have HI0 := Lib.hid ((Blk.new (w.alloc (.cells #[.int .i64 0, .int .i64 0, .int .i64 0] 35)) 3 [.int .i64 (a : Int)]).cell 0)
  rw [World.size_alloc] at HI0
  have HSm : Hid (Small (a : Int)) := by have := ok.out.len; show Small _; unfold Small; omega
  go_enter Tryd.func10, Tryd.ntmps10
  go_wp2_with fail
  generalize w.alloc (.cells #[.int .i64 0, .int .i64 0, .int .i64 0] 35) = w0 at *
  have HA : Hid (IRead (w0.alloc (.cells #[.int .i64 (a : Int)] 3)) (some ⟨w.heap.size + 1, 0, none⟩) [(a : Int)]) := fun k hk => ⟨w.heap.size + 1, 0, rfl, by
    have e : k = 0 := by simpa using hk
    subst e
    exact HI0.out⟩
  have HO1 : Hid (Only [] w (w0.alloc (.cells #[.int .i64 (a : Int)] 3))) := HO0.out.alloc _
  have HB1 := Lib.hid (HB0.out.alloc (.cells #[.int .i64 (a : Int)] 3))
  clear HI0 HB0 HO0
  generalize w0.alloc (.cells #[.int .i64 (a : Int)] 3) = w1 at *
  refine (below_any d v none ns [(a : Int)] (some ⟨w.heap.size + 1, 0, none⟩) 1 w1 (hd.out.only HO1.out (by simp)) ok.out.ok ok.out.len HA (by simp)).mono ?_
  rintro e w2 ⟨u, rfl, hL, -, ho2⟩
  obtain ⟨L, hLe⟩ : ∃ L, belowL ns (· ∈ [(a : Int)]) = L := ⟨_, rfl⟩
  have HLe := Lib.hid hLe
  rw [hLe] at hL
  clear hLe
  obtain ⟨Au, cu, rfl, hread⟩ := hL.shape
  have HR := Lib.hid hread
  have HO2 := Lib.hid (HO1.out.nil_trans ho2)
  have HB2 := Lib.hid (HB1.out.only ho2 (by simp))
  clear hL hread ho2 HA HO1 HB1
  go_wp2_with fail
  with_reducible refine (ents_L d v ns (· ∈ [(a : Int)]) L HLe Au cu w2 (Lib.hid (hT.out.keep HO2.out)) (hd.out.only HO2.out (by simp)) ok HR).mono ?_
  rintro e w3 ⟨m, rfl, hM, -, ho3⟩
  have HM := Lib.hid hM
  have HO3 := Lib.hid (HO2.out.nil_trans ho3)
  have HB3 := Lib.hid (HB2.out.only ho3 (by simp))
  have hlk := hM.look_ok Tryd.underlying85 (zeroEnt w3) HSm.out
  have hin : mapE ns L (a : Int) = some (entV e0) := by
    unfold mapE
    rw [← HLe.out, if_pos (show (a : Int) ∈ belowL ns (· ∈ [(a : Int)]) from below_self ok.out.ok ha), he.out]
  rw [hin] at hlk
  simp only [Option.getD_some, Option.isSome_some] at hlk
  clear hM ho3 HO2 HB2 HR hin HM
  go_upto_region 2 with fail
  have hgx : Hid (¬ w.heap.size = w3.heap.size) := by have := HB3.out.lt; show ¬ _; omega
  have HB4 := Lib.hid (HB3.out.alloc (.cells #[.int .i64 e0.u, .int .i64 e0.l, .bool e0.ok] 83))
  have HE4 := Lib.hid (Blk.new w3 83 [.int .i64 e0.u, .int .i64 e0.l, .bool e0.ok])
  have HO4 : Hid (Only [] w (w3.alloc (.cells #[.int .i64 e0.u, .int .i64 e0.l, .bool e0.ok] 83))) := HO3.out.alloc _
  clear hlk HB3 HO3
  generalize w3.alloc (.cells #[.int .i64 e0.u, .int .i64 e0.l, .bool e0.ok] 83) = w4 at *
  generalize w3.heap.size = bx at *
  generalize hg : w.heap.size = g at HB4 hgx ⊢
  have HG := Lib.hid hg
  clear hg
  go_upto_region 4 with fail
  have HN := hgx.out
  have HN2 : ¬ bx = g := fun h => HN h.symm
  have HE5 := Lib.hid (HE4.out.only (Only.refl [] w4).drew (by simp))
  have HB5 := Lib.hid (HB4.out.only (Only.refl [] w4).drew (by simp))
  have HO5 : Hid (Only [] w w4.drew) := HO4.out.nil_trans (Only.refl [] w4).drew
  have HRt := Lib.hid (roots_K d v none ns a K w4.drew (hd.out.only HO5.out (by simp)) ok hK)
  have q0 := HE4.out.cell 0
  have q1 := HE4.out.cell 1
  have q2 := HE4.out.cell 2
  simp only [List.getElem?_cons_zero, List.getElem?_cons_succ] at q0 q1 q2
  go_region_held3 (fun w' => w'.cell? ⟨bx, 0, none⟩ = some (.int .i64 e0.u) ∧ w'.cell? ⟨bx, 1, none⟩ = some (.int .i64 e0.l) ∧ w'.cell? ⟨bx, 2, none⟩ = some (.bool e0.ok)) (go_keep) (first | (go_at_call 44; (with_reducible refine HRt.out.mono ?_); rintro e5 w5 ⟨rfl, ho5⟩; have HE6 := Lib.hid (HE5.out.only ho5 (by simp)); have HB6 := Lib.hid (HB5.out.only ho5 (by simp)); have HO6 := Lib.hid (HO5.out.nil_trans ho5); clear ho5; have q0 := HE6.out.cell 0; have q1 := HE6.out.cell 1; have q2 := HE6.out.cell 2; have c0 := HB6.out.cell 0; have c1 := HB6.out.cell 1; have c2 := HB6.out.cell 2; have f0 := HB6.out.frozen 0; have f1 := HB6.out.frozen 1; have f2 := HB6.out.frozen 2; simp only [List.getElem?_cons_zero, List.getElem?_cons_succ] at q0 q1 q2 c0 c1 c2))
  go_wp2_with fail
  refine bodyPost_ret (v := .tuple #[.agg #[.int .i64 e0.u, .int .i64 e0.l, .int .i64 (K : Int)], .bool e0.ok]) (by simp [results, Tryd.results10, go_sem, c0, c1, c2]) rfl ⟨rfl, ?_⟩
  have h3 := HG.out
  exact ((HO6.out.setCell (.inr (by show w.heap.size ≤ g; omega)) _).setCell (.inr (by show w.heap.size ≤ g; omega)) _).setCell (.inr (by show w.heap.size ≤ g; omega)) _
end Go.Proofs.YtigpnopeacicpaaDoor

/-
  bound.Sep.
-/
namespace Go.Proofs.YtigpnopeacicpaaDoor
set_option linter.unusedSimpArgs false
open Go.RowKit
attribute [local go_sem] run_store_float

set_option maxHeartbeats 1600000 in
set_option maxRecDepth 100000 in
theorem bsep_core (d : Nat) (a : Int) (u l : Int) (K : Nat) (ok : Bool) (w : World) (hA : ∀ W : World, Only [] w W → Calls Tryd.prog 10 #[.pointer (some ⟨d, 0, none⟩), .int .i64 a] W fun e w' => e = .returned (.tuple #[bndV u l K, .bool ok]) ∧ Only [] W w')
    (hu : 0 ≤ u ∧ u ≤ 1099511627776) (hl : 0 ≤ l ∧ l ≤ 1099511627776) (hK : K ≤ 100000) (s : Int) (is : Bool)
    (hs : (if ok = true ∧ K ≤ 20 ∧ max u l * 2 ^ K + 1 ≤ 1099511627776 then (max u l * 2 ^ K + 1, true) else (0, false)) = (s, is)) :
    Calls Tryd.prog 9 #[.pointer (some ⟨d, 0, none⟩), .int .i64 a] w fun e w' => e = .returned (.tuple #[.int .i64 s, .bool is]) ∧ Only [] w w' := by
  have HA := Lib.hid hA
  have HS := Lib.hid hs
  clear hA hs
  go_enter Tryd.func9, Tryd.ntmps9
  go_wp2_with fail
  refine (HA.out w (Only.refl _ _)).mono ?_
  rintro e w2 ⟨rfl, ho2⟩
  have HO2 : Hid (Only [] w (w2.alloc (.cells #[.int .i64 u, .int .i64 l, .int .i64 (K : Int)] 35))) := ho2.alloc _
  clear ho2
  cases ok
  · obtain ⟨rfl, rfl⟩ : s = 0 ∧ is = false := by
      have h := HS.out
      simp at h
      exact ⟨h.1.symm, h.2⟩
    go_wp2_with fail
    go_returns
    exact ⟨rfl, HO2.out⟩
  · by_cases hk : (20 : Int) < (K : Int)
    · obtain ⟨rfl, rfl⟩ : s = 0 ∧ is = false := by
        have h := HS.out
        rw [if_neg (by omega)] at h
        simp at h
        exact ⟨h.1.symm, h.2⟩
      go_wp2_with fail
      go_returns
      exact ⟨rfl, HO2.out⟩
    · obtain ⟨m, hm⟩ : ∃ m, max u l = m := ⟨_, rfl⟩
      obtain ⟨q, hq⟩ : ∃ q : Int, m * 2 ^ K = q := ⟨_, rfl⟩
      have hq0 : 0 ≤ q ∧ q ≤ 1152921504606846976 := by
        have h1 : (2 : Int) ^ K ≤ 2 ^ 20 := by exact_mod_cast Nat.pow_le_pow_right (by omega) (show K ≤ 20 by omega)
        have h2 : (0 : Int) ≤ 2 ^ K := Int.pow_nonneg (by omega)
        have h3 := Int.mul_le_mul (show m ≤ 1099511627776 by omega) h1 h2 (by omega)
        have h4 := Int.mul_nonneg (show 0 ≤ m by omega) h2
        rw [hq] at h3 h4
        exact ⟨h4, by omega⟩
      rw [hm, hq] at HS
      have hw1 : IntKind.i64.wrap q = q := wrap_i64 (by omega)
      have hw2 : IntKind.i64.wrap (q + 1) = q + 1 := wrap_i64 (by omega)
      have hKn : ¬ (K : Int) < 0 := by omega
      have HS1 : Hid (q + 1 ≤ 1099511627776 → s = q + 1 ∧ is = true) := fun h1 => by
        have h := HS.out
        rw [if_pos ⟨rfl, by omega, h1⟩] at h
        simp only [Prod.mk.injEq] at h
        exact ⟨h.1.symm, h.2.symm⟩
      have HS2 : Hid (1099511627776 < q + 1 → s = 0 ∧ is = false) := fun h1 => by
        have h := HS.out
        rw [if_neg (by omega)] at h
        simp only [Prod.mk.injEq] at h
        exact ⟨h.1.symm, h.2.symm⟩
      clear HS
      go_upto_region 5 with fail
      by_cases ht : 1099511627776 < q + 1
      · obtain ⟨rfl, rfl⟩ := HS2.out ht
        go_wp2_with fail
        go_returns
        exact ⟨rfl, HO2.out⟩
      · obtain ⟨rfl, rfl⟩ := HS1.out (by omega)
        go_wp2_with fail
        go_returns
        exact ⟨rfl, HO2.out⟩
/-- Sep of a number of the dag. -/
theorem bsep_in (d : Nat) (v : Value) (ns : List Nd) (a : Nat) (w : World) (hT : Hid (Tab6 w)) (hd : Hid (DagIs w d v none ns)) (ok : Hid (DagOk ns)) (ha : a < ns.length) :
    Calls Tryd.prog 9 #[.pointer (some ⟨d, 0, none⟩), .int .i64 (a : Int)] w fun e w' => e = .returned (.tuple #[.int .i64 (if sepB lfB ns (a : Int) = true then sepV lfB ns (a : Int) else 0), .bool (sepB lfB ns (a : Int))]) ∧ Only [] w w' := by
  have he := ent_ok lfB_ok ns (a : Int)
  unfold EnOk at he
  simp only [topB_val] at he
  have hr := rootsL_le ns (belowOf ns (a : Int))
  have hl := (belowL_ids ok.out.ok (· ∈ [(a : Int)])).len
  have hn := ok.out.len
  refine bsep_core d (a : Int) (ent lfB ns (a : Int)).u (ent lfB ns (a : Int)).l (rootsL ns (belowOf ns (a : Int))) (ent lfB ns (a : Int)).ok w (fun W ho => bof_in d v ns a _ _ W (Lib.hid (hT.out.keep ho)) (Lib.hid (hd.out.only ho (by simp))) ok ha (Lib.hid rfl) (Lib.hid rfl)) ⟨he.1, he.2.1⟩ ⟨he.2.2.1, he.2.2.2⟩ ?_ _ _ ?_
  · have : (belowOf ns (a : Int)).length ≤ ns.length := hl
    omega
  · have hB : sepB lfB ns (a : Int) = true ↔ ((ent lfB ns (a : Int)).ok = true ∧ rootsL ns (belowOf ns (a : Int)) ≤ 20 ∧ max (ent lfB ns (a : Int)).u (ent lfB ns (a : Int)).l * 2 ^ rootsL ns (belowOf ns (a : Int)) + 1 ≤ 1099511627776) := by
      unfold sepB
      simp only [Bool.and_eq_true, decide_eq_true_eq]
      simp only [topB_val]
      constructor
      · exact fun h => ⟨h.1, by omega, h.2.2⟩
      · exact fun h => ⟨h.1, by omega, h.2.2⟩
    by_cases h : sepB lfB ns (a : Int) = true
    · rw [if_pos (hB.1 h), if_pos h, h]
      rfl
    · rw [if_neg (fun h2 => h (hB.2 h2)), if_neg h]
      have : sepB lfB ns (a : Int) = false := by simpa using h
      rw [this]
end Go.Proofs.YtigpnopeacicpaaDoor
