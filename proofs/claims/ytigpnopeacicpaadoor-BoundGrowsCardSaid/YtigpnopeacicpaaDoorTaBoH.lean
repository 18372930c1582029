/-
  BoundGrows: the walk.
-/
import Derived.Test.YtigpnopeacicpaaDoorTaBoG
import Derived.Test.YtigpnopeacicpaaDoorTaGWhB
import Derived.Test.YtigpnopeacicpaaDoorTaFloatIn
namespace Go.Proofs.YtigpnopeacicpaaDoor
set_option linter.unusedSimpArgs false
open Go.RowKit
attribute [local go_sem] run_store_float

theorem IntsIn.read {w : World} {A : Option Addr} {L : List Int} (h : IntsIn w A L) : IRead w A L := fun k hk => by
  obtain ⟨b, o, h1, h2⟩ := h.1 k hk
  exact ⟨b, o, h1, h2 k hk⟩
theorem FRead.only {w w' : World} {A : Option Addr} {L : List Nat} (h : FRead w A L) (ho : Only [] w w') : FRead w' A L := fun k hk => by
  obtain ⟨b, o, h1, h2⟩ := h k hk
  exact ⟨b, o, h1, ho.cell h2 (by simp)⟩
theorem FloatsIn.read {w : World} {A : Option Addr} {L : List Nat} (h : FloatsIn w A L) : FRead w A L ∧ Words L := ⟨fun k hk => by
  obtain ⟨b, o, h1, h2⟩ := h k hk
  exact ⟨b, o, h1, (h2 k hk).1⟩, fun k hk => by
  obtain ⟨b, o, h1, h2⟩ := h k hk
  exact (h2 k hk).2⟩
set_option maxHeartbeats 1600000 in
set_option maxRecDepth 100000 in
theorem bgrows_out (A B V : Option Addr) (n c m c' p cv : Nat) (w : World) (hT : Hid (Tab6 w)) (h : 40 < (n : Int) ∨ ((n : Int) ≤ 40 ∧ 120 < (m : Int))) :
    Calls Tryd.prog 3 #[.slice A n c, .slice B m c', .slice V p cv] w fun e w' => e = .returned (.bool true) ∧ Only [] w w' := by
  rcases h with h | ⟨h, h2⟩
  · skip
    go_enter Tryd.func3, Tryd.ntmps3
    go_wp2_with fail
    refine (alive11_any w hT).mono ?_
    rintro e w1 ⟨rfl, ho1⟩
    have HO1 := Lib.hid ho1
    clear ho1
    go_wp2_with fail
    go_ret
    exact ⟨rfl, HO1.out⟩
  · have h3 : ¬ 40 < (n : Int) := by omega
    go_enter Tryd.func3, Tryd.ntmps3
    go_wp2_with fail
    refine (alive11_any w hT).mono ?_
    rintro e w1 ⟨rfl, ho1⟩
    have HO1 := Lib.hid ho1
    clear ho1
    go_wp2_with fail
    go_ret
    exact ⟨rfl, HO1.out⟩
set_option maxHeartbeats 6400000 in
set_option maxRecDepth 100000 in
theorem bgrows_in (A B V : Option Addr) (c c' cv : Nat) (kinds refs : List Int) (vals : List Nat) (w : World) (hT : Hid (Tab6 w)) (hA : Hid (IRead w A kinds)) (hB : Hid (IRead w B refs)) (hV : Hid (FRead w V vals)) (hWd : Hid (Words vals)) (hk : (kinds.length : Int) ≤ 40) (hr : (refs.length : Int) ≤ 120) :
    Calls Tryd.prog 3 #[.slice A kinds.length c, .slice B refs.length c', .slice V vals.length cv] w fun e w' => e = .returned (.bool true) ∧ Only [] w w' := by
  have h1 : ¬ 40 < (kinds.length : Int) := by omega
  have h2 : ¬ 120 < (refs.length : Int) := by omega
  go_enter Tryd.func3, Tryd.ntmps3
  go_wp2_with fail
  refine (alive11_any w hT).mono ?_
  rintro e w1 ⟨rfl, ho1⟩
  have HO1 := Lib.hid ho1
  clear ho1
  go_wp2_with fail
  refine (treeV_any A B V c c' cv kinds refs vals w1 (hA.out.only HO1.out) (hB.out.only HO1.out) (by omega) (by omega) (hV.out.only HO1.out) hWd).mono ?_
  rintro e w2 ⟨u, rfl, hTr⟩
  have HTr := Lib.hid hTr
  obtain ⟨Au, cu, rfl, -, -, -⟩ := hTr.1.shape
  rw [treeVL_len]
  clear hTr
  have HNR : Hid (NRead w2 Au (treeVL kinds refs vals kinds.length)) := (HTr.out.1.read).2
  have HAll : Hid (AllOk (treeVL kinds refs vals kinds.length)) := treeVL_ok kinds refs vals kinds.length (by omega)
  have HBits : Hid (∀ k, k < (treeVL kinds refs vals kinds.length).length → ((treeVL kinds refs vals kinds.length)[k]?.getD nd0).f < 2 ^ 64) := fun k hk => by
    rw [treeVL_len] at hk
    rw [treeVL_get _ _ _ _ _ hk]
    exact treeVN_bits hWd.out k
  have HLd := Lib.hid (load10_any Au cu (treeVL kinds refs vals kinds.length) w2 HNR HBits (by rw [treeVL_len]; omega) HAll)
  have HLen : Hid ((treeVL kinds refs vals kinds.length).length = kinds.length) := treeVL_len _ _ _ _
  generalize treeVL kinds refs vals kinds.length = ns at HNR HAll HBits HLd HLen HTr ⊢
  rw [HLen.out] at HLd
  go_wp2_with fail
  refine HLd.out.mono ?_
  rintro e w3 ⟨d, v, rfl, hown⟩
  have HW3 : Hid (Only [] w w3) := HO1.out.nil_trans (HTr.out.2.2.nil_trans hown.only)
  have HD := Lib.hid hown.is
  have HNR3 : Hid (NRead w3 Au ns) := HNR.out.only hown.only
  have HDk : Hid (DagOk ns) := dag_ok HAll.out HBits.out (by rw [HLen.out]; omega)
  clear hown HLd HBits HTr HO1 hA hB hV HNR HAll
  obtain ⟨n, hn⟩ : ∃ n, kinds.length = n := ⟨_, rfl⟩
  rw [hn] at HLen hk h1
  rw [hn]
  clear hn
  go_wp2_with fail
  go_loopw [9] (fun i wr => ∃ k : Nat, k ≤ n ∧ i = .int .i64 (k : Int) ∧ Only [] w3 wr) (fun i _ => n - (intOf i).toNat)
  case atStart => exact ⟨0, Nat.zero_le _, rfl, Only.refl _ _⟩
  case round =>
    obtain ⟨k, hkn, rfl, ho⟩ := hrel
    have HO := Lib.hid ho
    clear ho
    by_cases hlt : k < n
    · obtain ⟨b, o, rfl, hc4⟩ := HNR3.out k (by rw [HLen.out]; exact hlt)
      have HNd : Hid (nodeAt ns (k : Int) = ns[k]?.getD nd0) := by show _ = _; unfold nodeAt; rw [Int.toNat_natCast]; rfl
      have hkl : k < ns.length := by rw [HLen.out]; exact hlt
      have HKd : Hid (∀ c ∈ kids (nodeAt ns (k : Int)), 0 ≤ c ∧ c < (k : Int)) := HDk.out.ok (k : Int) (by omega) (by omega)
      have HGr : Hid ((nodeAt ns (k : Int)).k ≠ 0 → sepB lfB ns (k : Int) = true → sepB lfB ns (nodeAt ns (k : Int)).a = true ∧ ((nodeAt ns (k : Int)).k = 5 → sepV lfB ns (nodeAt ns (k : Int)).a ≤ sepV lfB ns (k : Int) ∧ (ent lfB ns (k : Int)).u ≤ (ent lfB ns (nodeAt ns (k : Int)).a).u + (ent lfB ns (nodeAt ns (k : Int)).a).l ∧ rootsL ns (belowOf ns (k : Int)) = rootsL ns (belowOf ns (nodeAt ns (k : Int)).a) + 1)) := fun h0 hs => sep_grow lfB_ok HDk.out.ok HDk.out.nodes.kind hkl h0 hs
      have HGe := Lib.hid (sep_ge lfB_ok ns (k : Int))
      have HSk : Hid (sepB lfB ns (k : Int) = true → (ent lfB ns (k : Int)).ok = true) := fun h => by
        unfold sepB at h
        simp only [Bool.and_eq_true] at h
        exact h.1
      have HSw : Hid (∀ W, Only [] w3 W → Calls Tryd.prog 9 #[.pointer (some ⟨d, 0, none⟩), .int .i64 (k : Int)] W fun e w' => e = .returned (.tuple #[.int .i64 (if sepB lfB ns (k : Int) = true then sepV lfB ns (k : Int) else 0), .bool (sepB lfB ns (k : Int))]) ∧ Only [] W w') := fun W ho => bsep_in d v ns k W (Lib.hid (hT.out.keep (HW3.out.nil_trans ho))) (Lib.hid (HD.out.only ho (by simp))) HDk hkl
      have HOw : Hid (∀ W, Only [] w3 W → Calls Tryd.prog 10 #[.pointer (some ⟨d, 0, none⟩), .int .i64 (k : Int)] W fun e w' => e = .returned (.tuple #[bndV (ent lfB ns (k : Int)).u (ent lfB ns (k : Int)).l (rootsL ns (belowOf ns (k : Int)) : Nat), .bool (ent lfB ns (k : Int)).ok]) ∧ Only [] W w') := fun W ho => bof_in d v ns k _ _ W (Lib.hid (hT.out.keep (HW3.out.nil_trans ho))) (Lib.hid (HD.out.only ho (by simp))) HDk hkl (Lib.hid rfl) (Lib.hid rfl)
      have HSa : Hid (∀ (a : Nat) (W : World), a < k → Only [] w3 W → Calls Tryd.prog 9 #[.pointer (some ⟨d, 0, none⟩), .int .i64 (a : Int)] W fun e w' => e = .returned (.tuple #[.int .i64 (if sepB lfB ns (a : Int) = true then sepV lfB ns (a : Int) else 0), .bool (sepB lfB ns (a : Int))]) ∧ Only [] W w') := fun a W ha ho => bsep_in d v ns a W (Lib.hid (hT.out.keep (HW3.out.nil_trans ho))) (Lib.hid (HD.out.only ho (by simp))) HDk (by omega)
      have HOa : Hid (∀ (a : Nat) (W : World), a < k → Only [] w3 W → Calls Tryd.prog 10 #[.pointer (some ⟨d, 0, none⟩), .int .i64 (a : Int)] W fun e w' => e = .returned (.tuple #[bndV (ent lfB ns (a : Int)).u (ent lfB ns (a : Int)).l (rootsL ns (belowOf ns (a : Int)) : Nat), .bool (ent lfB ns (a : Int)).ok]) ∧ Only [] W w') := fun a W ha ho => bof_in d v ns a _ _ W (Lib.hid (hT.out.keep (HW3.out.nil_trans ho))) (Lib.hid (HD.out.only ho (by simp))) HDk (by omega) (Lib.hid rfl) (Lib.hid rfl)
      have HKs : Hid (0 ≤ (ent lfB ns (k : Int)).u ∧ (ent lfB ns (k : Int)).u ≤ 1099511627776 ∧ 0 ≤ (ent lfB ns (k : Int)).l ∧ (ent lfB ns (k : Int)).l ≤ 1099511627776) := ent_ok lfB_ok ns (k : Int)
      rw [HNd.out] at HKd HGr
      obtain ⟨c0, c1, c2, c3⟩ := hc4
      have HEa : Hid (∀ a : Nat, 0 ≤ (ent lfB ns (a : Int)).u ∧ (ent lfB ns (a : Int)).u ≤ 1099511627776 ∧ 0 ≤ (ent lfB ns (a : Int)).l ∧ (ent lfB ns (a : Int)).l ≤ 1099511627776 ∧ rootsL ns (belowOf ns (a : Int)) ≤ 40) := fun a => by
        have h := ent_ok lfB_ok ns (a : Int)
        unfold EnOk at h
        simp only [topB_val] at h
        have h5 := rootsL_le ns (belowOf ns (a : Int))
        have h6 : (belowOf ns (a : Int)).length ≤ ns.length := (belowL_ids HDk.out.ok (· ∈ [(a : Int)])).len
        have h7 := HLen.out
        omega
      generalize ns[k]?.getD nd0 = nd at c0 c1 c2 c3 HKd HGr HNd
      obtain ⟨nk, nf, na, nb⟩ := nd
      simp only at c0 c1 c2 c3 HGr
      obtain ⟨sb, hsb⟩ : ∃ sb, sepB lfB ns (k : Int) = sb := ⟨_, rfl⟩
      obtain ⟨eu, heu⟩ : ∃ eu, ent lfB ns (k : Int) = eu := ⟨_, rfl⟩
      obtain ⟨K, hK⟩ : ∃ K, rootsL ns (belowOf ns (k : Int)) = K := ⟨_, rfl⟩
      obtain ⟨sv, hsv⟩ : ∃ sv, sepV lfB ns (k : Int) = sv := ⟨_, rfl⟩
      obtain ⟨sr, hsr⟩ : ∃ sr, (if sb = true then sv else 0) = sr := ⟨_, rfl⟩
      rw [hsb, hsv, hsr] at HSw
      have HSr : Hid (sb = true → sv = sr) := fun h => by rw [← hsr, if_pos h]
      rw [hsb, heu] at HSk
      rw [heu, hK] at HOw
      rw [heu] at HKs
      rw [heu, hsv] at HGe
      rw [hsb, hsv, heu, hK] at HGr
      clear hsb heu hK hsv hsr
      have HNb : Hid (NRead w3 (some ⟨b, o, none⟩) ns) := HNR3
      have d0 := HO.out.cell c0 (by simp)
      have d1 := HO.out.cell c1 (by simp)
      have d2 := HO.out.cell c2 (by simp)
      have d3 := HO.out.cell c3 (by simp)
      have hlt' : (k : Int) < (n : Int) := by omega
      clear c0 c1 c2 c3
      go_upto_region 11 with fail
      have hbx : Hid (Blk (wr.alloc (.cells #[.int .i64 nk, .float .f64 nf, .int .i64 na, .int .i64 nb] 31)) wr.heap.size 31 [.int .i64 nk, .float .f64 nf, .int .i64 na, .int .i64 nb]) := Blk.new wr _ _
      have HOa1 : Hid (Only [] w3 (wr.alloc (.cells #[.int .i64 nk, .float .f64 nf, .int .i64 na, .int .i64 nb] 31))) := HO.out.alloc _
      generalize wr.alloc (.cells #[.int .i64 nk, .float .f64 nf, .int .i64 na, .int .i64 nb] 31) = w4 at *
      generalize wr.heap.size = g1 at *
      clear d0 d1 d2 d3
      go_wp2_with fail
      (with_reducible refine (HSw.out w4 HOa1.out).mono ?_)
      rintro e w5 ⟨rfl, ho⟩
      have hb5 := Lib.hid (hbx.out.only ho (by simp))
      have HO5 := Lib.hid (HOa1.out.nil_trans ho)
      clear ho hbx HOa1 HSw
      go_wp2_with fail
      (with_reducible refine (HOw.out w5 HO5.out).mono ?_)
      rintro e w6 ⟨rfl, ho⟩
      have hb6 := Lib.hid ((hb5.out.only ho (by simp)).alloc (.cells #[.int .i64 eu.u, .int .i64 eu.l, .int .i64 (K : Int)] 35))
      have HO6 : Hid (Only [] w3 (w6.alloc (.cells #[.int .i64 eu.u, .int .i64 eu.l, .int .i64 (K : Int)] 35))) := (HO5.out.nil_trans ho).alloc _
      have hc6 := Lib.hid (Blk.new w6 35 [.int .i64 eu.u, .int .i64 eu.l, .int .i64 (K : Int)])
      clear ho hb5 HO5 HOw
      go_upto_region 13 with fail
      generalize w6.alloc (.cells #[.int .i64 eu.u, .int .i64 eu.l, .int .i64 (K : Int)] 35) = w7 at *
      generalize w6.heap.size = g2 at *
      obtain ⟨eu_, el_, eok_⟩ := eu
      simp only at HSk HKs HGe HGr
      cases sb
      · skip
        have b0 := hb6.out.cell 0
        simp only [List.getElem?_cons_zero] at b0
        clear HSk HGr HGe HKs HSa HOa HEa HKd HSr
        by_cases hk0 : nk = 0
        · subst hk0
          go_wp2_with fail
          go_roundw
          case rel => exact ⟨k + 1, by omega, by go_num, HO6.out⟩
          case measure => simp [intOf] <;> omega
        · have gk0 : (nk == 0) = false := by simpa using hk0
          clear hk0
          go_wp2_with fail
          go_roundw
          case rel => exact ⟨k + 1, by omega, by go_num, HO6.out⟩
          case measure => simp [intOf] <;> omega
      · obtain rfl : eok_ = true := HSk.out rfl
        obtain rfl : sv = sr := HSr.out rfl
        obtain ⟨hs1, hs2, hs3⟩ := HGe.out
        have b0 := hb6.out.cell 0
        have b2 := hb6.out.cell 2
        have e0 := hc6.out.cell 0
        have e1 := hc6.out.cell 1
        have e2 := hc6.out.cell 2
        simp only [List.getElem?_cons_zero, List.getElem?_cons_succ] at b0 b2 e0 e1 e2
        have hq1 : ¬ sv < 1 := by omega
        have hq2 : ¬ sv < eu_ := by omega
        have hq3 : ¬ sv < el_ := by omega
        clear HSk HGe hs1 hs2 hs3
        by_cases hk0 : nk = 0
        · subst hk0
          clear HGr HKs HSa HOa HEa HKd
          go_wp2_with fail
          go_roundw
          case rel => exact ⟨k + 1, by omega, by go_num, HO6.out⟩
          case measure => simp [intOf] <;> omega
        · have gk0 : (nk == 0) = false := by simpa using hk0
          obtain ⟨h0a, hak⟩ := HKd.out na (by unfold kids; rw [if_neg hk0]; split <;> simp)
          obtain ⟨a, rfl⟩ : ∃ a : Nat, na = (a : Int) := ⟨na.toNat, by omega⟩
          obtain ⟨hg1, hg2⟩ := HGr.out hk0 rfl
          have HG2 := Lib.hid hg2
          have HG1 := Lib.hid hg1
          have HSw := Lib.hid (fun W ho => HSa.out a W (by omega) ho)
          have HOw := Lib.hid (fun W ho => HOa.out a W (by omega) ho)
          have HE := Lib.hid (HEa.out a)
          obtain ⟨ea, hea⟩ : ∃ ea, ent lfB ns (a : Int) = ea := ⟨_, rfl⟩
          obtain ⟨Ka, hKa⟩ : ∃ Ka, rootsL ns (belowOf ns (a : Int)) = Ka := ⟨_, rfl⟩
          obtain ⟨sa, hsa⟩ : ∃ sa, sepV lfB ns (a : Int) = sa := ⟨_, rfl⟩
          rw [HG1.out, if_pos rfl, hsa] at HSw
          rw [hea, hKa] at HOw HE
          rw [hea, hKa, hsa] at HG2
          obtain ⟨au, al, aok⟩ := ea
          simp only at HG2 HE
          clear hea hKa hsa HG1 hg1 hg2 HGr HSa HOa HEa HKd hk0 h0a hak
          go_wp2_with fail
          (with_reducible refine (HSw.out w7 HO6.out).mono ?_)
          rintro e w8 ⟨rfl, ho⟩
          have hb8 := Lib.hid (hb6.out.only ho (by simp))
          have hc8 := Lib.hid (hc6.out.only ho (by simp))
          have HO8 := Lib.hid (HO6.out.nil_trans ho)
          clear ho hb6 hc6 HO6 HSw b0 b2 e0 e1 e2
          have b2 := hb8.out.cell 2
          simp only [List.getElem?_cons_zero, List.getElem?_cons_succ] at b2
          go_wp2_with fail
          (with_reducible refine (HOw.out w8 HO8.out).mono ?_)
          rintro e w9 ⟨rfl, ho⟩
          have hb9 := Lib.hid ((hb8.out.only ho (by simp)).alloc (.cells #[.int .i64 au, .int .i64 al, .int .i64 (Ka : Int)] 35))
          have hc9 := Lib.hid ((hc8.out.only ho (by simp)).alloc (.cells #[.int .i64 au, .int .i64 al, .int .i64 (Ka : Int)] 35))
          have HO9 : Hid (Only [] w3 (w9.alloc (.cells #[.int .i64 au, .int .i64 al, .int .i64 (Ka : Int)] 35))) := (HO8.out.nil_trans ho).alloc _
          have hd9 := Lib.hid (Blk.new w9 35 [.int .i64 au, .int .i64 al, .int .i64 (Ka : Int)])
          clear ho hb8 hc8 HO8 HOw b2
          go_upto_region 18 with fail
          generalize w9.alloc (.cells #[.int .i64 au, .int .i64 al, .int .i64 (Ka : Int)] 35) = w10 at *
          generalize w9.heap.size = g3 at *
          have b0 := hb9.out.cell 0
          have e0 := hc9.out.cell 0
          have e2 := hc9.out.cell 2
          have d0 := hd9.out.cell 0
          have d1 := hd9.out.cell 1
          have d2 := hd9.out.cell 2
          simp only [List.getElem?_cons_zero, List.getElem?_cons_succ] at b0 e0 e2 d0 d1 d2
          obtain ⟨r1, r2, r3, r4, r5⟩ := HE.out
          have hw1 : IntKind.i64.wrap (au + al) = au + al := wrap_i64 (by omega)
          have hw2 : IntKind.i64.wrap ((Ka : Int) + 1) = (Ka : Int) + 1 := wrap_i64 (by omega)
          clear r1 r2 r3 r4 r5 HE hq1 hq2 hq3 HKs
          by_cases h5 : nk = 5
          · subst h5
            obtain ⟨t1, t2, t3⟩ := HG2.out rfl
            subst t3
            have u1 : ¬ sv < sa := by omega
            have u2 : ¬ au + al < eu_ := by omega
            clear t1 t2 HG2
            go_wp2_with fail
            go_roundw
            case rel => exact ⟨k + 1, by omega, by go_num, HO9.out⟩
            case measure => simp [intOf] <;> omega
          · have g5 : (nk == 5) = false := by simpa using h5
            clear h5 HG2
            go_wp2_with fail
            go_roundw
            case rel => exact ⟨k + 1, by omega, by go_num, HO9.out⟩
            case measure => simp [intOf] <;> omega
    · have hnl : ¬ (k : Int) < (n : Int) := by omega
      go_wp2_with fail
      go_ret
      exact ⟨rfl, HW3.out.nil_trans HO.out⟩
theorem boundGrows_any (A : Option Addr) (c : Nat) (L : List Int) (B : Option Addr) (c' : Nat) (M : List Int) (V : Option Addr) (cv : Nat) (F : List Nat) (w : World) (hA : IntsIn w A L) (_ : L.length ≤ c) (_ : c ≤ maxLen) (hB : IntsIn w B M) (_ : M.length ≤ c') (_ : c' ≤ maxLen) (hV : FloatsIn w V F) (_ : F.length ≤ cv) (_ : cv ≤ maxLen) (hT : Tab6 w) :
    Calls Tryd.prog 3 #[.slice A L.length c, .slice B M.length c', .slice V F.length cv] w fun e w' => e = .returned (.bool true) ∧ Only [] w w' := by
  by_cases h : 40 < (L.length : Int) ∨ ((L.length : Int) ≤ 40 ∧ 120 < (M.length : Int))
  · exact bgrows_out A B V _ c _ c' _ cv w (Lib.hid hT) h
  · exact bgrows_in A B V c c' cv L M F w (Lib.hid hT) (Lib.hid hA.read) (Lib.hid hB.read) (Lib.hid hV.read.1) (Lib.hid hV.read.2) (by omega) (by omega)
end Go.Proofs.YtigpnopeacicpaaDoor
