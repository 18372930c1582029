/-
  The Book: Apart, where lists of Ints alone have been kept: each in memory of its own.
-/
import Derived.Test.YtljeaomdcednlaaTaBkII
import Derived.Test.YtljeaomdcednlaaTaBkIA
namespace Go.Proofs.Ytljeaomdcednlaa
open Go.RowKit

/-- The empty kinds. -/
def Nils (w : World) (b : Nat) : Prop := w.cell? ⟨b, 2, none⟩ = some nilS ∧ w.cell? ⟨b, 4, none⟩ = some nilS ∧ w.cell? ⟨b, 6, none⟩ = some nilS ∧ w.cell? ⟨b, 8, none⟩ = some nilS
theorem Nils.only {w w' : World} {b : Nat} {S : List Nat} (h : Nils w b) (ho : Only S w w') (hb : b ∉ S) : Nils w' b := ⟨ho.cell h.1 hb, ho.cell h.2.1 hb, ho.cell h.2.2.1 hb, ho.cell h.2.2.2 hb⟩

theorem done_read {w wr : World} {us gs : List Value} {m : Nat → Nat} {o : Value} {A : Option Addr} (h : GrowRel w wr us m us.length o gs) (hA : ∀ k, k < us.length → ∃ g, A = some ⟨g, 0, none⟩ ∧ g ∉ obs us ∧ w.cell? ⟨g, k, none⟩ = some (us[k]?.getD nilS)) : LLRead wr A us.length (fun k => marks k 0 (m k)) := by
  intro k hk
  obtain ⟨g, h1, h2, h3⟩ := hA k hk
  obtain ⟨B, c, e, hr⟩ := h.done k hk
  rw [e] at h3
  exact ⟨g, B, c, h1, by rw [marks_length]; exact h.only.cell h3 h2, hr⟩
theorem grown_read {w wr : World} {us gs : List Value} {m : Nat → Nat} {o : Value} (h : GrowRel w wr us m us.length o gs) : ∃ A c, o = .slice A us.length c ∧ LLRead wr A us.length (fun k => marks k 0 (m k + 72)) := by
  have hl := lists_read (Ls := (List.range us.length).map fun k => marks k 0 (m k + 72)) h.row ⟨by simp [h.glen], fun i hi => by
    rw [h.glen] at hi
    have e : ((List.range us.length).map fun k => marks k 0 (m k + 72))[i]?.getD [] = marks i 0 (m i + 72) := by simp [hi]
    rw [e]
    exact h.gs_ i hi⟩
  obtain ⟨A, c, e, hr⟩ := hl
  rw [h.glen] at e hr
  refine ⟨A, c, e, fun k hk => ?_⟩
  obtain ⟨g, B, c', h1, h2, h3⟩ := hr k hk
  have e : ((List.range us.length).map fun k => marks k 0 (m k + 72))[k]?.getD [] = marks k 0 (m k + 72) := by simp [hk]
  simp only [e] at h2 h3
  exact ⟨g, B, c', h1, h2, h3⟩

set_option maxHeartbeats 3200000 in
set_option maxRecDepth 100000 in
theorem apart_any (b : Nat) (un uw : Value) (us ws : List Value) (Ls : List (List Int)) (w : World) (h : BookIs w b un uw us ws Ls) (hn : (us.length : Int) ≤ 250) (hL : Hid (∀ k, k < us.length → (Ls[k]?.getD []).length ≤ 700)) :
    Calls Try.prog 17 #[.pointer (some ⟨b, 0, none⟩)] w fun e w' => e = .returned (.bool true) ∧ Only (obs us) w w' := by
  have hlw : ws.length = us.length := by rw [h.lc.len, h.ln.len]
  obtain ⟨A, c, rfl, hR⟩ := lists_read h.rn h.ln
  obtain ⟨A', c', rfl, hR'⟩ := lists_read h.rc h.lc
  have hbo : Hid (b ∉ obs us) := h.ln.apart h.blk (by decide)
  have hA : Hid (∀ k, k < us.length → ∃ g, A = some ⟨g, 0, none⟩ ∧ g ∉ obs us ∧ w.cell? ⟨g, k, none⟩ = some (us[k]?.getD nilS)) := by
    intro k hk
    obtain ⟨A2, c2, e, hcell⟩ := h.rn.shape
    injection e with e1 e0 e2
    subst e1
    obtain ⟨g, hg, hc⟩ := hcell k hk
    refine ⟨g, hg, ?_, hc⟩
    obtain ⟨cs, f, hh⟩ := row_type h.rn (g := g) (by rw [hg]; rfl)
    exact h.ln.apart hh (by decide)
  have n0 : Nils w b := ⟨h.blk.cell 2, h.blk.cell 4, h.blk.cell 6, h.blk.cell 8⟩
  have c4 : w.cell? ⟨b, 0, none⟩ = some (.slice A us.length c) := h.blk.cell 0
  have c5 : w.cell? ⟨b, 1, none⟩ = some (.slice A' ws.length c') := h.blk.cell 1
  obtain ⟨i2, i4, i6, i8⟩ := n0
  have HR : Hid (LLRead w A us.length (fun k => Ls[k]?.getD [])) := hR
  have HR' : Hid (LLRead w A' us.length (fun k => Ls[k]?.getD [])) := by rw [hlw] at hR'; exact hR'
  have HLn := Lib.hid h.ln
  have HNd := Lib.hid h.nd
  have HLt := Lib.hid h.ln.lt
  clear hR hR' h
  go_enter Try.func17, Try.ntmps17
  go_wp2_with (first
    | (go_at_call 25; refine (stillLimbs_none b _ i2).mono ?_; rintro e w' ⟨rfl, hh⟩; obtain rfl := hh.symm)
    | (go_at_call 26; refine (stillNodes_none b _ i4).mono ?_; rintro e w' ⟨rfl, hh⟩; obtain rfl := hh.symm)
    | (go_at_call 27; refine (stillPairs_none b _ i6).mono ?_; rintro e w' ⟨rfl, hh⟩; obtain rfl := hh.symm)
    | (go_at_call 28; refine (stillSteps_none b _ i8).mono ?_; rintro e w' ⟨rfl, hh⟩; obtain rfl := hh.symm))
  have HL1 : Hid (ws.length = us.length) := hlw
  clear hlw
  refine (still_any b us.length A A' c c' ws.length (fun k => Ls[k]?.getD []) _ c4 c5 HL1.out HR HR' hn (fun k hk => by have := hL.out k hk; omega)).mono ?_
  rintro e w1 ⟨rfl, ho1⟩
  have k4 := ho1.cell c4 (by simp)
  obtain ⟨j2, j4, j6, j8⟩ := Nils.only ⟨i2, i4, i6, i8⟩ ho1 (by simp)
  have HO1 := Lib.hid ho1
  clear i2 i4 i6 i8 c5 ho1
  go_wp2_with (first
    | (go_at_call 25; refine (stillLimbs_none b _ j2).mono ?_; rintro e w' ⟨rfl, hh⟩; obtain rfl := hh.symm)
    | (go_at_call 26; refine (stillNodes_none b _ j4).mono ?_; rintro e w' ⟨rfl, hh⟩; obtain rfl := hh.symm)
    | (go_at_call 27; refine (stillPairs_none b _ j6).mono ?_; rintro e w' ⟨rfl, hh⟩; obtain rfl := hh.symm)
    | (go_at_call 28; refine (stillSteps_none b _ j8).mono ?_; rintro e w' ⟨rfl, hh⟩; obtain rfl := hh.symm)
    | (go_at_call 31; refine (putLimbs_none b _ j2).mono ?_; rintro e w' ⟨rfl, hh⟩; obtain rfl := hh.symm)
    | (go_at_call 32; refine (putNodes_none b _ j4).mono ?_; rintro e w' ⟨rfl, hh⟩; obtain rfl := hh.symm)
    | (go_at_call 33; refine (putPairs_none b _ j6).mono ?_; rintro e w' ⟨rfl, hh⟩; obtain rfl := hh.symm)
    | (go_at_call 29; refine (putSteps_none b _ j8).mono ?_; rintro e w' ⟨rfl, hh⟩; obtain rfl := hh.symm))
  have HA1 : Hid (∀ k, k < us.length → ∃ g, A = some ⟨g, 0, none⟩ ∧ g ∉ obs us ∧ w1.cell? ⟨g, k, none⟩ = some (us[k]?.getD nilS)) := by
    intro k hk
    obtain ⟨g, h1, h2, h3⟩ := hA.out k hk
    exact ⟨g, h1, h2, HO1.out.cell h3 (by simp)⟩
  refine (bput_any b A c us Ls _ k4 hbo HA1 (HLn.out.only HO1.out (by simp)) HNd hn (fun k hk => by have := hL.out k hk; omega)).mono ?_
  rintro e w2 ⟨rfl, hP⟩
  have c4' := hP.only.cell k4 hbo.out
  obtain ⟨i2, i4, i6, i8⟩ := Nils.only ⟨j2, j4, j6, j8⟩ hP.only hbo.out
  have HO2 : Hid (Only (obs us) w w2) := (HO1.out.mono (by simp)).trans hP.only (fun k hk => .inl hk)
  have HA2 : Hid (∀ k, k < us.length → ∃ g, A = some ⟨g, 0, none⟩ ∧ g ∉ obs us ∧ w2.cell? ⟨g, k, none⟩ = some (us[k]?.getD nilS)) := by
    intro k hk
    obtain ⟨g, h1, h2, h3⟩ := hA.out k hk
    exact ⟨g, h1, h2, HO2.out.cell h3 h2⟩
  have HAt := Lib.hid hP.at_
  have HLt2 : Hid (∀ x ∈ obs us, x < w2.heap.size) := fun x hx => Nat.lt_of_lt_of_le (HLt.out x hx) HO2.out.size
  clear hP j2 j4 j6 j8 k4 HO1 HR HR' HA1 hA c4 HLn HLt
  go_wp2_with (first
    | (go_at_call 31; refine (putLimbs_none b _ i2).mono ?_; rintro e w' ⟨rfl, hh⟩; obtain rfl := hh.symm)
    | (go_at_call 32; refine (putNodes_none b _ i4).mono ?_; rintro e w' ⟨rfl, hh⟩; obtain rfl := hh.symm)
    | (go_at_call 33; refine (putPairs_none b _ i6).mono ?_; rintro e w' ⟨rfl, hh⟩; obtain rfl := hh.symm)
    | (go_at_call 29; refine (putSteps_none b _ i8).mono ?_; rintro e w' ⟨rfl, hh⟩; obtain rfl := hh.symm)
    | (go_at_call 35; refine (growLimbs_none b _ i2).mono ?_; rintro e w' ⟨rfl, hh⟩; obtain rfl := hh.symm)
    | (go_at_call 36; refine (growNodes_none b _ i4).mono ?_; rintro e w' ⟨rfl, hh⟩; obtain rfl := hh.symm)
    | (go_at_call 37; refine (growPairs_none b _ i6).mono ?_; rintro e w' ⟨rfl, hh⟩; obtain rfl := hh.symm)
    | (go_at_call 38; refine (growSteps_none b _ i8).mono ?_; rintro e w' ⟨rfl, hh⟩; obtain rfl := hh.symm))
  refine (grow_any b A c us (fun i => (Ls[i]?.getD []).length) w2 c4' hbo HA2 HAt HLt2 HNd hn (fun k hk => by have := hL.out k hk; show _ ≤ _; omega)).mono ?_
  rintro e w3 ⟨o, gs, rfl, hG⟩
  obtain ⟨j2, j4, j6, j8⟩ := Nils.only ⟨i2, i4, i6, i8⟩ hG.only hbo.out
  have c4 := hG.only.cell c4' hbo.out
  obtain ⟨B, cB, rfl, hGr⟩ := grown_read hG
  have HGr := Lib.hid hGr
  have HDr := Lib.hid (done_read hG HA2.out)
  have HO3 : Hid (Only (obs us) w w3) := HO2.out.trans hG.only (fun k hk => .inl hk)
  clear hGr hG HA2 HAt HO2 i2 i4 i6 i8 c4'
  go_wp2_with (first
    | (go_at_call 35; refine (growLimbs_none b _ j2).mono ?_; rintro e w' ⟨rfl, hh⟩; obtain rfl := hh.symm)
    | (go_at_call 36; refine (growNodes_none b _ j4).mono ?_; rintro e w' ⟨rfl, hh⟩; obtain rfl := hh.symm)
    | (go_at_call 37; refine (growPairs_none b _ j6).mono ?_; rintro e w' ⟨rfl, hh⟩; obtain rfl := hh.symm)
    | (go_at_call 38; refine (growSteps_none b _ j8).mono ?_; rintro e w' ⟨rfl, hh⟩; obtain rfl := hh.symm)
    | (go_at_call 40; refine (markedLimbs_none _).mono ?_; rintro e w' ⟨rfl, hh⟩; obtain rfl := hh.symm)
    | (go_at_call 41; refine (markedNodes_none _).mono ?_; rintro e w' ⟨rfl, hh⟩; obtain rfl := hh.symm)
    | (go_at_call 42; refine (markedPairs_none _).mono ?_; rintro e w' ⟨rfl, hh⟩; obtain rfl := hh.symm)
    | (go_at_call 43; refine (markedSteps_none _).mono ?_; rintro e w' ⟨rfl, hh⟩; obtain rfl := hh.symm))
  refine (marked_any B cB us.length (fun k => (Ls[k]?.getD []).length + 72) w3 HGr hn (fun k hk => by have := hL.out k hk; show _ ≤ _; omega)).mono ?_
  rintro e w4 ⟨rfl, ho4⟩
  have c4' := ho4.cell c4 (by simp)
  have HD4 : Hid (LLRead w4 A us.length fun k => marks k 0 (Ls[k]?.getD []).length) := HDr.out.only ho4
  obtain ⟨i2, i4, i6, i8⟩ := Nils.only ⟨j2, j4, j6, j8⟩ ho4 (by simp)
  have HO4 := Lib.hid (HO3.out.nil_trans ho4)
  clear ho4 c4 j2 j4 j6 j8 HO3 HGr HDr
  go_wp2_with fail
  refine (marked_any A c us.length (fun k => (Ls[k]?.getD []).length) w4 HD4 hn (fun k hk => by have := hL.out k hk; show _ ≤ _; omega)).mono ?_
  rintro e w5 ⟨rfl, ho5⟩
  obtain ⟨j2, j4, j6, j8⟩ := Nils.only ⟨i2, i4, i6, i8⟩ ho5 (by simp)
  have HO5 := Lib.hid (HO4.out.nil_trans ho5)
  clear ho5 c4' i2 i4 i6 i8 HO4 HD4
  go_wp2_with (first
    | (go_at_call 40; refine (markedLimbs_none _).mono ?_; rintro e w' ⟨rfl, hh⟩; obtain rfl := hh.symm)
    | (go_at_call 41; refine (markedNodes_none _).mono ?_; rintro e w' ⟨rfl, hh⟩; obtain rfl := hh.symm)
    | (go_at_call 42; refine (markedPairs_none _).mono ?_; rintro e w' ⟨rfl, hh⟩; obtain rfl := hh.symm)
    | (go_at_call 43; refine (markedSteps_none _).mono ?_; rintro e w' ⟨rfl, hh⟩; obtain rfl := hh.symm))
  go_ret
  exact ⟨rfl, HO5.out⟩
end Go.Proofs.Ytljeaomdcednlaa
