/-
  DagMakes: the law's walk.
-/
import Derived.Test.YtkiongpfpjfaaaaMakesA
namespace Go.Proofs.Ytkiongpfpjfaaaa
open Go.RowKit

set_option maxHeartbeats 400000 in
theorem dadd_nil (d : Nat) (v : Value) (r : Option Nat) (ns : List Nd) (w : World) (hd : DagIs w d v r ns) (hlen : Hid (ns.length < 20000)) :
    Calls Try.prog 24 #[.pointer (some ⟨d, 0, none⟩), .slice none 0 0] w (PPost d v r ns ⟨0, 0, 0, 0⟩ w) := by
  have hz : Hid (0 < 2 ^ 64) := by show 0 < 2 ^ 64; omega
  go_enter Try.func24, Try.ntmps24
  go_wp2_with fail
  (with_reducible refine (dleaf_any d v r ns 0 _ hz hd hlen).mono ?_)
  rintro e w1 ⟨v1, rfl, hd1, hst⟩
  have hst' := Lib.hid hst
  clear hst
  go_wp2_with fail
  go_ret
  exact ⟨v1, rfl, hd1, hst'.out⟩

set_option maxHeartbeats 400000 in
theorem dmul_nil (d : Nat) (v : Value) (r : Option Nat) (ns : List Nd) (w : World) (hd : DagIs w d v r ns) (hlen : Hid (ns.length < 20000)) :
    Calls Try.prog 25 #[.pointer (some ⟨d, 0, none⟩), .slice none 0 0] w (PPost d v r ns ⟨0, 4607182418800017408, 0, 0⟩ w) := by
  have hz : Hid (4607182418800017408 < 2 ^ 64) := by show 4607182418800017408 < 2 ^ 64; omega
  go_enter Try.func25, Try.ntmps25
  go_wp2_with fail
  (with_reducible refine (dleaf_any d v r ns 4607182418800017408 _ hz hd hlen).mono ?_)
  rintro e w1 ⟨v1, rfl, hd1, hst⟩
  have hst' := Lib.hid hst
  clear hst
  go_wp2_with fail
  go_ret
  exact ⟨v1, rfl, hd1, hst'.out⟩

def inR (v : Int) : Bool := decide (-9007199254740992 ≤ v ∧ v ≤ 9007199254740992)
theorem fofi_lt (v : Int) : Hid (floatOfInt .f64 v < 2 ^ 64) := by
  have := floatOfInt_wf .f64 v
  show _ < _
  simpa [Lit.wf] using this
def IPost (d : Nat) (v : Value) (ns : List Nd) (x : Int) (w : World) (e : Ending) (w' : World) : Prop :=
  QPost d v none (if inR x then putId none ns ⟨0, floatOfInt .f64 x, 0, 0⟩ else -1) (if inR x then putNs none ns ⟨0, floatOfInt .f64 x, 0, 0⟩ else ns) w e w'
theorem ipost_out {d : Nat} {v : Value} {ns : List Nd} {x : Int} {w : World} (h : inR x = false) (hd : DagIs w d v none ns) : IPost d v ns x w (.returned (.int .i64 (-1))) w := by
  unfold IPost
  rw [h]
  exact ⟨v, rfl, hd, Step.refl _ _ _ _⟩

set_option maxHeartbeats 800000 in
set_option maxRecDepth 100000 in
theorem dint_any (d : Nat) (v : Value) (ns : List Nd) (x : Int) (w : World) (hd : DagIs w d v none ns) (hlen : Hid (ns.length < 20000)) :
    Calls Try.prog 23 #[.pointer (some ⟨d, 0, none⟩), .int .i64 x] w (IPost d v ns x w) := by
  have hz := fofi_lt x
  go_enter Try.func23, Try.ntmps23
  go_wp2_with fail

  · have h : inR x = false := by simp [inR]; omega
    go_ret
    exact ipost_out h hd
  · have h : inR x = true := by simp [inR]; omega
    (with_reducible refine (dleaf_any d v none ns (floatOfInt .f64 x) _ hz hd hlen).mono ?_)
    rintro e w1 ⟨v1, rfl, hd1, hst⟩
    have hst' := Lib.hid hst
    clear hst
    go_wp2_with fail
    go_ret
    unfold IPost
    rw [h]
    exact ⟨v1, rfl, hd1, hst'.out⟩
  · have h : inR x = false := by simp [inR]; omega
    go_ret
    exact ipost_out h hd

/-- The law's dag and its reference's numbers. -/
structure Pair (w0 w : World) (d : Nat) (v : Value) (ns : List Nd) (p : Nat) (u : Value) (ms : List Nd) : Prop where
  a : Own w0 w d v none ns
  b : PlainIs w p u false ms
  pf : ∀ k ∈ foot p u none, w0.heap.size ≤ k
  apart : ∀ k ∈ foot d v none, k ∉ foot p u none

section
variable {w0 w w' : World} {d p : Nat} {v u : Value} {ns ms : List Nd}
theorem Pair.dstep {v' : Value} {ns' : List Nd} (h : Pair w0 w d v ns p u ms) (hs : Step d v none w v' w') (hd : DagIs w' d v' none ns') : Pair w0 w' d v' ns' p u ms :=
  ⟨h.a.step hs hd, h.b.only hs.2 (fun k hk hm => h.apart k hm hk), h.pf, fun k hk hm => by
    rcases hs.foot k hk with h1 | h1
    · exact h.apart k h1 hm
    · have := h.b.lt k hm
      omega⟩
theorem Pair.pstep {u' : Value} {ms' : List Nd} (h : Pair w0 w d v ns p u ms) (hs : Step p u none w u' w') (hd : PlainIs w' p u' false ms') : Pair w0 w' d v ns p u' ms' :=
  ⟨h.a.other hs.2 h.pf h.apart, hd, fun k hk => by
    rcases hs.foot k hk with h1 | h1
    · exact h.pf k h1
    · exact Nat.le_trans h.a.only.size h1, fun k hk hm => by
    rcases hs.foot k hm with h1 | h1
    · exact h.apart k hk h1
    · have := h.a.is.lt k hk
      omega⟩
theorem Pair.only (h : Pair w0 w d v ns p u ms) (ho : Only [] w w') : Pair w0 w' d v ns p u ms :=
  ⟨h.a.other ho (by simp) (by simp), h.b.only ho (by simp), h.pf, h.apart⟩
theorem Pair.drew (h : Pair w0 w d v ns p u ms) : Pair w0 w.drew d v ns p u ms := h.only (Only.refl _ _).drew
theorem Pair.cell {q : Addr} {x : Value} (h : Pair w0 w d v ns p u ms) (hc : w0.cell? q = some x) : w.cell? q = some x := h.a.only.cell hc (by simp)
theorem Pair.new (h : Own w0 w d v none ns) (hb : Blk w' w.heap.size 51 [.slice none 0 0, .bool false]) (ho : Only [] w w') : Pair w0 w' d v ns w.heap.size (.slice none 0 0) [] :=
  ⟨h.other ho (by simp) (by simp), ⟨hb, World.ownsRow_nil _ _ _ _⟩, fun k hk => by
    have : k = w.heap.size := by simpa [foot, Value.ownBlock] using hk
    have := h.only.size
    omega, fun k hk hm => by
    have : k = w.heap.size := by simpa [foot, Value.ownBlock] using hm
    have := h.is.lt k hk
    omega⟩

/-- What a call on the dag leaves; what one on the reference leaves. -/
def DP (w0 : World) (d p : Nat) (u : Value) (ms : List Nd) (id : Int) (ns' : List Nd) (e : Ending) (w' : World) : Prop := ∃ v', e = .returned (.int .i64 id) ∧ Hid (Pair w0 w' d v' ns' p u ms)
def PP (w0 : World) (d : Nat) (v : Value) (ns : List Nd) (p : Nat) (id : Int) (ms' : List Nd) (e : Ending) (w' : World) : Prop := ∃ u', e = .returned (.int .i64 id) ∧ Hid (Pair w0 w' d v ns p u' ms')
theorem dp_of {f : FuncId} {args : Array Value} {id : Int} {ns' : List Nd} (h : Pair w0 w d v ns p u ms) (hc : Calls Try.prog f args w (QPost d v none id ns' w)) : Calls Try.prog f args w (DP w0 d p u ms id ns') :=
  hc.mono fun _ _ ⟨v', he, hd, hs⟩ => ⟨v', he, h.dstep hs hd⟩
theorem pp_of {f : FuncId} {args : Array Value} {id : Int} {ms' : List Nd} (h : Pair w0 w d v ns p u ms) (hc : Calls Try.prog f args w fun e w' => ∃ u', e = .returned (.int .i64 id) ∧ PlainIs w' p u' false ms' ∧ Step p u none w u' w') :
    Calls Try.prog f args w (PP w0 d v ns p id ms') :=
  hc.mono fun _ _ ⟨u', he, hd, hs⟩ => ⟨u', he, h.pstep hs hd⟩
theorem put_dp {f : FuncId} {args : Array Value} {n : Nd} (h : Pair w0 w d v ns p u ms) (hc : Calls Try.prog f args w (PPost d v none ns n w)) : Calls Try.prog f args w (DP w0 d p u ms (putId none ns n) (putNs none ns n)) := dp_of h hc
theorem put_pp {k : Int} {f : Nat} {a b : Int} (h : Pair w0 w d v ns p u ms) (hl : Hid (ms.length < 20000)) :
    Calls Try.prog 22 #[.pointer (some ⟨p, 0, none⟩), .agg #[.int .i64 k, .float .f64 f, .int .i64 a, .int .i64 b]] w (PP w0 d v ns p (putId none ms ⟨k, f, a, b⟩) (putNs none ms ⟨k, f, a, b⟩)) :=
  pp_of h (pputF_any p u ms k f a b w h.b hl)
end
end Go.Proofs.Ytkiongpfpjfaaaa
