/-
  Joined texts.
-/
import Derived.Test.YtigpnopeacicpaaGreatDoorTcJ0
import Derived.Lib.ItoaNum
import Derived.Lib.Repeat
import Derived.Lib.ItoaLen
import Derived.Test.YtigpnopeacicpaaGreatDoorTcShelf
import Derived.Lib.FrozenHead
import Derived.Lib.ItoaMem
import Derived.Test.YtigpnopeacicpaaGreatDoorTcGNatC
import Derived.Test.YtigpnopeacicpaaGreatDoorRows
import Derived.JoinedOf
import Derived.LaidLaws
import Derived.LaidHandle
import Derived.Stop.Joined
import Derived.Stop.LaidErr
import Derived.Lib.LaidTab
import Derived.ChangeVars
import Derived.ProofKit
import Derived.OpenShut
import Derived.ShutString
import Derived.ChangeOld
import Derived.Below
import Derived.Deep.Slices
import Derived.Deep.Fields
import Derived.ChangeSame
namespace Go.Proofs.YtigpnopeacicpaaGreatDoor
open Go.Lib
def CH:Nat:=10000000000000000000
theorem CH_pos:0<CH:=by decide
theorem CH_two:2≤CH:=by decide
attribute [irreducible] CH
def chunks (n:Nat):List Nat:=if _h:n=0 then [] else n%CH::chunks (n/CH)
termination_by n
decreasing_by exact Nat.div_lt_self (by omega) CH_two
theorem chunks_pos {n:Nat} (h:n≠0):chunks n=n%CH::chunks (n/CH):=by rw [chunks,dif_neg h]
structure Cut (n:Nat) (ps:List Nat) (q:Nat):Prop where
 all:chunks n=ps++chunks q
 q_eq:q=n/CH^ps.length
 lt: ∀x∈ps,x<CH
 nz:n≠0
theorem Cut.step {n q:Nat} {ps:List Nat} (h:Cut n ps q) (hq:q≠0):Cut n (ps++[q%CH]) (q/CH):=by
 refine⟨by rw [h.all,chunks_pos hq,List.append_assoc];rfl,?_,?_,h.nz⟩
 ·rw [h.q_eq,List.length_append,List.length_cons,List.length_nil,Nat.pow_add,Nat.pow_one,Nat.div_div_eq_div_mul]
 ·intro x hx
  rcases List.mem_append.1 hx with h1|h1
  ·exact h.lt x h1
  ·rw [List.mem_singleton.1 h1]
   exact Nat.mod_lt _ CH_pos
end Go.Proofs.YtigpnopeacicpaaGreatDoor
namespace Go.Proofs.YtigpnopeacicpaaGreatDoor
open Go.RowKit
end Go.Proofs.YtigpnopeacicpaaGreatDoor
namespace Go.Proofs.YtigpnopeacicpaaGreatDoor
open Go.RowKit Go.Sort
def Tab (w:World):Prop:=Lib.TabIs Tryz.prog w "internal/strconv.uint64pow10" .u64 Lib.pow10Tab
theorem Tab.only {w w':World} (h:Tab w) (ho:Only [] w w'):Tab w':=by
 unfold Tab Lib.TabIs World.var? at*
 cases hg:Tryz.prog.globalNamed "internal/strconv.uint64pow10" with
 |none=>simp [hg] at h
 |some g=>
  simp only [hg,Option.bind_some] at h ⊢
  have hlt:g<w.heap.size:=by
   rcases Nat.lt_or_ge g w.heap.size with h'|h'
   ·exact h'
   ·rw [Array.getElem?_eq_none h'] at h;simp at h
  rw [ho.block g hlt (by simp)]
  exact h
end Go.Proofs.YtigpnopeacicpaaGreatDoor
namespace Go.Proofs.YtigpnopeacicpaaGreatDoor
open Go.RowKit
theorem owns_only {w w':World} {S:List Nat} {base:Nat} {e:TypeId} {s n:Nat} {v:Value} {xs:List Value} (h:w.ownsRow base e s v n xs) (ho:Only S w w') (hn: ∀g,v.ownBlock=some g→g∉S):w'.ownsRow base e s v n xs:=by
 rcases h with⟨h0,h1|⟨g,cap,cur,rfl,hb,hg,h2⟩⟩
 ·exact⟨h0,.inl h1⟩
 ·exact⟨h0,.inr ⟨g,cap,cur,rfl,hb,ho.heap hg (hn g rfl),h2⟩⟩
theorem Res.row {w0 w:World} {u:Value} {n:Nat} (h:Res w0 w u n) (hn:n≠0): ∃g c tl,u= .slice (some ⟨g,0,none⟩) (limbsOf n).length c∧Blk w g 133 (limbV (limbsOf n)++tl)∧w0.heap.size≤g∧g<w.heap.size∧(limbsOf n).length≤c:=by
 have h1:=h.at_
 rcases h1.2 with⟨rfl,h0⟩|⟨g,cap,cur,rfl,_,hg,hc,_,_,ht⟩
 ·exact absurd (limbsOf_len0.1 h0) hn
 ·refine⟨g,cap,cur.toList.drop (limbsOf n).length,rfl,?_,h.fresh g rfl,lt_of_heap hg,hc⟩
  unfold Blk
  rw [hg]
  congr 2
  apply Array.ext'
  rw [Nat.mul_one] at ht
  rw [← ht]
  simp
theorem LRead.of_tl {w:World} {g:Nat} {t:TypeId} {xs:List Nat} {tl:List Value} (h:Blk w g t (limbV xs++tl)):LRead w (some ⟨g,0,none⟩) xs:=fun k hk=>⟨g,0,rfl,by
 rw [h.cell,Nat.zero_add,List.getElem?_append_left (by rw [limbV_len];exact hk),limbV_get _ _ hk]⟩
end Go.Proofs.YtigpnopeacicpaaGreatDoor
namespace Go.Proofs.YtigpnopeacicpaaGreatDoor
open Go.ChangeShapes Go.WideShapes Go.RowKit
def tab64:List Int:=[0,1,56,2,57,49,28,3,61,58,42,50,38,29,17,4,62,47,59,36,45,43,51,22,53,39,33,30,24,18,12,5,63,55,48,27,60,41,37,16,46,35,44,21,52,32,23,11,54,26,40,15,34,20,31,10,25,14,19,9,13,8,7,6]
def Tab6 (w:World):Prop:=Lib.TabIs Tryz.prog w "math/bits.deBruijn64tab" .u8 tab64
theorem tabis_only {name:String} {k:IntKind} {zs:List Int} {w w':World} (h:Lib.TabIs Tryz.prog w name k zs) (ho:Only [] w w'):Lib.TabIs Tryz.prog w' name k zs:=by
 unfold Lib.TabIs World.var? at*
 cases hg:Tryz.prog.globalNamed name with
 |none=>simp [hg] at h
 |some g=>
  simp only [hg,Option.bind_some] at h ⊢
  have hlt:g<w.heap.size:=by
   rcases Nat.lt_or_ge g w.heap.size with h'|h'
   ·exact h'
   ·rw [Array.getElem?_eq_none h'] at h;simp at h
  rw [ho.block g hlt (by simp)]
  exact h
abbrev laidList1 (H:Type):List (String×DataW H):=[("math/bits.deBruijn64tab",Rows.laid_math_bits_deBruijn64tab)]
theorem tab_of_laid1 {W:World} (h:laidMetH Tryz.prog (laidList1 Unit) W):Tab6 W:=by
 have h0:laidMet Tryz.prog (laidList1 Unit) W:=h
 exact Lib.tabIs_of_head (g:=0) (t:=177) (e:=5) (n:=64) (by kernel_rfl) (by kernel_rfl) Tryz.underlying177 Tryz.underlying5 (by kernel_rfl) (by kernel_rfl) h0
noncomputable def laidWorld1 (os:Os):World:=
 let w0:=World.holding Tryz.prog os ⟨#[],#[],[]⟩
 let lay (cs:Array Value):Obj→Obj:=fun
  |.cells _ t frozen=> .cells cs t frozen
  |o=>o
 {w0 with heap:=w0.heap.modify 0 (lay (tab64.map fun z=>Value.int .u8 z).toArray)}
theorem laidWorld1_met (os:Os) (args:Array Value):laidMetH Tryz.prog (laidList1 Unit) ((laidWorld1 os).forCall (fun _ _=>0) ⟨#[],args,[]⟩).memory:=
 laidMetH_of_parts (laidMet_of_run' 8 (by kernel_rfl) (by kernel_rfl)) (by kernel_rfl)
end Go.Proofs.YtigpnopeacicpaaGreatDoor
