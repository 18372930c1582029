/-
  A walk's numbers: the values at hand and what they read as.
-/
import Derived.Test.YtphjcphcgnjogaaDoorNV
namespace Go.Proofs.YtphjcphcgnjogaaDoor
open Go.RowKit

/-- The numbers at hand. -/
structure Env (w0 w : World) (vs : List Value) (ns : List Nat) : Prop where
  only : Only [] w0 w
  all : NVs w vs ns
theorem Env.step {w0 w w' : World} {vs : List Value} {ns : List Nat} (h : Env w0 w vs ns) (ho : Only [] w w') : Env w0 w' vs ns := ⟨h.only.nil_trans ho, NVs.only ho h.all⟩
theorem Env.push {w0 w : World} {vs : List Value} {ns : List Nat} (h : Env w0 w vs ns) {v : Value} {n : Nat} (hv : NV w v n) : Env w0 w (v :: vs) (n :: ns) := ⟨h.only, hv, h.all⟩
theorem Env.start (w : World) : Env w w [] [] := ⟨Only.refl _ _, trivial⟩
theorem NVs.get {w : World} : ∀ {vs : List Value} {ns : List Nat} (i : Nat) {v : Value} {n : Nat}, NVs w vs ns → vs[i]? = some v → ns[i]? = some n → NV w v n
  | [], [], i, v, n, _, h1, _ => by simp at h1
  | [], _ :: _, _, _, _, h, _, _ => h.elim
  | _ :: _, [], _, _, _, h, _, _ => h.elim
  | v :: vs, n :: ns, 0, _, _, h, h1, h2 => by
    simp only [List.getElem?_cons_zero, Option.some.injEq] at h1 h2
    subst h1 h2
    exact h.1
  | v :: vs, n :: ns, i + 1, _, _, h, h1, h2 => NVs.get i h.2 (by simpa using h1) (by simpa using h2)
theorem Env.at {w0 w : World} {vs : List Value} {ns : List Nat} (h : Hid (Env w0 w vs ns)) (i : Nat) {v : Value} {n : Nat} (h1 : vs[i]? = some v) (h2 : ns[i]? = some n) : Hid (NV w v n) := NVs.get i h.out.all h1 h2
/-- So many limbs at most. -/
def Lim (n k : Nat) : Prop := n < BB ^ k
theorem Lim.mul {a b i j : Nat} (ha : Lim a i) (hb : Lim b j) : Lim (a * b) (i + j) := few_mul ha hb
theorem Lim.le {a b i : Nat} (hb : Lim b i) (h : a ≤ b) : Lim a i := Nat.lt_of_le_of_lt h hb
theorem Lim.mono {a i j : Nat} (ha : Lim a i) (h : i ≤ j) : Lim a j := Nat.lt_of_lt_of_le ha (Nat.pow_le_pow_right BB_pos h)
theorem Lim.add {a b i j : Nat} (ha : Lim a i) (hb : Lim b j) : Lim (a + b) (i + j + 1) := few_add (ha.mono (by omega)) (hb.mono (by omega))
theorem Lim.few {a i : Nat} (h : Lim a i) (hi : i ≤ 1000000) : Few a := Few.of_pow h (by omega)
theorem Lim.one {a : Nat} (h : a < BB) : Lim a 1 := by unfold Lim; rwa [Nat.pow_one]
theorem Lim.val {xs : List Nat} (h : Limb xs) {k : Nat} (hk : xs.length ≤ k) : Lim (val xs) k := Nat.lt_of_lt_of_le (val_lt h) (Nat.pow_le_pow_right BB_pos hk)
end Go.Proofs.YtphjcphcgnjogaaDoor
