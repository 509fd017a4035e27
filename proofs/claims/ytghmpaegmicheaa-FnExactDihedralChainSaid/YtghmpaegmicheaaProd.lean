/- Products of groups: the program's and the reference's. -/
import Derived.Test.YtghmpaegmicheaaGrpC
import Derived.Test.YtghmpaegmicheaaDih
namespace Go.Proofs.Ytghmpaegmicheaa
open Go.RowKit

/-- The product of two tables: the number at i, j. -/
def prE (g h : List (List Int)) (i j : Nat) : Int := tb g (i / h.length) (j / h.length) * (h.length : Int) + tb h (i % h.length) (j % h.length)
theorem div_lt_prod {i a b : Nat} (h : i < a * b) : i / b < a := Nat.div_lt_of_lt_mul (by rw [Nat.mul_comm]; exact h)
theorem prod_bd {g h : List (List Int)} (hg : sqB g = true) (hh : sqB h = true) {i j : Nat} (hi : i < g.length * h.length) (hj : j < g.length * h.length) :
    0 ≤ tb g (i / h.length) (j / h.length) ∧ tb g (i / h.length) (j / h.length) ≤ 9 ∧ 0 ≤ tb h (i % h.length) (j % h.length) ∧ tb h (i % h.length) (j % h.length) ≤ 9 := by
  have h1 := (sqB_iff.1 hg).1
  have h2 := (sqB_iff.1 hh).1
  have t1 := tb_bd hg _ _ (div_lt_prod hi) (div_lt_prod hj)
  have t2 := tb_bd hh _ _ (Nat.mod_lt i (by omega : h.length > 0)) (Nat.mod_lt j (by omega : h.length > 0))
  omega
def prB (x y : List (List Int)) : Bool := grpB x && (grpB y && decide (x.length * y.length ≤ 10))
def prX (x y : List (List Int)) : List (List Int) := if prB x y then mkT (x.length * y.length) (prE x y) else []
end Go.Proofs.Ytghmpaegmicheaa
