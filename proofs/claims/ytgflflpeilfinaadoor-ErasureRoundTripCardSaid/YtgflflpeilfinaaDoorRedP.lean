/- The reduction of a matrix, as a function. -/
import Derived.Test.YtgflflpeilfinaaDoorMatD
set_option linter.unusedVariables false
set_option linter.unusedSectionVars false
set_option linter.unusedSimpArgs false
namespace Go.Proofs.YtgflflpeilfinaaDoor
open Go.RowKit

/-- The first row from r on that has an element other than 0 at column j. -/
def pivRow (R : Nat) (A : Nat → Nat → Nat) (j r : Nat) : Option Nat := (List.range R).find? fun i => decide (r ≤ i) && decide (A i j ≠ 0)
def scaleTo (m : Nat) (A : Nat → Nat → Nat) (r f k : Nat) : Nat → Nat → Nat := fun p q => if p = r ∧ q < k then gmul m f (A r q) else A p q
def scaleM (m : Nat) (A : Nat → Nat → Nat) (r f : Nat) : Nat → Nat → Nat := fun p q => if p = r then gmul m f (A r q) else A p q
/-- Column j of the rows before k is cleared by row r. -/
def elimTo (m : Nat) (A : Nat → Nat → Nat) (r j k : Nat) : Nat → Nat → Nat := fun p q => if p ≠ r ∧ p < k then A p q ^^^ gmul m (A p j) (A r q) else A p q
def elimM (m : Nat) (A : Nat → Nat → Nat) (r j : Nat) : Nat → Nat → Nat := fun p q => if p ≠ r then A p q ^^^ gmul m (A p j) (A r q) else A p q
def stepM (m : Nat) (A : Nat → Nat → Nat) (j r i : Nat) : Nat → Nat → Nat :=
  elimM m (scaleM m (swapM A i r) r (ginv m (swapM A i r r j))) r j
/-- The columns before j are done: the matrix and the pivots. -/
def redTo (m R : Nat) (A : Nat → Nat → Nat) : Nat → (Nat → Nat → Nat) × List Nat
  | 0 => (A, [])
  | j + 1 =>
    let s := redTo m R A j
    match pivRow R s.1 j s.2.length with
    | none => s
    | some i => (stepM m s.1 j s.2.length i, s.2 ++ [j])

theorem pivRow_some {R : Nat} {A : Nat → Nat → Nat} {j r i : Nat} (hi : i < R) (hri : r ≤ i) (h0 : A i j ≠ 0) (hn : ∀ p, r ≤ p → p < i → A p j = 0) : pivRow R A j r = some i := by
  unfold pivRow
  rw [List.find?_range_eq_some]
  refine ⟨by simp [hri, h0], by simpa using hi, fun p hp => ?_⟩
  simp only [Bool.not_eq_true', Bool.and_eq_false_iff, decide_eq_false_iff_not]
  by_cases h : r ≤ p
  · right; intro h2; exact h2 (hn p h hp)
  · left; exact h
theorem pivRow_none {R : Nat} {A : Nat → Nat → Nat} {j r : Nat} (hn : ∀ p, r ≤ p → p < R → A p j = 0) : pivRow R A j r = none := by
  unfold pivRow
  rw [List.find?_eq_none]
  intro p hp
  rw [List.mem_range] at hp
  simp only [Bool.and_eq_true, decide_eq_true_eq, not_and]
  intro h h2
  exact h2 (hn p h hp)

section
variable {m : Nat} (hm : Fm m)
def Bd (m R C : Nat) (A : Nat → Nat → Nat) : Prop := ∀ p q, p < R → q < C → A p q < 2 ^ m
include hm
theorem Bd.swap {R C : Nat} {A : Nat → Nat → Nat} (h : Bd m R C A) {i r : Nat} (hi : i < R) (hr : r < R) : Bd m R C (swapM A i r) := by
  intro p q hp hq
  unfold swapM
  split
  · exact h r q hr hq
  · split
    · exact h i q hi hq
    · exact h p q hp hq
theorem Bd.scale {R C : Nat} {A : Nat → Nat → Nat} (h : Bd m R C A) {r f : Nat} (hf : f < 2 ^ m) : Bd m R C (scaleM m A r f) := by
  intro p q hp hq
  unfold scaleM
  split
  · exact gmul_lt hm hf
  · exact h p q hp hq
theorem Bd.elim {R C : Nat} {A : Nat → Nat → Nat} (h : Bd m R C A) {r j : Nat} (hr : r < R) (hj : j < C) : Bd m R C (elimM m A r j) := by
  intro p q hp hq
  unfold elimM
  split
  · exact Nat.xor_lt_two_pow (h p q hp hq) (gmul_lt hm (h p j hp hj))
  · exact h p q hp hq
theorem Bd.step {R C : Nat} {A : Nat → Nat → Nat} (h : Bd m R C A) {j r i : Nat} (hi : i < R) (hr : r < R) (hj : j < C) : Bd m R C (stepM m A j r i) :=
  Bd.elim hm (Bd.scale hm (Bd.swap hm h hi hr) (ginv_lt hm (Bd.swap hm h hi hr r j hr hj))) hr hj
end

end Go.Proofs.YtgflflpeilfinaaDoor
