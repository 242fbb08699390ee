/- The coefficients add up to the unit's row; the terms' units rise. No walk here. -/
import Derived.Test.YtgflflpeilfinaaDoorPureB
set_option linter.unusedVariables false
set_option linter.unusedSimpArgs false
set_option linter.unusedSectionVars false
namespace Go.Proofs.YtgflflpeilfinaaDoor
open Go.RowKit

theorem lsum_mapc (l : List Nat) (h : Nat → Nat) (f : Nat → Nat) : lsum (l.map h) f = lsum l (fun i => f (h i)) := by
  induction l with
  | nil => rfl
  | cons a l ih => rw [List.map_cons, lsum_cons, lsum_cons, ih]
theorem lsum_getD (l : List Nat) (g : Nat → Nat) : lsum (List.range l.length) (fun i => g (l.getD i 0)) = lsum l g := by
  induction l with
  | nil => rfl
  | cons a l ih =>
    rw [List.length_cons, List.range_succ_eq_map, lsum_cons, lsum_cons, lsum_mapc, ← ih]
    rfl
theorem lsum_range_succ (i : Nat) (f : Nat → Nat) : lsum (List.range (i + 1)) f = lsum (List.range i) f ^^^ f i := by
  rw [List.range_succ]
  generalize List.range i = l
  induction l with
  | nil => simp [lsum]
  | cons a l ih => rw [List.cons_append, lsum_cons, lsum_cons, ih, Nat.xor_assoc]

def tmAt (L : List (Int × Int)) (j : Nat) : Int × Int := L.getD j (0, 0)
/-- What the first i terms add up to, at place k. -/
def accC (m n : Nat) (par : List (List Int)) (L : List (Int × Int)) (i k : Nat) : Nat :=
  lsum (List.range i) fun j => mu m (tmAt L j).2.toNat (gEl n par (tmAt L j).1.toNat k)
theorem accC_zero (m n : Nat) (par : List (List Int)) (L : List (Int × Int)) (k : Nat) : accC m n par L 0 k = 0 := rfl
theorem accC_succ (m n : Nat) (par : List (List Int)) (L : List (Int × Int)) (i k : Nat) :
    accC m n par L (i + 1) k = accC m n par L i k ^^^ mu m (tmAt L i).2.toNat (gEl n par (tmAt L i).1.toNat k) := lsum_range_succ _ _
theorem mu_in {m a b : Nat} (ha : a < 2 ^ m) (hb : b < 2 ^ m) : mu m a b = gmul m a b := by
  unfold mu
  rw [Nat.mod_eq_of_lt ha, Nat.mod_eq_of_lt hb]
theorem accC_lt {m n : Nat} (hm : Fm m) (par : List (List Int)) (L : List (Int × Int)) (i k : Nat) : accC m n par L i k < 2 ^ m := by
  induction i with
  | zero => exact Nat.two_pow_pos m
  | succ i ih =>
    rw [accC_succ]
    refine Nat.xor_lt_two_pow ih ?_
    unfold mu
    exact gmul_lt hm (modlt m _)

/-- The row under way: the first j places hold one term more. -/
def sumC (m n : Nat) (par : List (List Int)) (L : List (Int × Int)) (i j : Nat) : List Nat := (List.range n).map fun k => if k < j then accC m n par L (i + 1) k else accC m n par L i k
theorem sumC_len (m n : Nat) (par : List (List Int)) (L : List (Int × Int)) (i j : Nat) : (sumC m n par L i j).length = n := by simp [sumC]
theorem sumC_next (m n : Nat) (par : List (List Int)) (L : List (Int × Int)) (i : Nat) : sumC m n par L i n = sumC m n par L (i + 1) 0 := by
  unfold sumC
  refine List.map_congr_left fun k hk => ?_
  rw [if_pos (List.mem_range.1 hk), if_neg (by omega)]
theorem sumC_get (m n : Nat) (par : List (List Int)) (L : List (Int × Int)) (i j : Nat) (hj : j < n) : (sumC m n par L i j)[j]? = some (accC m n par L i j) := by
  simp [sumC, hj]
theorem sumC_set (m n : Nat) (par : List (List Int)) (L : List (Int × Int)) (i j : Nat) : (sumC m n par L i j).set j (accC m n par L (i + 1) j) = sumC m n par L i (j + 1) := by
  apply List.ext_getElem?
  intro k
  rw [List.getElem?_set]
  unfold sumC
  by_cases h : j = k
  · subst h
    by_cases hj : j < n
    · simp [hj]
    · simp [hj]
  · rw [if_neg h]
    by_cases hk : k < n
    · simp only [List.getElem?_map, List.getElem?_range hk, Option.map_some]
      by_cases h1 : k < j
      · rw [if_pos h1, if_pos (by omega)]
      · rw [if_neg h1, if_neg (by omega)]
    · simp [hk]
theorem sumC_zero (m n : Nat) (par : List (List Int)) (L : List (Int × Int)) : sumC m n par L 0 0 = List.replicate n 0 := by
  unfold sumC
  rw [List.eq_replicate_iff]
  refine ⟨by simp, fun x hx => ?_⟩
  obtain ⟨k, _, rfl⟩ := List.mem_map.1 hx
  rw [if_neg (by omega)]; rfl

section
variable {m n : Nat} {par : List (List Int)} {hs : List Bool} (V : Vd m n par hs)
include V
theorem Vd.cmb_map (u : Nat) : cmbT m n par hs u = (tIdx m n par hs u).map fun j => ((((basisL m n par hs).getD j 0 : Nat) : Int), ((ate (restL m n par (basisL m n par hs) (spanL m n par hs) u).2 j : Nat) : Int)) := rfl
theorem Vd.tmAt_map {u j : Nat} (hj : j < (tIdx m n par hs u).length) : tmAt (cmbT m n par hs u) j = ((((basisL m n par hs).getD ((tIdx m n par hs u).getD j 0) 0 : Nat) : Int), ((ate (restL m n par (basisL m n par hs) (spanL m n par hs) u).2 ((tIdx m n par hs u).getD j 0) : Nat) : Int)) := by
  unfold tmAt
  rw [V.cmb_map]
  simp [hj]
theorem Vd.cmb_len (u : Nat) : (cmbT m n par hs u).length = (tIdx m n par hs u).length := by rw [V.cmb_map, List.length_map]
theorem Vd.acc_all {u : Nat} (hu : u < n + par.length) (hr : recB m n par hs u = true) {k : Nat} (hk : k < n) :
    accC m n par (cmbT m n par hs u) (cmbT m n par hs u).length k = gEl n par u k := by
  rw [V.cmb hu hr k hk, ← lsum_getD, V.cmb_len]
  unfold accC
  refine lsum_congr fun j hj => ?_
  rw [V.tmAt_map (List.mem_range.1 hj)]
  simp
theorem Vd.sum_all {u : Nat} (hu : u < n + par.length) (hr : recB m n par hs u = true) :
    sumC m n par (cmbT m n par hs u) (cmbT m n par hs u).length 0 = gRow n par u := by
  apply List.ext_getElem?
  intro k
  unfold sumC
  by_cases hk : k < n
  · simp only [List.getElem?_map, List.getElem?_range hk, Option.map_some]
    rw [if_neg (by omega), V.acc_all hu hr hk]
    have h1 : k < (gRow n par u).length := by rw [gRow_len V.hm V.rows hu]; exact hk
    rw [List.getElem?_eq_getElem h1]
    unfold gEl
    rw [ate_get h1]
  · rw [List.getElem?_eq_none (by simp; omega), List.getElem?_eq_none (by rw [gRow_len V.hm V.rows hu]; omega)]
theorem Vd.rise {u i : Nat} (hi : i + 1 < (cmbT m n par hs u).length) : (tmAt (cmbT m n par hs u) i).1 < (tmAt (cmbT m n par hs u) (i + 1)).1 := by
  rw [V.cmb_len] at hi
  rw [V.tmAt_map (by omega), V.tmAt_map hi]
  have h1 : (tIdx m n par hs u).Pairwise (· < ·) := List.pairwise_lt_range.filter _
  have h2 := List.pairwise_iff_getElem.1 h1 i (i + 1) (by omega) hi (by omega)
  have hmem : (tIdx m n par hs u)[i + 1] < (basisL m n par hs).length := List.mem_range.1 (List.mem_filter.1 (List.getElem_mem hi)).1
  have h3 := List.pairwise_iff_getElem.1 V.basis.inc _ _ (by omega) hmem h2
  have e1 : (tIdx m n par hs u).getD i 0 = (tIdx m n par hs u)[i] := by simp [show i < (tIdx m n par hs u).length by omega]
  have e2 : (tIdx m n par hs u).getD (i + 1) 0 = (tIdx m n par hs u)[i + 1] := by simp [hi]
  rw [e1, e2]
  have e3 : ∀ j, j < (basisL m n par hs).length → (basisL m n par hs).getD j 0 = (basisL m n par hs)[j]! := fun j hj => by simp [hj]
  have a1 : (basisL m n par hs).getD (tIdx m n par hs u)[i] 0 = (basisL m n par hs)[(tIdx m n par hs u)[i]]'(by omega) := by simp [show (tIdx m n par hs u)[i] < (basisL m n par hs).length by omega]
  have a2 : (basisL m n par hs).getD (tIdx m n par hs u)[i + 1] 0 = (basisL m n par hs)[(tIdx m n par hs u)[i + 1]]'hmem := by simp [hmem]
  rw [a1, a2]
  exact Int.ofNat_lt.2 h3
end

end Go.Proofs.YtgflflpeilfinaaDoor
