/- Rows of a matrix in one row of memory; the identity; an append of nothing. -/
import Derived.Test.YtgflflpeilfinaaDoorR8f
set_option linter.unusedVariables false
set_option linter.unusedSimpArgs false
namespace Go.Proofs.YtgflflpeilfinaaDoor
open Go.RowKit

section
variable {α : Type}
theorem flat_len (L : Nat → List α) (n : Nat) : ∀ k, (∀ u, u < k → (L u).length = n) → ((List.range k).flatMap L).length = k * n
  | 0, _ => by simp
  | k + 1, h => by
    rw [List.range_succ, List.flatMap_append, List.length_append, flat_len L n k (fun u hu => h u (by omega)), Nat.add_mul]
    simp [h k (by omega)]
theorem flat_get (L : Nat → List α) (n : Nat) : ∀ k, (∀ u, u < k → (L u).length = n) → ∀ u b, u < k → b < n → ((List.range k).flatMap L)[u * n + b]? = (L u)[b]?
  | 0, _ => fun u b hu => by omega
  | k + 1, h => fun u b hu hb => by
    have hl := flat_len L n k (fun u hu => h u (by omega))
    rw [List.range_succ, List.flatMap_append]
    by_cases e : u < k
    · have : u * n + b < k * n := Nat.lt_of_lt_of_le (show u * n + b < (u + 1) * n by rw [Nat.add_mul]; omega) (Nat.mul_le_mul_right n (by omega))
      rw [List.getElem?_append_left (by omega)]
      exact flat_get L n k (fun u hu => h u (by omega)) u b e hb
    · obtain rfl : u = k := by omega
      rw [List.getElem?_append_right (by omega), hl, show u * n + b - u * n = b by omega]
      simp
theorem flat_row (L : Nat → List α) (n : Nat) (k : Nat) (h : ∀ u, u < k → (L u).length = n) (u : Nat) (hu : u < k) : (((List.range k).flatMap L).drop (u * n)).take n = L u := by
  apply List.ext_getElem?
  intro b
  by_cases hb : b < n
  · rw [List.getElem?_take_of_lt hb, List.getElem?_drop]
    exact flat_get L n k h u b hu hb
  · rw [List.getElem?_take, if_neg hb, List.getElem?_eq_none (by rw [h u hu]; omega)]
end

/-- The identity, the first k ones of it. -/
def idTo (n : Nat) : Nat → List Int
  | 0 => List.replicate (n * n) 0
  | k + 1 => (idTo n k).set (k * n + k) 1
theorem idTo_len (n : Nat) : ∀ k, (idTo n k).length = n * n
  | 0 => by simp [idTo]
  | k + 1 => by simp [idTo, idTo_len n k]
theorem idTo_get (n : Nat) : ∀ k, k ≤ n → ∀ u b, u < n → b < n → (idTo n k)[u * n + b]? = some (if u = b ∧ u < k then 1 else 0)
  | 0, _ => fun u b hu hb => by
    have : u * n + b < n * n := Nat.lt_of_lt_of_le (show u * n + b < (u + 1) * n by rw [Nat.add_mul]; omega) (Nat.mul_le_mul_right n (by omega))
    simp only [idTo, List.getElem?_replicate]
    rw [if_pos this, if_neg (by omega)]
  | k + 1, hk => fun u b hu hb => by
    have : u * n + b < n * n := Nat.lt_of_lt_of_le (show u * n + b < (u + 1) * n by rw [Nat.add_mul]; omega) (Nat.mul_le_mul_right n (by omega))
    simp only [idTo]
    rw [List.getElem?_set, idTo_get n k (by omega) u b hu hb]
    by_cases e : k * n + k = u * n + b
    · have e1 : k = u := by
        have h1 : (k * n + k) / n = k := by rw [Nat.mul_comm, Nat.mul_add_div (by omega), Nat.div_eq_of_lt (by omega)]; omega
        have h2 : (u * n + b) / n = u := by rw [Nat.mul_comm, Nat.mul_add_div (by omega), Nat.div_eq_of_lt (by omega)]; omega
        rw [e] at h1; omega
      subst e1
      obtain rfl : k = b := by omega
      rw [if_pos rfl, if_pos (by rw [idTo_len]; omega), if_pos ⟨rfl, by omega⟩]
    · rw [if_neg e]
      congr 1
      by_cases h : u = b ∧ u < k
      · rw [if_pos h, if_pos ⟨h.1, by omega⟩]
      · rw [if_neg h, if_neg]
        rintro ⟨h1, h2⟩
        apply h
        refine ⟨h1, ?_⟩
        rcases Nat.lt_or_ge u k with h3 | h3
        · exact h3
        · obtain rfl : u = k := by omega
          subst h1
          exact absurd rfl e
theorem idTo_rows (n : Nat) (par : List (List Int)) : idTo n n = genTo n par n := by
  have hl : ∀ u, u < n → (rowOf n par u).length = n := fun u hu => by rw [rowOf_low hu]; simp
  apply List.ext_getElem?
  intro p
  by_cases hp : p < n * n
  · have hn : 0 < n := by
      rcases Nat.eq_zero_or_pos n with h | h
      · subst h; simp at hp
      · exact h
    have h1 : p / n < n := Nat.div_lt_of_lt_mul hp
    have h2 : p % n < n := Nat.mod_lt _ hn
    have e : p = p / n * n + p % n := by rw [Nat.mul_comm, Nat.div_add_mod]
    rw [e, idTo_get n n (Nat.le_refl _) _ _ h1 h2]
    unfold genTo
    rw [flat_get _ n n hl _ _ h1 h2, rowOf_low h1]
    simp [h2, h1]
  · rw [List.getElem?_eq_none (by rw [idTo_len]; omega), List.getElem?_eq_none]
    unfold genTo
    rw [flat_len _ n n hl]; omega
theorem genTo_split (n : Nat) (par : List (List Int)) : ∀ k, k ≤ par.length → genTo n par (n + k) = genTo n par n ++ (par.take k).flatten
  | 0, _ => by simp
  | k + 1, h => by
    rw [← Nat.add_assoc, genTo_succ, genTo_split n par k (by omega), List.append_assoc]
    congr 1
    rw [List.take_succ_eq_append_getElem (by omega), List.flatten_append, rowOf_high (by omega) (by omega)]
    simp
theorem genL_eq (n : Nat) (par : List (List Int)) : genL n par = idTo n n ++ par.flatten := by
  unfold genL
  rw [genTo_split n par _ (Nat.le_refl _), List.take_length, idTo_rows n par]

section
variable {P : Program}
theorem run_append_none (w : World) (base : Nat) (t ty e : TypeId) (i : TypeInfo) (size : Nat) (ht : P.underlying t = some (.slice e)) (hi : P.info? e = some i)
    (v : Value) (n : Nat) (xs : List Value) (hown : w.ownsRow base e size v n xs) (ao : Option Addr) (c : Nat) :
    (Builtin.append_ #[t, t] ty #[v, .slice ao 0 c]).run P w = .ok v w := by
  rcases hown.2 with ⟨rfl, rfl⟩ | ⟨g, cap, cur, rfl, _, _, hnc, _⟩
  · cases ao <;> simp [Builtin.append_, run_underlying ht, sizeOf, typeInfo, hi, Builtin.lenOf, Builtin.firstCells, loadCells, loadCellsFrom]
  · cases ao <;> simp [Builtin.append_, run_underlying ht, sizeOf, typeInfo, hi, Builtin.lenOf, Builtin.firstCells, hnc, storeCells, loadCells, loadCellsFrom]
variable {ops : Array Oper} {o : Oper} {a : Act} {w : World} {K : Act → World → Prop} {Q : Exit → Act → World → Prop} {E : Prop}
/-- append of nothing, as one step of a region that draws. -/
theorem step_append_none (hgd : o.guard = none) (s x : Operand) (t : TypeId) (ho : o.op = .call { callee := .builtin .append, args := #[s, x], argTypes := #[t, t] })
    (base : Nat) (e : TypeId) (i : TypeInfo) (size : Nat) (ht : P.underlying t = some (.slice e)) (hi : P.info? e = some i)
    (v : Value) (n : Nat) (xs : List Value) (hs : a.eval s = v) (hown : w.ownsRow base e size v n xs) (ao : Option Addr) (c : Nat) (hx : a.eval x = .slice ao 0 c)
    (hK : K (a.put o.dst v) w) : if Region.wanted o (yielded ops a.tmps) = true then Oper.wp P o a w K Q else E := by
  have hw : Region.wanted o (yielded ops a.tmps) = true := by simp [Region.wanted, hgd]
  rw [if_pos hw]
  have hrun := run_append_none (P := P) w base t o.type e i size ht hi v n xs hown ao c
  unfold Oper.wp
  simp [execOp, ho, resolve, invoke, builtin, hs, hx, hrun, Result.andThen]
  exact hK
end

end Go.Proofs.YtgflflpeilfinaaDoor
