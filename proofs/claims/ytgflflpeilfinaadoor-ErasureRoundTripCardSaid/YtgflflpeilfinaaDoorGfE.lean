/- The fields with 2^8 and 2^16 elements, as functions on whole numbers: the product by Horner's rule, the degree, Euclid's inverse, as the program computes them. No Go here. -/
import Derived.WalkKit
set_option linter.unusedVariables false
set_option linter.unusedSimpArgs false
namespace Go.Proofs.YtgflflpeilfinaaDoor
open Go.RowKit

/-- The modulus of a field as the program answers it. -/
def fmod (m : Int) : Int := if m = 8 then 285 else if m = 16 then 69643 else 0
/-- The modulus of the field with 2^m elements (m is 8 or 16). -/
def md (m : Nat) : Nat := if m = 8 then 285 else 69643
/-- A number of bits that a field has. -/
def Fm (m : Nat) : Prop := m = 8 ∨ m = 16
theorem fmod_md {m : Nat} (h : Fm m) : fmod (m : Int) = (md m : Int) := by
  rcases h with rfl | rfl <;> rfl
theorem Fm.le {m : Nat} (h : Fm m) : 8 ≤ m ∧ m ≤ 16 := by rcases h with rfl | rfl <;> omega
theorem md_bd {m : Nat} (h : Fm m) : 2 ^ m ≤ md m ∧ md m < 2 ^ (m + 1) := by rcases h with rfl | rfl <;> decide
theorem md_lt {m : Nat} (h : Fm m) : md m < 131072 := by rcases h with rfl | rfl <;> decide
theorem pow_lt {m : Nat} (h : Fm m) : 2 ^ m ≤ 65536 := by rcases h with rfl | rfl <;> decide

theorem bits_xor_nat (k : IntKind) (j : Nat) (hj : j ≤ k.bits) (hk : ∀ n : Int, 0 ≤ n → n < 2 ^ j → k.wrap n = n) (a b : Nat) (ha : a < 2 ^ j) (hb : b < 2 ^ j) :
    bits .xor k a b = ((a ^^^ b : Nat) : Int) := by
  have hp : 2 ^ j ≤ 2 ^ k.bits := Nat.pow_le_pow_right (by decide) hj
  have ha' : a % 2 ^ k.bits = a := Nat.mod_eq_of_lt (Nat.lt_of_lt_of_le ha hp)
  have hb' : b % 2 ^ k.bits = b := Nat.mod_eq_of_lt (Nat.lt_of_lt_of_le hb hp)
  have cast : ∀ n : Nat, n < 2 ^ j → ((n : Nat) : Int) < 2 ^ j := fun n h => by exact_mod_cast h
  simp only [bits, BitVec.ofInt_natCast, BitVec.toNat_xor, BitVec.toNat_ofNat, ha', hb']
  exact hk _ (Int.natCast_nonneg _) (cast _ (Nat.xor_lt_two_pow ha hb))
theorem wraps_i64 (n : Int) (h₀ : 0 ≤ n) (h₁ : n < 2 ^ 62) : IntKind.i64.wrap n = n := by rw [IntKind.wrap_i64]; omega
theorem xor_i64 (a b : Nat) (ha : a < 2 ^ 62) (hb : b < 2 ^ 62) : bits .xor .i64 (a : Int) (b : Int) = ((a ^^^ b : Nat) : Int) :=
  bits_xor_nat .i64 62 (by decide) wraps_i64 a b ha hb
theorem xor_u8 (a b : Nat) (ha : a < 2 ^ 8) (hb : b < 2 ^ 8) : bits .xor .u8 (a : Int) (b : Int) = ((a ^^^ b : Nat) : Int) :=
  bits_xor_nat .u8 8 (by decide) wraps_u8 a b ha hb
theorem and1_i64 (a : Nat) (ha : a < 2 ^ 62) : bits .and .i64 (a : Int) 1 = ((a % 2 : Nat) : Int) := by
  have h := (bits_nat .i64 62 (by decide) wraps_i64 a 1 ha (by decide)).1
  rw [Nat.and_one_is_mod] at h
  exact h

/-- One step of Horner's rule: the bit i of b. -/
def hstep (m a b i out : Nat) : Nat :=
  let o := if 2 ^ m ≤ out * 2 then (out * 2) ^^^ md m else out * 2
  if b / 2 ^ i % 2 = 1 then o ^^^ a else o
/-- The steps for the bits below k, from the highest down. -/
def hrun (m a b : Nat) : Nat → Nat → Nat
  | 0, out => out
  | k + 1, out => hrun m a b k (hstep m a b k out)
/-- The product. -/
def gmul (m a b : Nat) : Nat := hrun m a b m 0

theorem shl_xor_lt {m out : Nat} (hm : Fm m) (h : out < 2 ^ m) (h2 : 2 ^ m ≤ out * 2) : (out * 2) ^^^ md m < 2 ^ m := by
  have hb := md_bd hm
  have h1 : out * 2 < 2 ^ (m + 1) := by rw [Nat.pow_succ]; omega
  have hx : (out * 2) ^^^ md m < 2 ^ (m + 1) := Nat.xor_lt_two_pow h1 hb.2
  have ht : ((out * 2) ^^^ md m).testBit m = false := by
    rw [Nat.testBit_xor]
    have t1 : (out * 2).testBit m = true := by
      rw [Nat.testBit_eq_decide_div_mod_eq]
      have : out * 2 / 2 ^ m = 1 := by
        apply Nat.div_eq_of_lt_le <;> rw [Nat.pow_succ] at h1 <;> omega
      simp [this]
    have t2 : (md m).testBit m = true := by
      rw [Nat.testBit_eq_decide_div_mod_eq]
      have : md m / 2 ^ m = 1 := by
        apply Nat.div_eq_of_lt_le <;> (have := hb.2; rw [Nat.pow_succ] at this; omega)
      simp [this]
    simp [t1, t2]
  rcases Nat.lt_or_ge ((out * 2) ^^^ md m) (2 ^ m) with h3 | h3
  · exact h3
  · exfalso
    have : ((out * 2) ^^^ md m) / 2 ^ m = 1 := by
      apply Nat.div_eq_of_lt_le <;> (rw [Nat.pow_succ] at hx; omega)
    rw [Nat.testBit_eq_decide_div_mod_eq, this] at ht
    simp at ht

theorem hstep_lt {m a b i out : Nat} (hm : Fm m) (ha : a < 2 ^ m) (h : out < 2 ^ m) : hstep m a b i out < 2 ^ m := by
  unfold hstep
  have ho : (if 2 ^ m ≤ out * 2 then (out * 2) ^^^ md m else out * 2) < 2 ^ m := by
    split
    · rename_i h2; exact shl_xor_lt hm h h2
    · omega
  simp only []
  split
  · exact Nat.xor_lt_two_pow ho ha
  · exact ho
theorem hrun_lt {m a b : Nat} (hm : Fm m) (ha : a < 2 ^ m) : ∀ k out, out < 2 ^ m → hrun m a b k out < 2 ^ m
  | 0, _, h => h
  | k + 1, _, h => hrun_lt hm ha k _ (hstep_lt hm ha h)
theorem gmul_lt {m a b : Nat} (hm : Fm m) (ha : a < 2 ^ m) : gmul m a b < 2 ^ m := hrun_lt hm ha m 0 (Nat.two_pow_pos m)

/-- The degree of a polynomial plus 1. -/
def deg1 : Nat → Nat
  | 0 => 0
  | n + 1 => deg1 ((n + 1) / 2) + 1
theorem deg1_zero : deg1 0 = 0 := by unfold deg1; rfl
theorem deg1_pos (n : Nat) (h : n ≠ 0) : deg1 n = deg1 (n / 2) + 1 := by
  cases n with
  | zero => exact absurd rfl h
  | succ n => rw [deg1]

end Go.Proofs.YtgflflpeilfinaaDoor

/- The fields with 2^8 and 2^16 elements are fields: the carryless product, remainders, inverses. Plain arithmetic, no Go. -/
set_option linter.unusedVariables false
set_option linter.unusedSimpArgs false
set_option linter.unusedSectionVars false
namespace Go.Proofs.YtgflflpeilfinaaDoor

/-! ### bits -/
theorem xor_mod2 (a b : Nat) : (a ^^^ b) % 2 = (a % 2 + b % 2) % 2 := by
  have h : (a ^^^ b).testBit 0 = (a.testBit 0 ^^ b.testBit 0) := Nat.testBit_xor ..
  simp only [Nat.testBit_zero] at h
  have h1 : a % 2 = 0 ∨ a % 2 = 1 := by omega
  have h2 : b % 2 = 0 ∨ b % 2 = 1 := by omega
  have h3 : (a ^^^ b) % 2 = 0 ∨ (a ^^^ b) % 2 = 1 := by omega
  rcases h1 with h1 | h1 <;> rcases h2 with h2 | h2 <;> rcases h3 with h3 | h3 <;> simp [h1, h2, h3] at h ⊢
theorem xor_div2 (a b : Nat) : (a ^^^ b) / 2 = (a / 2) ^^^ (b / 2) := Nat.xor_div_two
theorem xor_dbl2 (a b : Nat) : 2 * (a ^^^ b) = (2 * a) ^^^ (2 * b) := by
  apply Nat.eq_of_testBit_eq
  intro i
  rw [Nat.testBit_xor]
  cases i with
  | zero => simp [Nat.testBit_zero]
  | succ i => simp [Nat.testBit_succ]
theorem split2 (a : Nat) : (a % 2) ^^^ (2 * (a / 2)) = a := by
  apply Nat.eq_of_testBit_eq
  intro i
  rw [Nat.testBit_xor]
  cases i with
  | zero => simp [Nat.testBit_zero]
  | succ i => simp [Nat.testBit_succ]
theorem xor_eq_zero_of {a b : Nat} (h : a ^^^ b = 0) : a = b := by
  have : (a ^^^ b) ^^^ b = 0 ^^^ b := by rw [h]
  rw [Nat.xor_assoc, Nat.xor_self, Nat.xor_zero, Nat.zero_xor] at this
  exact this
theorem xor4 (a b c d : Nat) : (a ^^^ b) ^^^ (c ^^^ d) = (a ^^^ c) ^^^ (b ^^^ d) := by
  rw [Nat.xor_assoc, ← Nat.xor_assoc b, Nat.xor_comm b c, Nat.xor_assoc c, ← Nat.xor_assoc]
theorem xor_cancel (a b : Nat) : (a ^^^ b) ^^^ b = a := by rw [Nat.xor_assoc, Nat.xor_self, Nat.xor_zero]

/-! ### the carryless product -/
def cl (s u : Nat) : Nat := if h : s = 0 then 0 else (if s % 2 = 1 then u else 0) ^^^ cl (s / 2) (2 * u)
termination_by s
decreasing_by omega
theorem cl_zero (u : Nat) : cl 0 u = 0 := by rw [cl]; simp
theorem cl_step (s u : Nat) : cl s u = (if s % 2 = 1 then u else 0) ^^^ cl (s / 2) (2 * u) := by
  by_cases h : s = 0
  · subst h; rw [cl_zero]; simp [cl_zero]
  · rw [cl, dif_neg h]
theorem cl_one (u : Nat) : cl 1 u = u := by rw [cl_step]; simp [cl_zero]
theorem cl_right_zero (s : Nat) : cl s 0 = 0 := by
  induction s using Nat.strongRecOn with
  | _ s ih =>
    by_cases h : s = 0
    · subst h; exact cl_zero _
    · rw [cl_step, ih (s / 2) (by omega)]; simp
theorem cl_add_right (s : Nat) : ∀ u v, cl s (u ^^^ v) = cl s u ^^^ cl s v := by
  induction s using Nat.strongRecOn with
  | _ s ih =>
    intro u v
    by_cases h : s = 0
    · subst h; simp [cl_zero]
    · rw [cl_step, cl_step s u, cl_step s v, xor_dbl2, ih (s / 2) (by omega), xor4]
      split <;> simp
theorem cl_dbl_right (s : Nat) : ∀ u, cl s (2 * u) = 2 * cl s u := by
  induction s using Nat.strongRecOn with
  | _ s ih =>
    intro u
    by_cases h : s = 0
    · subst h; simp [cl_zero]
    · rw [cl_step, cl_step s u, xor_dbl2, ih (s / 2) (by omega) (2 * u)]
      split <;> simp
theorem cl_add_left (s : Nat) : ∀ t u, cl (s ^^^ t) u = cl s u ^^^ cl t u := by
  induction s using Nat.strongRecOn with
  | _ s ih =>
    intro t u
    by_cases h : s = 0
    · subst h; simp [cl_zero]
    · rw [cl_step, cl_step s u, cl_step t u, xor_div2, ih (s / 2) (by omega), xor4, xor_mod2]
      congr 1
      have h1 : s % 2 = 0 ∨ s % 2 = 1 := by omega
      have h2 : t % 2 = 0 ∨ t % 2 = 1 := by omega
      rcases h1 with h1 | h1 <;> rcases h2 with h2 | h2 <;> simp [h1, h2]
theorem cl_dbl_left (s u : Nat) : cl (2 * s) u = 2 * cl s u := by
  rw [cl_step]
  have h1 : ¬ (2 * s) % 2 = 1 := by omega
  have h2 : 2 * s / 2 = s := by omega
  rw [if_neg h1, h2, cl_dbl_right]
  simp
theorem cl_assoc (s : Nat) : ∀ t u, cl (cl s t) u = cl s (cl t u) := by
  induction s using Nat.strongRecOn with
  | _ s ih =>
    intro t u
    by_cases h : s = 0
    · subst h; simp [cl_zero]
    · rw [cl_step s t, cl_add_left, ih (s / 2) (by omega), cl_dbl_left, cl_step s (cl t u)]
      split <;> simp [cl_zero]
theorem cl_right_one (s : Nat) : cl s 1 = s := by
  induction s using Nat.strongRecOn with
  | _ s ih =>
    by_cases h0 : s = 0
    · subst h0; simp [cl_zero]
    · rw [cl_step, cl_dbl_right, ih (s / 2) (by omega)]
      have := split2 s
      have h3 : s % 2 = 0 ∨ s % 2 = 1 := by omega
      rcases h3 with h3 | h3 <;> simp [h3] at this ⊢ <;> exact this
theorem cl_comm (s : Nat) : ∀ t, cl s t = cl t s := by
  induction s using Nat.strongRecOn with
  | _ s ih =>
    intro t
    by_cases h : s = 0
    · subst h; simp [cl_zero, cl_right_zero]
    · have e : cl t s = cl t (s % 2) ^^^ cl t (2 * (s / 2)) := by rw [← cl_add_right, split2]
      rw [e, cl_step, ih (s / 2) (by omega), cl_dbl_left, cl_dbl_right]
      congr 1
      have h1 : s % 2 = 0 ∨ s % 2 = 1 := by omega
      rcases h1 with h1 | h1
      · simp [h1, cl_right_zero]
      · simp [h1, cl_right_one]
theorem cl_pow (k s : Nat) : cl (2 ^ k) s = s * 2 ^ k := by
  induction k with
  | zero => simp [cl_one]
  | succ k ih => rw [Nat.pow_succ, Nat.mul_comm (2 ^ k) 2, cl_dbl_left, ih]; rw [Nat.mul_left_comm]
/-- The leading bits multiply. -/
theorem cl_top (ds : Nat) : ∀ s u du, 2 ^ ds ≤ s → s < 2 ^ (ds + 1) → 2 ^ du ≤ u → u < 2 ^ (du + 1) → 2 ^ (ds + du) ≤ cl s u ∧ cl s u < 2 ^ (ds + du + 1) := by
  induction ds with
  | zero =>
    intro s u du h1 h2 h3 h4
    have : s = 1 := by simp at h1 h2; omega
    subst this
    rw [cl_one, Nat.zero_add]
    exact ⟨h3, h4⟩
  | succ ds ih =>
    intro s u du h1 h2 h3 h4
    have g1 : 2 ^ ds ≤ s / 2 := by rw [Nat.pow_succ] at h1; omega
    have g2 : s / 2 < 2 ^ (ds + 1) := by rw [Nat.pow_succ] at h2; omega
    have g3 : 2 ^ (du + 1) ≤ 2 * u := by rw [Nat.pow_succ]; omega
    have g4 : 2 * u < 2 ^ (du + 1 + 1) := by rw [Nat.pow_succ _ (du + 1)]; omega
    obtain ⟨a, b⟩ := ih (s / 2) (2 * u) (du + 1) g1 g2 g3 g4
    have e : ds + (du + 1) = ds + 1 + du := by omega
    rw [e] at a b
    rw [cl_step]
    have hu : (if s % 2 = 1 then u else 0) < 2 ^ (ds + 1 + du) := by
      have : 2 ^ (du + 1) ≤ 2 ^ (ds + 1 + du) := Nat.pow_le_pow_right (by decide) (by omega)
      have := Nat.two_pow_pos (ds + 1 + du)
      split <;> omega
    refine ⟨?_, Nat.xor_lt_two_pow (Nat.lt_trans hu (Nat.pow_lt_pow_right (by decide) (by omega))) b⟩
    rcases Nat.lt_or_ge ((if s % 2 = 1 then u else 0) ^^^ cl (s / 2) (2 * u)) (2 ^ (ds + 1 + du)) with h | h
    · exfalso
      have := Nat.xor_lt_two_pow h hu
      rw [Nat.xor_comm _ (if s % 2 = 1 then u else 0), ← Nat.xor_assoc, Nat.xor_self, Nat.zero_xor] at this
      omega
    · exact h
theorem log_bd (u : Nat) (h : u ≠ 0) : 2 ^ u.log2 ≤ u ∧ u < 2 ^ (u.log2 + 1) := ⟨Nat.log2_self_le h, Nat.lt_log2_self⟩


/-! ### congruence modulo the field's polynomial -/
def Cg (m a b : Nat) : Prop := ∃ t, a ^^^ b = cl t (md m)
theorem Cg.refl (m a : Nat) : Cg m a a := ⟨0, by rw [Nat.xor_self, cl_zero]⟩
theorem Cg.symm {m a b : Nat} (h : Cg m a b) : Cg m b a := by obtain ⟨t, h⟩ := h; exact ⟨t, by rw [Nat.xor_comm]; exact h⟩
theorem Cg.trans {m a b c : Nat} (h : Cg m a b) (h' : Cg m b c) : Cg m a c := by
  obtain ⟨t, h⟩ := h
  obtain ⟨u, k⟩ := h'
  refine ⟨t ^^^ u, ?_⟩
  rw [cl_add_left, ← h, ← k, Nat.xor_assoc, ← Nat.xor_assoc b b c, Nat.xor_self, Nat.zero_xor]
theorem Cg.add {m a b c d : Nat} (h : Cg m a b) (h' : Cg m c d) : Cg m (a ^^^ c) (b ^^^ d) := by
  obtain ⟨t, h⟩ := h
  obtain ⟨u, k⟩ := h'
  exact ⟨t ^^^ u, by rw [cl_add_left, ← h, ← k, xor4]⟩
theorem Cg.mul {m a b : Nat} (h : Cg m a b) (c : Nat) : Cg m (cl c a) (cl c b) := by
  obtain ⟨t, h⟩ := h
  exact ⟨cl c t, by rw [← cl_add_right, h, cl_assoc]⟩
theorem Cg.of_mod (m : Nat) : Cg m (md m) 0 := ⟨1, by rw [cl_one, Nat.xor_zero]⟩
theorem Cg.uniq {m a b : Nat} (hm : Fm m) (h : Cg m a b) (ha : a < 2 ^ m) (hb : b < 2 ^ m) : a = b := by
  obtain ⟨t, h⟩ := h
  by_cases ht : t = 0
  · subst ht; rw [cl_zero] at h; exact xor_eq_zero_of h
  · exfalso
    obtain ⟨h1, h2⟩ := log_bd t ht
    obtain ⟨h3, h4⟩ := md_bd hm
    have := (cl_top t.log2 t (md m) m h1 h2 h3 h4).1
    have h5 : 2 ^ m ≤ 2 ^ (t.log2 + m) := Nat.pow_le_pow_right (by decide) (by omega)
    have := Nat.xor_lt_two_pow ha hb
    omega

theorem hstep_cg {m a b k out : Nat} : Cg m (hstep m a b k out) ((2 * out) ^^^ cl (b / 2 ^ k % 2) a) := by
  have h1 : Cg m (if 2 ^ m ≤ out * 2 then (out * 2) ^^^ md m else out * 2) (2 * out) := by
    rw [Nat.mul_comm out 2]
    split
    · have := (Cg.refl m (2 * out)).add (Cg.of_mod m)
      rwa [Nat.xor_zero] at this
    · exact Cg.refl _ _
  have h2 : hstep m a b k out = (if 2 ^ m ≤ out * 2 then (out * 2) ^^^ md m else out * 2) ^^^ cl (b / 2 ^ k % 2) a := by
    unfold hstep
    have h : b / 2 ^ k % 2 = 0 ∨ b / 2 ^ k % 2 = 1 := by omega
    rcases h with h | h
    · simp [h, cl_zero]
    · simp [h, cl_one]
  rw [h2]
  exact h1.add (Cg.refl _ _)
theorem pow_xor (k h l : Nat) (hl : l < 2 ^ k) : 2 ^ k * h ^^^ l = 2 ^ k * h + l := by
  apply Nat.eq_of_testBit_eq
  intro i
  rw [Nat.testBit_xor, Nat.testBit_two_pow_mul_add h hl, Nat.testBit_two_pow_mul]
  by_cases hi : i < k
  · simp [hi, show ¬ k ≤ i by omega]
  · have : l.testBit i = false := Nat.testBit_lt_two_pow (Nat.lt_of_lt_of_le hl (Nat.pow_le_pow_right (by decide) (by omega)))
    simp [hi, this, show k ≤ i by omega]
theorem low_split (b k : Nat) : b % 2 ^ (k + 1) = (b / 2 ^ k % 2) * 2 ^ k ^^^ b % 2 ^ k := by
  have h : b % 2 ^ k < 2 ^ k := Nat.mod_lt _ (Nat.two_pow_pos k)
  rw [Nat.mul_comm, pow_xor k _ _ h, Nat.pow_succ, Nat.mod_mul]
  omega
theorem hrun_cg {m a b : Nat} (k : Nat) : ∀ out, Cg m (hrun m a b k out) (cl (2 ^ k) out ^^^ cl (b % 2 ^ k) a) := by
  induction k with
  | zero => intro out; simp [hrun, cl_one, Nat.mod_one, cl_zero]; exact Cg.refl _ _
  | succ k ih =>
    intro out
    refine (ih _).trans ?_
    have h := ((hstep_cg (m := m) (a := a) (b := b) (k := k) (out := out)).mul (2 ^ k)).add (Cg.refl m (cl (b % 2 ^ k) a))
    refine h.trans ?_
    have e : cl (2 ^ k) (2 * out ^^^ cl (b / 2 ^ k % 2) a) ^^^ cl (b % 2 ^ k) a = cl (2 ^ (k + 1)) out ^^^ cl (b % 2 ^ (k + 1)) a := by
      rw [cl_add_right, cl_dbl_right, ← cl_assoc, cl_pow k (b / 2 ^ k % 2), Nat.xor_assoc, ← cl_add_left, ← low_split, ← cl_dbl_left, Nat.pow_succ, Nat.mul_comm (2 ^ k) 2]
    rw [e]
    exact Cg.refl _ _
theorem gmul_cg {m a b : Nat} (hb : b < 2 ^ m) : Cg m (gmul m a b) (cl b a) := by
  have h := hrun_cg (m := m) (a := a) (b := b) m 0
  rwa [cl_right_zero, Nat.zero_xor, Nat.mod_eq_of_lt hb] at h

/-! ### the laws of the field -/
section
variable {m : Nat} (hm : Fm m)
include hm
theorem gmul_comm {a b : Nat} (ha : a < 2 ^ m) (hb : b < 2 ^ m) : gmul m a b = gmul m b a :=
  Cg.uniq hm ((gmul_cg hb).trans (by rw [cl_comm]; exact (gmul_cg ha).symm)) (gmul_lt hm ha) (gmul_lt hm hb)
theorem gmul_assoc {a b c : Nat} (ha : a < 2 ^ m) (hb : b < 2 ^ m) (hc : c < 2 ^ m) : gmul m (gmul m a b) c = gmul m a (gmul m b c) := by
  have hab := gmul_lt (b := b) hm ha
  have hbc := gmul_lt (b := c) hm hb
  refine Cg.uniq hm ?_ (gmul_lt hm hab) (gmul_lt hm ha)
  have h1 : Cg m (gmul m (gmul m a b) c) (cl c (cl b a)) := (gmul_cg hc).trans ((gmul_cg hb).mul c)
  have h2 : Cg m (gmul m a (gmul m b c)) (cl a (cl c b)) := (gmul_cg hbc).trans (by rw [cl_comm]; exact (gmul_cg hc).mul a)
  refine h1.trans (Cg.trans ?_ h2.symm)
  rw [← cl_assoc, cl_comm (cl c b) a]
  exact Cg.refl _ _
theorem gmul_add_left {a a' b : Nat} (ha : a < 2 ^ m) (ha' : a' < 2 ^ m) (hb : b < 2 ^ m) : gmul m (a ^^^ a') b = gmul m a b ^^^ gmul m a' b := by
  refine Cg.uniq hm ?_ (gmul_lt hm (Nat.xor_lt_two_pow ha ha')) (Nat.xor_lt_two_pow (gmul_lt hm ha) (gmul_lt hm ha'))
  refine (gmul_cg hb).trans (Cg.trans ?_ ((gmul_cg hb).add (gmul_cg hb)).symm)
  rw [← cl_add_right]
  exact Cg.refl _ _
theorem gmul_add_right {a b b' : Nat} (ha : a < 2 ^ m) (hb : b < 2 ^ m) (hb' : b' < 2 ^ m) : gmul m a (b ^^^ b') = gmul m a b ^^^ gmul m a b' := by
  rw [gmul_comm hm ha (Nat.xor_lt_two_pow hb hb'), gmul_add_left hm hb hb' ha, gmul_comm hm hb ha, gmul_comm hm hb' ha]
theorem one_lt : 1 < 2 ^ m := by rcases hm with rfl | rfl <;> decide
theorem zero_lt_ : 0 < 2 ^ m := Nat.two_pow_pos m
theorem gmul_one {a : Nat} (ha : a < 2 ^ m) : gmul m a 1 = a :=
  Cg.uniq hm ((gmul_cg (one_lt hm)).trans (by rw [cl_one]; exact Cg.refl _ _)) (gmul_lt hm ha) ha
theorem one_gmul {a : Nat} (ha : a < 2 ^ m) : gmul m 1 a = a := by rw [gmul_comm hm (one_lt hm) ha, gmul_one hm ha]
theorem gmul_zero {a : Nat} (ha : a < 2 ^ m) : gmul m a 0 = 0 :=
  Cg.uniq hm ((gmul_cg (zero_lt_ hm)).trans (by rw [cl_zero]; exact Cg.refl _ _)) (gmul_lt hm ha) (zero_lt_ hm)
theorem zero_gmul {a : Nat} (ha : a < 2 ^ m) : gmul m 0 a = 0 := by rw [gmul_comm hm (zero_lt_ hm) ha, gmul_zero hm ha]
end

/-! ### induction over the bits -/
theorem top_xor_lt {k a b : Nat} (h1 : 2 ^ k ≤ a) (h2 : a < 2 ^ (k + 1)) (h3 : 2 ^ k ≤ b) (h4 : b < 2 ^ (k + 1)) : a ^^^ b < 2 ^ k := by
  have hx : a ^^^ b < 2 ^ (k + 1) := Nat.xor_lt_two_pow h2 h4
  have t : ∀ c, 2 ^ k ≤ c → c < 2 ^ (k + 1) → c.testBit k = true := fun c g1 g2 => by
    rw [Nat.testBit_eq_decide_div_mod_eq]
    have : c / 2 ^ k = 1 := by
      apply Nat.div_eq_of_lt_le <;> (rw [Nat.pow_succ] at g2; omega)
    simp [this]
  rcases Nat.lt_or_ge (a ^^^ b) (2 ^ k) with h | h
  · exact h
  · have := t _ h hx
    rw [Nat.testBit_xor, t a h1 h2, t b h3 h4] at this
    simp at this
theorem bit_ind (P : Nat → Prop) (h0 : P 0) (n : Nat) (hb : ∀ i, i < n → P (2 ^ i)) (hx : ∀ a b, a < 2 ^ n → b < 2 ^ n → P a → P b → P (a ^^^ b)) : ∀ a, a < 2 ^ n → P a := by
  have key : ∀ k, k ≤ n → ∀ a, a < 2 ^ k → P a := by
    intro k
    induction k with
    | zero => intro _ a ha; have : a = 0 := by simp at ha; exact ha
              subst this; exact h0
    | succ k ih =>
      intro hk a ha
      rcases Nat.lt_or_ge a (2 ^ k) with h | h
      · exact ih (by omega) a h
      · have hlt : a ^^^ 2 ^ k < 2 ^ k := top_xor_lt h ha (Nat.le_refl _) (Nat.pow_lt_pow_right (by decide) (by omega))
        have hk1 : (2 : Nat) ^ k < 2 ^ n := Nat.pow_lt_pow_right (by decide) (by omega)
        have := hx (a ^^^ 2 ^ k) (2 ^ k) (by omega) hk1 (ih (by omega) _ hlt) (hb k (by omega))
        rwa [xor_cancel] at this
  exact key n (Nat.le_refl _)

/-! ### powers and inverses -/
def npow (m a : Nat) : Nat → Nat
  | 0 => 1
  | n + 1 => gmul m (npow m a n) a
def sqn (m : Nat) : Nat → Nat → Nat
  | 0, a => a
  | k + 1, a => sqn m k (gmul m a a)
def lin : List Nat → Nat → Nat
  | [], _ => 0
  | t :: l, y => (if y % 2 = 1 then t else 0) ^^^ lin l (y / 2)
theorem lin_add (l : List Nat) : ∀ a b, lin l (a ^^^ b) = lin l a ^^^ lin l b := by
  induction l with
  | nil => intro a b; simp [lin]
  | cons t l ih =>
    intro a b
    simp only [lin]
    rw [xor_div2, ih, xor4, xor_mod2]
    congr 1
    have h1 : a % 2 = 0 ∨ a % 2 = 1 := by omega
    have h2 : b % 2 = 0 ∨ b % 2 = 1 := by omega
    rcases h1 with h1 | h1 <;> rcases h2 with h2 | h2 <;> simp [h1, h2]
theorem lin_zero (l : List Nat) : lin l 0 = 0 := by
  induction l with
  | nil => rfl
  | cons t l ih => simp [lin, ih]
def unroot (m : Nat) : List Nat :=
  if m = 8 then [214, 232, 234, 44, 238, 0, 36, 80] else [350, 42420, 42422, 7412, 42418, 10272, 7420, 1328, 42402, 38610, 10240, 5068, 7356, 0, 1456, 21936]

section
variable {m : Nat} (hm : Fm m)
include hm
theorem npow_lt {a : Nat} (ha : a < 2 ^ m) : ∀ n, npow m a n < 2 ^ m
  | 0 => one_lt hm
  | n + 1 => gmul_lt hm (npow_lt ha n)
theorem sq_add {a b : Nat} (ha : a < 2 ^ m) (hb : b < 2 ^ m) : gmul m (a ^^^ b) (a ^^^ b) = gmul m a a ^^^ gmul m b b := by
  rw [gmul_add_left hm ha hb (Nat.xor_lt_two_pow ha hb), gmul_add_right hm ha ha hb, gmul_add_right hm hb ha hb, gmul_comm hm hb ha]
  rw [Nat.xor_assoc, ← Nat.xor_assoc (gmul m a b), Nat.xor_self, Nat.zero_xor]
theorem sqn_add (k : Nat) : ∀ {a b : Nat}, a < 2 ^ m → b < 2 ^ m → sqn m k (a ^^^ b) = sqn m k a ^^^ sqn m k b := by
  induction k with
  | zero => intro a b _ _; rfl
  | succ k ih => intro a b ha hb; simp only [sqn]; rw [sq_add hm ha hb, ih (gmul_lt hm ha) (gmul_lt hm hb)]
theorem sqn_self {a : Nat} (ha : a < 2 ^ m) : sqn m m a = a := by
  refine bit_ind (fun a => sqn m m a = a) ?_ m ?_ ?_ a ha
  · rcases hm with rfl | rfl <;> decide +kernel
  · rcases hm with rfl | rfl <;> decide +kernel
  · intro a b h1 h2 h3 h4
    rw [sqn_add hm m h1 h2, h3, h4]
theorem unroot_sq {a : Nat} (ha : a < 2 ^ m) : lin (unroot m) (gmul m a a ^^^ a) = a ^^^ a % 2 := by
  refine bit_ind (fun a => lin (unroot m) (gmul m a a ^^^ a) = a ^^^ a % 2) ?_ m ?_ ?_ a ha
  · rcases hm with rfl | rfl <;> decide +kernel
  · rcases hm with rfl | rfl <;> decide +kernel
  · intro a b h1 h2 h3 h4
    rw [sq_add hm h1 h2, xor4, lin_add, h3, h4, xor4]
    congr 1
    rw [xor_mod2]
    have h1 : a % 2 = 0 ∨ a % 2 = 1 := by omega
    have h2 : b % 2 = 0 ∨ b % 2 = 1 := by omega
    rcases h1 with h1 | h1 <;> rcases h2 with h2 | h2 <;> simp [h1, h2]
theorem idem {e : Nat} (he : e < 2 ^ m) (h : gmul m e e = e) : e = 0 ∨ e = 1 := by
  have := unroot_sq hm he
  rw [h, Nat.xor_self, lin_zero] at this
  have := xor_eq_zero_of this.symm
  omega
theorem npow_add {a : Nat} (ha : a < 2 ^ m) (n k : Nat) : npow m a (n + k) = gmul m (npow m a n) (npow m a k) := by
  induction k with
  | zero => simp only [Nat.add_zero, npow]; rw [gmul_one hm (npow_lt hm ha n)]
  | succ k ih => rw [← Nat.add_assoc]; simp only [npow]; rw [ih, gmul_assoc hm (npow_lt hm ha n) (npow_lt hm ha k) ha]
theorem npow_two {a : Nat} (ha : a < 2 ^ m) (n : Nat) : npow m a (2 * n) = npow m (gmul m a a) n := by
  induction n with
  | zero => rfl
  | succ n ih =>
    have e : 2 * (n + 1) = 2 * n + 1 + 1 := by omega
    rw [e]
    simp only [npow]
    rw [ih, gmul_assoc hm (npow_lt hm (gmul_lt hm ha) n) ha ha]
theorem npow_sqn (k : Nat) : ∀ {a : Nat}, a < 2 ^ m → npow m a (2 ^ k) = sqn m k a := by
  induction k with
  | zero => intro a ha; simp only [Nat.pow_zero, npow, sqn]; rw [one_gmul hm ha]
  | succ k ih =>
    intro a ha
    rw [Nat.pow_succ, Nat.mul_comm, npow_two hm ha, ih (gmul_lt hm ha)]
    rfl
theorem npow_full {a : Nat} (ha : a < 2 ^ m) (h0 : a ≠ 0) : npow m a (2 ^ m - 1) = 1 := by
  have hp : 2 ^ m = (2 ^ m - 1) + 1 := by have := Nat.two_pow_pos m; omega
  have h1 : gmul m (npow m a (2 ^ m - 1)) a = a := by
    have := npow_sqn hm m ha
    rw [sqn_self hm ha, hp] at this
    exact this
  have hp2 : 2 ^ m - 1 = (2 ^ m - 2) + 1 := by have := one_lt hm; omega
  have he : gmul m (npow m a (2 ^ m - 1)) (npow m a (2 ^ m - 1)) = npow m a (2 ^ m - 1) := by
    rw [← npow_add hm ha]
    have e : 2 ^ m - 1 + (2 ^ m - 1) = 2 ^ m + (2 ^ m - 2) := by have := one_lt hm; omega
    rw [e, npow_add hm ha, npow_sqn hm m ha, sqn_self hm ha, gmul_comm hm ha (npow_lt hm ha _)]
    conv => rhs; rw [hp2]
    rfl
  rcases idem hm (npow_lt hm ha _) he with h | h
  · rw [h, zero_gmul hm ha] at h1
    exact absurd h1.symm h0
  · exact h
end

/-- The inverse of an element other than 0. -/
def ginv (m a : Nat) : Nat := npow m a (2 ^ m - 2)
section
variable {m : Nat} (hm : Fm m)
include hm
theorem ginv_lt {a : Nat} (ha : a < 2 ^ m) : ginv m a < 2 ^ m := npow_lt hm ha _
theorem ginv_mul {a : Nat} (ha : a < 2 ^ m) (h0 : a ≠ 0) : gmul m (ginv m a) a = 1 := by
  have := npow_full hm ha h0
  have hp2 : 2 ^ m - 1 = (2 ^ m - 2) + 1 := by have := one_lt hm; omega
  rw [hp2] at this
  exact this
theorem mul_ginv {a : Nat} (ha : a < 2 ^ m) (h0 : a ≠ 0) : gmul m a (ginv m a) = 1 := by
  rw [gmul_comm hm ha (ginv_lt hm ha), ginv_mul hm ha h0]
theorem ginv_uniq {a b : Nat} (ha : a < 2 ^ m) (h0 : a ≠ 0) (hb : b < 2 ^ m) (h : gmul m b a = 1) : b = ginv m a := by
  have : gmul m (gmul m b a) (ginv m a) = gmul m b (gmul m a (ginv m a)) := gmul_assoc hm hb ha (ginv_lt hm ha)
  rw [h, mul_ginv hm ha h0, gmul_one hm hb, one_gmul hm (ginv_lt hm ha)] at this
  exact this.symm
theorem gmul_cancel {a b : Nat} (ha : a < 2 ^ m) (hb : b < 2 ^ m) (h0 : a ≠ 0) (h : gmul m a b = 0) : b = 0 := by
  have : gmul m (gmul m (ginv m a) a) b = gmul m (ginv m a) (gmul m a b) := gmul_assoc hm (ginv_lt hm ha) ha hb
  rw [h, ginv_mul hm ha h0, one_gmul hm hb, gmul_zero hm (ginv_lt hm ha)] at this
  exact this
theorem ginv_ne {a : Nat} (ha : a < 2 ^ m) (h0 : a ≠ 0) : ginv m a ≠ 0 := by
  intro h
  have := ginv_mul hm ha h0
  rw [h, zero_gmul hm ha] at this
  exact absurd this (by decide)
end

end Go.Proofs.YtgflflpeilfinaaDoor

/- Euclid's algorithm on polynomials over the field with two elements, as package field runs it. Plain arithmetic, no Go. -/
set_option linter.unusedVariables false
set_option linter.unusedSimpArgs false
set_option linter.unusedSectionVars false
namespace Go.Proofs.YtgflflpeilfinaaDoor

theorem deg1_spec (n : Nat) (h : n ≠ 0) : 0 < deg1 n ∧ 2 ^ (deg1 n - 1) ≤ n ∧ n < 2 ^ deg1 n := by
  induction n using Nat.strongRecOn with
  | _ n ih =>
    rw [deg1_pos n h]
    by_cases h1 : n / 2 = 0
    · rw [h1, deg1_zero]
      have : n = 1 := by omega
      subst this
      decide
    · obtain ⟨a, b, c⟩ := ih (n / 2) (by omega) h1
      have e : deg1 (n / 2) + 1 - 1 = (deg1 (n / 2) - 1) + 1 := by omega
      refine ⟨by omega, ?_, ?_⟩
      · rw [e, Nat.pow_succ]; omega
      · rw [Nat.pow_succ]; omega
theorem lt_deg1 (n : Nat) : n < 2 ^ deg1 n := by
  by_cases h : n = 0
  · subst h; rw [deg1_zero]; decide
  · exact (deg1_spec n h).2.2
theorem deg1_le {n k : Nat} (h : n < 2 ^ k) : deg1 n ≤ k := by
  by_cases h0 : n = 0
  · subst h0; rw [deg1_zero]; omega
  · obtain ⟨a, b, c⟩ := deg1_spec n h0
    rcases Nat.lt_or_ge k (deg1 n) with h1 | h1
    · have : 2 ^ k ≤ 2 ^ (deg1 n - 1) := Nat.pow_le_pow_right (by decide) (by omega)
      omega
    · exact h1
theorem le_deg1 {n k : Nat} (h : 2 ^ k ≤ n) : k < deg1 n := by
  rcases Nat.lt_or_ge k (deg1 n) with h1 | h1
  · exact h1
  · have := lt_deg1 n
    have : 2 ^ deg1 n ≤ 2 ^ k := Nat.pow_le_pow_right (by decide) h1
    omega
/-- The leading bit goes. -/
theorem deg1_xor {a b s : Nat} (ha : a ≠ 0) (hb : b ≠ 0) (h : deg1 b + s = deg1 a) : deg1 (a ^^^ b * 2 ^ s) < deg1 a := by
  obtain ⟨h1, h2, h3⟩ := deg1_spec a ha
  obtain ⟨g1, g2, g3⟩ := deg1_spec b hb
  have e : deg1 a = (deg1 a - 1) + 1 := by omega
  have k1 : 2 ^ (deg1 a - 1) ≤ b * 2 ^ s := by
    have : deg1 a - 1 = (deg1 b - 1) + s := by omega
    rw [this, Nat.pow_add]
    exact Nat.mul_le_mul_right _ g2
  have k2 : b * 2 ^ s < 2 ^ (deg1 a - 1 + 1) := by
    rw [← e, ← h, Nat.pow_add]
    exact Nat.mul_lt_mul_of_pos_right g3 (Nat.two_pow_pos s)
  have := deg1_le (top_xor_lt h2 (by rw [← e]; exact h3) k1 k2)
  omega
theorem deg1_xor_le {a b s k : Nat} (h1 : deg1 a ≤ k) (h2 : deg1 b + s ≤ k) : deg1 (a ^^^ b * 2 ^ s) ≤ k := by
  apply deg1_le
  apply Nat.xor_lt_two_pow
  · exact Nat.lt_of_lt_of_le (lt_deg1 a) (Nat.pow_le_pow_right (by decide) h1)
  · have : b * 2 ^ s < 2 ^ (deg1 b + s) := by
      rw [Nat.pow_add]
      exact Nat.mul_lt_mul_of_pos_right (lt_deg1 b) (Nat.two_pow_pos s)
    exact Nat.lt_of_lt_of_le this (Nat.pow_le_pow_right (by decide) h2)
theorem shift_lt {b s k : Nat} (h : deg1 b + s ≤ k) : b * 2 ^ s < 2 ^ k := by
  have : b * 2 ^ s < 2 ^ (deg1 b + s) := by
    rw [Nat.pow_add]
    exact Nat.mul_lt_mul_of_pos_right (lt_deg1 b) (Nat.two_pow_pos s)
  exact Nat.lt_of_lt_of_le this (Nat.pow_le_pow_right (by decide) h)

theorem md_deg {m : Nat} (hm : Fm m) : deg1 (md m) = m + 1 := by
  obtain ⟨h1, h2⟩ := md_bd hm
  have := le_deg1 h1
  have := deg1_le h2
  omega

theorem cl_eq_one {s u : Nat} (h : cl s u = 1) : u = 1 := by
  by_cases hs : s = 0
  · subst hs; rw [cl_zero] at h; cases h
  · by_cases hu : u = 0
    · subst hu; rw [cl_right_zero] at h; cases h
    · obtain ⟨a, b⟩ := log_bd s hs
      obtain ⟨c, d⟩ := log_bd u hu
      have := (cl_top _ _ _ _ a b c d).1
      rw [h] at this
      have h0 : s.log2 + u.log2 = 0 := by
        rcases Nat.eq_zero_or_pos (s.log2 + u.log2) with h | h
        · exact h
        · have : 2 ^ 1 ≤ 2 ^ (s.log2 + u.log2) := Nat.pow_le_pow_right (by decide) h
          omega
      have : u.log2 = 0 := by omega
      rw [this] at c d
      simp at c d
      omega

/-- What holds at every round of the inversion of a. -/
structure EInv (m a u v x y : Nat) : Prop where
  cx : Cg m (cl x a) u
  cy : Cg m (cl y a) v
  bez : ∃ s t, cl s u ^^^ cl t v = 1
  du : deg1 u ≤ m + 1
  dv : deg1 v ≤ m + 1
  dx : deg1 x + deg1 v ≤ m + 2
  dy : deg1 y + deg1 u ≤ m + 2
def emu (u v : Nat) : Nat := 2 * (deg1 u + deg1 v) + if u = 1 then 0 else 1

theorem EInv.start {m a : Nat} (hm : Fm m) (ha : a < 2 ^ m) (h0 : a ≠ 0) : EInv m a a (md m) 1 0 := by
  have hd := md_deg hm
  have h1 := deg1_le ha
  have e1 : deg1 1 = 1 := by rw [deg1_pos 1 (by decide)]; simp [deg1_zero]
  refine ⟨by rw [cl_one]; exact Cg.refl _ _, by rw [cl_zero]; exact (Cg.of_mod m).symm, ?_, by omega, by omega, by omega, by rw [deg1_zero]; omega⟩
  obtain ⟨t, ht⟩ := gmul_cg (m := m) (a := ginv m a) ha
  rw [ginv_mul hm ha h0] at ht
  refine ⟨ginv m a, t, ?_⟩
  rw [← ht, cl_comm (ginv m a) a, Nat.xor_comm 1, ← Nat.xor_assoc, Nat.xor_self, Nat.zero_xor]
theorem EInv.swap {m a u v x y : Nat} (h : EInv m a u v x y) : EInv m a v u y x :=
  ⟨h.cy, h.cx, by obtain ⟨s, t, e⟩ := h.bez; exact ⟨t, s, by rw [Nat.xor_comm]; exact e⟩, h.dv, h.du, h.dy, h.dx⟩
theorem EInv.step {m a u v x y s : Nat} (h : EInv m a u v x y) (hs : deg1 v + s = deg1 u) : EInv m a (u ^^^ v * 2 ^ s) v (x ^^^ y * 2 ^ s) y := by
  obtain ⟨cx, cy, ⟨p, q, hpq⟩, du, dv, dx, dy⟩ := h
  refine ⟨?_, cy, ?_, Nat.le_trans (deg1_xor_le (Nat.le_refl _) (Nat.le_of_eq hs)) du, dv, ?_, ?_⟩
  · rw [cl_add_left, ← cl_pow s y, ← cl_pow s v, cl_assoc]
    exact cx.add (cy.mul _)
  · refine ⟨p, q ^^^ cl p (2 ^ s), ?_⟩
    rw [cl_add_right, cl_add_left, ← cl_pow s v, ← cl_assoc]
    rw [Nat.xor_assoc, Nat.xor_comm (cl q v), ← Nat.xor_assoc (cl (cl p (2 ^ s)) v), Nat.xor_self, Nat.zero_xor]
    exact hpq
  · have : deg1 (x ^^^ y * 2 ^ s) ≤ m + 2 - deg1 v := deg1_xor_le (by omega) (by omega)
    omega
  · have := deg1_xor_le (a := u) (b := v) (s := s) (Nat.le_refl _) (Nat.le_of_eq hs)
    omega
/-- The measure goes down: u is not 1, and v is not longer than u. -/
theorem EInv.less {m a u v x y s : Nat} (h : EInv m a u v x y) (hu : u ≠ 1) (hs : deg1 v + s = deg1 u) : emu (u ^^^ v * 2 ^ s) v < emu u v := by
  obtain ⟨p, q, hpq⟩ := h.bez
  have hv : v ≠ 0 := by
    intro e
    subst e
    rw [cl_right_zero, Nat.xor_zero] at hpq
    exact hu (cl_eq_one hpq)
  have hu0 : u ≠ 0 := by
    intro e
    subst e
    have := (deg1_spec v hv).1
    rw [deg1_zero] at hs
    omega
  have := deg1_xor hu0 hv hs
  unfold emu
  rw [if_neg hu]
  split <;> omega
/-- The same where u is shorter than v, and the two change places. -/
theorem EInv.less_swap {m a u v x y s : Nat} (h : EInv m a u v x y) (hu : u ≠ 1) (hs : deg1 u + s = deg1 v) : emu (v ^^^ u * 2 ^ s) u < emu u v := by
  obtain ⟨p, q, hpq⟩ := h.bez
  by_cases hu0 : u = 0
  · subst hu0
    rw [cl_right_zero, Nat.zero_xor] at hpq
    have hv := cl_eq_one hpq
    subst hv
    have e1 : deg1 1 = 1 := by rw [deg1_pos 1 (by decide)]; simp [deg1_zero]
    simp [emu, deg1_zero, e1]
  · have hv0 : v ≠ 0 := by
      intro e
      subst e
      have := (deg1_spec u hu0).1
      rw [deg1_zero] at hs
      omega
    have := deg1_xor hv0 hu0 hs
    unfold emu
    rw [if_neg hu]
    split <;> omega
/-- At the end x is the inverse. -/
theorem EInv.done {m a v x y : Nat} (hm : Fm m) (ha : a < 2 ^ m) (h0 : a ≠ 0) (h : EInv m a 1 v x y) : Cg m (ginv m a) x := by
  have h1 : Cg m (cl (ginv m a) (cl x a)) (ginv m a) := by
    have := h.cx.mul (ginv m a)
    rwa [cl_right_one] at this
  have h2 : Cg m (cl x (cl (ginv m a) a)) x := by
    have g : Cg m (cl (ginv m a) a) 1 := by
      have := gmul_cg (m := m) (a := ginv m a) ha
      rw [ginv_mul hm ha h0] at this
      rw [cl_comm]
      exact this.symm
    have := g.mul x
    rwa [cl_right_one] at this
  rw [← cl_assoc, cl_comm (ginv m a) x, cl_assoc] at h1
  exact h1.symm.trans h2

/-- One round of the reduction of a polynomial. -/
theorem red_step {m a s : Nat} (hm : Fm m) (h : m + 1 + s = deg1 a) : Cg m (a ^^^ md m * 2 ^ s) a ∧ deg1 (a ^^^ md m * 2 ^ s) < deg1 a := by
  have ha : a ≠ 0 := by
    intro e; subst e; rw [deg1_zero] at h; omega
  have hp : md m ≠ 0 := by have := (md_bd hm).1; have := Nat.two_pow_pos m; omega
  refine ⟨?_, deg1_xor ha hp (by rw [md_deg hm]; exact h)⟩
  refine ⟨2 ^ s, ?_⟩
  rw [cl_pow, Nat.xor_comm a, Nat.xor_assoc, Nat.xor_self, Nat.xor_zero]

end Go.Proofs.YtgflflpeilfinaaDoor
