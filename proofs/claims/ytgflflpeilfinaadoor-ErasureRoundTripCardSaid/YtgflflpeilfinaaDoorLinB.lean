/- The reduction of a matrix: its pivots are the columns that are no combinations of earlier columns. No Go here. -/
import Derived.Test.YtgflflpeilfinaaDoorLinA
import Derived.Test.YtgflflpeilfinaaDoorRedP
set_option linter.unusedVariables false
set_option linter.unusedSimpArgs false
set_option linter.unusedSectionVars false
namespace Go.Proofs.YtgflflpeilfinaaDoor

theorem pivRow_some_of {R : Nat} {A : Nat → Nat → Nat} {j r i : Nat} (h : pivRow R A j r = some i) : r ≤ i ∧ i < R ∧ A i j ≠ 0 := by
  unfold pivRow at h
  have h1 := List.find?_some h
  have h2 := List.mem_of_find?_eq_some h
  rw [List.mem_range] at h2
  simp only [Bool.and_eq_true, decide_eq_true_eq] at h1
  exact ⟨h1.1, h2, h1.2⟩
theorem pivRow_none_of {R : Nat} {A : Nat → Nat → Nat} {j r : Nat} (h : pivRow R A j r = none) : ∀ p, r ≤ p → p < R → A p j = 0 := by
  unfold pivRow at h
  rw [List.find?_eq_none] at h
  intro p h1 h2
  have := h p (List.mem_range.2 h2)
  simp only [Bool.and_eq_true, decide_eq_true_eq, not_and] at this
  exact Classical.byContradiction fun h3 => this h1 h3

/-- The sum of row p, with coefficients x, over the columns in l. -/
def rsum (m : Nat) (A : Nat → Nat → Nat) (l : List Nat) (x : Nat → Nat) (p : Nat) : Nat := lsum l fun q => mu m (x q) (A p q)

section
variable {m : Nat} (hm : Fm m)
include hm
theorem ker_swap {R : Nat} {A : Nat → Nat → Nat} {i r : Nat} (hi : i < R) (hr : r < R) (l : List Nat) (x : Nat → Nat) :
    (∀ p, p < R → rsum m (swapM A i r) l x p = 0) ↔ (∀ p, p < R → rsum m A l x p = 0) := by
  have e : ∀ p, rsum m (swapM A i r) l x p = rsum m A l x (if p = i then r else if p = r then i else p) := fun p => by
    unfold rsum swapM
    by_cases h1 : p = i
    · simp only [if_pos h1]
    · by_cases h2 : p = r
      · simp only [if_neg h1, if_pos h2]
      · simp only [if_neg h1, if_neg h2]
  constructor
  · intro h p hp
    by_cases h1 : p = i
    · subst h1
      have := h r hr
      rw [e] at this
      by_cases h2 : r = p
      · rw [if_pos h2] at this; rwa [h2] at this
      · rwa [if_neg h2, if_pos rfl] at this
    · by_cases h2 : p = r
      · have := h i hi
        rw [e, if_pos rfl] at this
        rwa [h2]
      · have := h p hp
        rwa [e, if_neg h1, if_neg h2] at this
  · intro h p hp
    rw [e]
    split
    · exact h r hr
    · split
      · exact h i hi
      · exact h p hp
theorem ker_scale {R N : Nat} {A : Nat → Nat → Nat} (hA : Bd m R N A) {r f : Nat} (hr : r < R) (hf : f < 2 ^ m) (h0 : f ≠ 0) (l : List Nat) (hl : ∀ u ∈ l, u < N) (x : Nat → Nat) :
    (∀ p, p < R → rsum m (scaleM m A r f) l x p = 0) ↔ (∀ p, p < R → rsum m A l x p = 0) := by
  have e1 : rsum m (scaleM m A r f) l x r = mu m f (rsum m A l x r) := by
    unfold rsum scaleM
    rw [lsum_mu hm]
    refine lsum_congr fun q hq => ?_
    rw [if_pos rfl, ← mu_eq hm hf (hA r q hr (hl q hq)), ← mu_assoc hm, ← mu_assoc hm, mu_comm hm f]
  have e2 : ∀ p, p ≠ r → rsum m (scaleM m A r f) l x p = rsum m A l x p := fun p hp => by
    unfold rsum scaleM
    simp only [if_neg hp]
  have hlt : rsum m A l x r < 2 ^ m := lsum_lt hm fun q _ => mu_lt hm _ _
  constructor
  · intro h p hp
    by_cases h1 : p = r
    · subst h1
      have := h p hp
      rw [e1] at this
      have := mu_cancel hm (by rw [Nat.mod_eq_of_lt hf]; exact h0) this
      rwa [Nat.mod_eq_of_lt hlt] at this
    · have := h p hp
      rwa [e2 p h1] at this
  · intro h p hp
    by_cases h1 : p = r
    · subst h1
      rw [e1, h p hp, mu_zero hm]
    · rw [e2 p h1]; exact h p hp
theorem ker_elim {R N : Nat} {A : Nat → Nat → Nat} (hA : Bd m R N A) {r j : Nat} (hr : r < R) (hj : j < N) (l : List Nat) (hl : ∀ u ∈ l, u < N) (x : Nat → Nat) :
    (∀ p, p < R → rsum m (elimM m A r j) l x p = 0) ↔ (∀ p, p < R → rsum m A l x p = 0) := by
  have e1 : rsum m (elimM m A r j) l x r = rsum m A l x r := by
    unfold rsum elimM
    simp
  have e2 : ∀ p, p < R → p ≠ r → rsum m (elimM m A r j) l x p = rsum m A l x p ^^^ mu m (A p j) (rsum m A l x r) := fun p hpR hp => by
    unfold rsum elimM
    rw [lsum_mu hm, ← lsum_add]
    refine lsum_congr fun q hq => ?_
    rw [if_pos hp, mu_add_right hm, ← mu_eq hm (hA p j hpR hj) (hA r q hr (hl q hq)), ← mu_assoc hm, ← mu_assoc hm, mu_comm hm (A p j)]
  constructor
  · intro h p hp
    have h0 := h r hr
    rw [e1] at h0
    by_cases h1 : p = r
    · subst h1; exact h0
    · have := h p hp
      rwa [e2 p hp h1, h0, mu_zero hm, Nat.xor_zero] at this
  · intro h p hp
    by_cases h1 : p = r
    · subst h1; rw [e1]; exact h p hp
    · rw [e2 p hp h1, h p hp, h r hr, mu_zero hm]; rfl
end

/-- What holds when the columns before j are done. -/
structure RInv (m R N j : Nat) (A B : Nat → Nat → Nat) (ps : List Nat) : Prop where
  bd : Bd m R N B
  ker : ∀ (l : List Nat) (x : Nat → Nat), (∀ u ∈ l, u < N) → ((∀ p, p < R → rsum m B l x p = 0) ↔ (∀ p, p < R → rsum m A l x p = 0))
  len : ps.length ≤ R
  piv : ∀ i (h : i < ps.length), ∀ p, p < R → B p ps[i] = if p = i then 1 else 0
  non : ∀ q, q < j → q ∉ ps → ∀ p, p < R → B p q ≠ 0 → ∃ h : p < ps.length, ps[p] < q
  inc : ps.Pairwise (· < ·)
  lt : ∀ q ∈ ps, q < j

section
variable {m : Nat} (hm : Fm m)
include hm
theorem RInv.step {R N j : Nat} {A B : Nat → Nat → Nat} {ps : List Nat} {i : Nat} (h : RInv m R N j A B ps) (hj : j < N) (hp : pivRow R B j ps.length = some i) : RInv m R N (j + 1) A (stepM m B j ps.length i) (ps ++ [j]) := by
  obtain ⟨h1, h2, h3⟩ := pivRow_some_of hp
  have hr : ps.length < R := by omega
  obtain ⟨r, er⟩ : ∃ r, r = ps.length := ⟨_, rfl⟩
  rw [← er] at h1 hr ⊢
  have hB1 := Bd.swap hm h.bd h2 hr
  have hx : swapM B i r r j = B i j := by
    unfold swapM
    by_cases e : r = i
    · rw [if_pos e, e]
    · rw [if_neg e, if_pos rfl]
  have hxl := h.bd i j h2 hj
  have hfl := ginv_lt hm hxl
  have hB2 := Bd.scale hm hB1 (r := r) hfl
  have hB3 := Bd.step hm h.bd h2 hr hj
  -- the columns before j of the rows from r on
  have hz : ∀ p q, r ≤ p → p < R → q < j → B p q = 0 := by
    intro p q hpr hpR hq
    by_cases hqp : q ∈ ps
    · obtain ⟨k, hk, rfl⟩ := List.mem_iff_getElem.1 hqp
      rw [h.piv k hk p hpR, if_neg (by omega)]
    · exact Classical.byContradiction fun hne => by
        obtain ⟨hlt, _⟩ := h.non q hq hqp p hpR hne
        omega
  -- the columns before j stay
  have hold : ∀ p q, p < R → q < j → stepM m B j r i p q = B p q := by
    intro p q hpR hq
    have hrq : swapM B i r r q = 0 := by
      unfold swapM
      by_cases e : r = i
      · rw [if_pos e]; exact hz r q (Nat.le_refl _) hr hq
      · rw [if_neg e, if_pos rfl]; exact hz i q h1 h2 hq
    have hsw : swapM B i r p q = B p q := by
      unfold swapM
      split
      · rename_i e; rw [e, hz r q (Nat.le_refl _) hr hq, hz i q h1 h2 hq]
      · split
        · rename_i e; rw [e, hz r q (Nat.le_refl _) hr hq, hz i q h1 h2 hq]
        · rfl
    unfold stepM elimM scaleM
    by_cases e : p = r
    · subst e
      simp only [ne_eq, not_true, if_false, if_true]
      rw [hrq, gmul_zero hm (by rw [hx]; exact hfl), ← hsw, hrq]
    · simp only [ne_eq, e, not_false_iff, if_true, if_false]
      rw [hrq, gmul_zero hm (by rw [hx]; exact hfl), gmul_zero hm (hB1 p j hpR hj), Nat.xor_zero, hsw]
  have hnew : ∀ p, p < R → stepM m B j r i p j = if p = r then 1 else 0 := by
    intro p hpR
    unfold stepM elimM scaleM
    have hg : gmul m (ginv m (swapM B i r r j)) (swapM B i r r j) = 1 := by rw [hx]; exact ginv_mul hm hxl h3
    by_cases e : p = r
    · subst e
      simp only [ne_eq, not_true, if_false, if_true]
      exact hg
    · simp only [ne_eq, e, not_false_iff, if_true, if_false]
      rw [hg, gmul_one hm (hB1 p j hpR hj), Nat.xor_self]
  refine ⟨hB3, fun l x hl => ?_, by simp; omega, fun k hk p hpR => ?_, fun q hq hqp p hpR hne => ?_, ?_, fun q hq => ?_⟩
  · unfold stepM
    have hfx := ginv_ne hm hxl h3
    rw [ker_elim hm (by rw [hx]; exact hB2) hr hj l hl x, ker_scale hm hB1 hr (by rw [hx]; exact hfl) (by rw [hx]; exact hfx) l hl x, ker_swap hm h2 hr l x]
    exact h.ker l x hl
  · rw [List.length_append] at hk
    by_cases hkl : k < ps.length
    · rw [List.getElem_append_left hkl, hold p _ hpR (h.lt _ (List.getElem_mem _)), h.piv k hkl p hpR]
    · have : k = r := by simp at hk; omega
      subst this
      rw [List.getElem_append_right (by omega)]
      simp only [List.getElem_singleton]
      exact hnew p hpR
  · have hqj : q < j := by
      have : q ≠ j := fun e => hqp (by simp [e])
      omega
    rw [hold p q hpR hqj] at hne
    obtain ⟨hlt, hh⟩ := h.non q hqj (fun hm => hqp (by simp [hm])) p hpR hne
    exact ⟨by simp; omega, by rw [List.getElem_append_left hlt]; exact hh⟩
  · rw [List.pairwise_append]
    refine ⟨h.inc, by simp, fun a ha b hb => ?_⟩
    have hb' : b = j := by simpa using hb
    subst hb'
    exact h.lt a ha
  · rw [List.mem_append] at hq
    rcases hq with hq | hq
    · have := h.lt q hq; omega
    · have : q = j := by simpa using hq
      omega
theorem RInv.skip {R N j : Nat} {A B : Nat → Nat → Nat} {ps : List Nat} (h : RInv m R N j A B ps) (hp : pivRow R B j ps.length = none) : RInv m R N (j + 1) A B ps := by
  have h0 := pivRow_none_of hp
  refine ⟨h.bd, h.ker, h.len, h.piv, fun q hq hqp p hpR hne => ?_, h.inc, fun q hq => by have := h.lt q hq; omega⟩
  by_cases hqj : q < j
  · exact h.non q hqj hqp p hpR hne
  · have : q = j := by omega
    subst this
    have hlt : p < ps.length := by
      rcases Nat.lt_or_ge p ps.length with h | h
      · exact h
      · exact absurd (h0 p h hpR) hne
    exact ⟨hlt, h.lt _ (List.getElem_mem _)⟩
theorem redTo_inv {R N : Nat} {A : Nat → Nat → Nat} (hA : Bd m R N A) : ∀ j, j ≤ N → RInv m R N j A (redTo m R A j).1 (redTo m R A j).2
  | 0, _ => ⟨hA, fun l x hl => Iff.rfl, Nat.zero_le _, fun i hi => by simp [redTo] at hi, fun q hq => by omega, by simp [redTo], fun q hq => by simp [redTo] at hq⟩
  | j + 1, hj => by
    have ih := redTo_inv hA j (by omega)
    cases hp : pivRow R (redTo m R A j).1 j (redTo m R A j).2.length with
    | none =>
      have := ih.skip hm hp
      simpa only [redTo, hp] using this
    | some i =>
      have := ih.step hm (by omega) hp
      simpa only [redTo, hp] using this

/-- The independent rows. -/
theorem indep_facts {N C : Nat} {P : Nat → Nat → Nat} (hP : ∀ p q, p < N → q < C → P p q < 2 ^ m) {ps : List Nat} (hps : ps = (redTo m C (fun p q => P q p) N).2) : IsBasis m C P (List.range N) ps := by
  have hI := redTo_inv (R := C) (N := N) (A := fun p q => P q p) hm (fun p q hp hq => hP q p hq hp) N (Nat.le_refl _)
  obtain ⟨B, hB⟩ : ∃ B, B = (redTo m C (fun p q => P q p) N).1 := ⟨_, rfl⟩
  rw [← hps, ← hB] at hI
  have hn := inc_nodup hm hI.inc
  refine ⟨fun u hu => List.mem_range.2 (hI.lt u hu), hI.inc, fun x hx u hu => ?_, fun v hv hvp => ?_⟩
  · obtain ⟨i, hi, rfl⟩ := List.mem_iff_getElem.1 hu
    have h1 := (hI.ker ps x hI.lt).2 hx i (by have := hI.len; omega)
    unfold rsum at h1
    rw [lsum_one hn hu (fun q hq hne => ?_)] at h1
    · rw [hI.piv i hi i (by have := hI.len; omega), if_pos rfl, mu_one_mod hm] at h1
      exact h1
    · obtain ⟨k, hk, rfl⟩ := List.mem_iff_getElem.1 hq
      rw [hI.piv k hk i (by have := hI.len; omega), if_neg (fun e => hne (by subst e; rfl)), mu_zero hm]
  · have hvN : v < N := List.mem_range.1 hv
    obtain ⟨l, hl⟩ : ∃ l, l = ps.filter fun x => decide (x < v) := ⟨_, rfl⟩
    rw [← hl]
    have hln : l.Nodup := by rw [hl]; exact filter_nodup hm hn _
    have hlm : ∀ u, u ∈ l ↔ u ∈ ps ∧ u < v := fun u => by rw [hl, List.mem_filter, decide_eq_true_eq]
    have hvl : v ∉ l := fun h => by have := (hlm v).1 h; omega
    have hlN : ∀ u ∈ v :: l, u < N := by
      intro u hu
      rcases List.mem_cons.1 hu with rfl | hu
      · exact hvN
      · have := (hlm u).1 hu; omega
    refine ⟨fun u => B (ps.idxOf u) v, fun q hq => ?_⟩
    have key := (hI.ker (v :: l) (fun u => if u = v then 1 else B (ps.idxOf u) v) hlN).1 (fun p hp => ?_) q hq
    · unfold rsum at key
      rw [lsum_cons] at key
      simp only [if_true] at key
      rw [one_mu hm (hP v q hvN hq)] at key
      rw [xor_eq_zero_of key]
      exact lsum_congr fun u hu => by simp only [if_neg (show u ≠ v by have := (hlm u).1 hu; omega)]
    · unfold rsum
      rw [lsum_cons]
      simp only [if_true]
      rw [one_mu hm (hI.bd p v hp hvN)]
      have hs : (lsum l fun u => mu m (if u = v then 1 else B (ps.idxOf u) v) (B p u)) = B p v := by
        by_cases hne : B p v = 0
        · rw [hne]
          refine lsum_zero fun u hu => ?_
          obtain ⟨hu1, hu2⟩ := (hlm u).1 hu
          obtain ⟨k, hk, rfl⟩ := List.mem_iff_getElem.1 hu1
          rw [if_neg (by omega), hI.piv k hk p hp]
          by_cases e : p = k
          · subst e
            rw [if_pos rfl, List.Nodup.idxOf_getElem hn, hne, zero_mu hm]
          · rw [if_neg e, mu_zero hm]
        · obtain ⟨hlt, hlt2⟩ := hI.non v hvN hvp p hp hne
          have hmem : ps[p] ∈ l := (hlm _).2 ⟨List.getElem_mem _, hlt2⟩
          rw [lsum_one hln hmem (fun u hu hne2 => ?_)]
          · rw [if_neg (by omega), List.Nodup.idxOf_getElem hn, hI.piv p hlt p hp, if_pos rfl, mu_one hm (hI.bd p v hp hvN)]
          · obtain ⟨hu1, hu2⟩ := (hlm u).1 hu
            obtain ⟨k, hk, rfl⟩ := List.mem_iff_getElem.1 hu1
            have hpk : ¬ p = k := fun e => hne2 (by subst e; rfl)
            rw [hI.piv k hk p hp]
            simp only [if_neg hpk]
            exact mu_zero hm _
      rw [hs, Nat.xor_self]
theorem redTo_len {R N : Nat} {A : Nat → Nat → Nat} (hA : Bd m R N A) : (redTo m R A N).2.length ≤ R := (redTo_inv hm hA N (Nat.le_refl _)).len

/-- The same for a selection of rows. -/
theorem basis_sel {C : Nat} {G : Nat → Nat → Nat} {pres : List Nat} (hinc : pres.Pairwise (· < ·)) (hG : ∀ u ∈ pres, ∀ q, q < C → G u q < 2 ^ m) {ps : List Nat} (h : IsBasis m C (fun i => G (pres.getD i 0)) (List.range pres.length) ps) :
    IsBasis m C G pres (ps.map fun i => pres.getD i 0) := by
  have hd : ∀ i (hi : i < pres.length), pres.getD i 0 = pres[i] := fun i hi => by simp [hi]
  have hlt : ∀ i ∈ ps, i < pres.length := fun i hi => List.mem_range.1 (h.sub i hi)
  have hmono : ∀ i j, i < j → (hj : j < pres.length) → pres.getD i 0 < pres.getD j 0 := fun i j hij hj => by
    rw [hd i (by omega), hd j hj]
    exact List.pairwise_iff_getElem.1 hinc i j (by omega) hj hij
  have hnp := inc_nodup hm hinc
  refine ⟨fun u hu => ?_, ?_, fun x hx u hu => ?_, fun u hu hub => ?_⟩
  · obtain ⟨i, hi, rfl⟩ := List.mem_map.1 hu
    rw [hd i (hlt i hi)]
    exact List.getElem_mem _
  · rw [List.pairwise_map]
    exact List.Pairwise.imp_of_mem (fun ha hb hab => hmono _ _ hab (hlt _ hb)) h.inc
  · obtain ⟨i, hi, rfl⟩ := List.mem_map.1 hu
    refine h.ind (fun i => x (pres.getD i 0)) (fun q hq => ?_) i hi
    have := hx q hq
    rwa [lsum_map] at this
  · obtain ⟨i, hi, rfl⟩ := List.mem_iff_getElem.1 hu
    have hip : i ∉ ps := fun hh => hub (by rw [← hd i hi]; exact List.mem_map_of_mem hh)
    obtain ⟨x, hx⟩ := h.spn i (List.mem_range.2 hi) hip
    refine ⟨fun u => x (pres.idxOf u), fun q hq => ?_⟩
    have h1 := hx q hq
    simp only [hd i hi] at h1
    rw [h1, List.filter_map, lsum_map]
    have hf : (ps.filter ((fun x => decide (x < pres[i])) ∘ fun i => pres.getD i 0)) = ps.filter fun x => decide (x < i) := by
      refine List.filter_congr fun k hk => ?_
      rw [Bool.eq_iff_iff]
      simp only [Function.comp, decide_eq_true_eq]
      constructor
      · intro hh
        rcases Nat.lt_trichotomy k i with h | h | h
        · exact h
        · subst h; rw [hd k hi] at hh; omega
        · have := hmono i k h (hlt k hk); rw [hd i hi] at this; omega
      · intro hh
        have := hmono k i hh hi
        rwa [hd i hi] at this
    rw [hf]
    refine lsum_congr fun k hk => ?_
    have hk' := hlt k (List.mem_filter.1 hk).1
    simp only [hd k hk', List.Nodup.idxOf_getElem hnp]
end

end Go.Proofs.YtgflflpeilfinaaDoor
