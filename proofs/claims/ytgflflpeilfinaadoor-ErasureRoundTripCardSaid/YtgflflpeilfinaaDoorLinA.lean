/- Linear algebra over the fields with 2^8 and 2^16 elements: sums over lists of indices, spans, independence, dimension. No Go here. -/
import Derived.Test.YtgflflpeilfinaaDoorGfE
set_option linter.unusedVariables false
set_option linter.unusedSimpArgs false
set_option linter.unusedSectionVars false
namespace Go.Proofs.YtgflflpeilfinaaDoor

/-- The product, whatever the operands. -/
def mu (m a b : Nat) : Nat := gmul m (a % 2 ^ m) (b % 2 ^ m)
theorem modlt (m a : Nat) : a % 2 ^ m < 2 ^ m := Nat.mod_lt _ (Nat.two_pow_pos m)

/-- The sum of the values of f at a list of indices. -/
def lsum (l : List Nat) (f : Nat → Nat) : Nat := l.foldr (fun i s => f i ^^^ s) 0
theorem lsum_nil (f : Nat → Nat) : lsum [] f = 0 := rfl
theorem lsum_cons (a : Nat) (l : List Nat) (f : Nat → Nat) : lsum (a :: l) f = f a ^^^ lsum l f := rfl
theorem lsum_congr {l : List Nat} {f g : Nat → Nat} (h : ∀ i ∈ l, f i = g i) : lsum l f = lsum l g := by
  induction l with
  | nil => rfl
  | cons a l ih => rw [lsum_cons, lsum_cons, h a (by simp), ih fun i hi => h i (by simp [hi])]
theorem lsum_zero {l : List Nat} {f : Nat → Nat} (h : ∀ i ∈ l, f i = 0) : lsum l f = 0 := by
  induction l with
  | nil => rfl
  | cons a l ih => rw [lsum_cons, h a (by simp), ih fun i hi => h i (by simp [hi])]; rfl
theorem lsum_add (l : List Nat) (f g : Nat → Nat) : lsum l (fun i => f i ^^^ g i) = lsum l f ^^^ lsum l g := by
  induction l with
  | nil => simp [lsum_nil]
  | cons a l ih => rw [lsum_cons, lsum_cons, lsum_cons, ih, xor4]
theorem lsum_append (l k : List Nat) (f : Nat → Nat) : lsum (l ++ k) f = lsum l f ^^^ lsum k f := by
  induction l with
  | nil => simp [lsum_nil]
  | cons a l ih => rw [List.cons_append, lsum_cons, lsum_cons, ih, Nat.xor_assoc]
theorem lsum_map (l : List Nat) (g : Nat → Nat) (f : Nat → Nat) : lsum (l.map g) f = lsum l fun i => f (g i) := by
  induction l with
  | nil => rfl
  | cons a l ih => rw [List.map_cons, lsum_cons, lsum_cons, ih]
theorem lsum_comm (l k : List Nat) (f : Nat → Nat → Nat) : lsum l (fun i => lsum k (f i)) = lsum k fun j => lsum l fun i => f i j := by
  induction l with
  | nil => exact (lsum_zero (fun _ _ => rfl)).symm
  | cons a l ih =>
    rw [lsum_cons, ih, ← lsum_add]
    rfl
theorem lsum_erase {l : List Nat} {a : Nat} (h : a ∈ l) (f : Nat → Nat) : lsum l f = f a ^^^ lsum (l.erase a) f := by
  induction l with
  | nil => simp at h
  | cons b l ih =>
    by_cases e : b = a
    · subst e; rw [List.erase_cons_head]; rfl
    · have h' : a ∈ l := by
        rcases List.mem_cons.1 h with h | h
        · exact absurd h.symm e
        · exact h
      rw [List.erase_cons_tail (by simpa using e), lsum_cons, lsum_cons, ih h', ← Nat.xor_assoc, ← Nat.xor_assoc, Nat.xor_comm (f b)]
theorem lsum_support {f : Nat → Nat} : ∀ {s l : List Nat}, s.Nodup → l.Nodup → (∀ i ∈ s, i ∈ l) → (∀ i ∈ l, i ∉ s → f i = 0) → lsum l f = lsum s f
  | [], l, _, _, _, h => lsum_zero fun i hi => h i hi (by simp)
  | a :: s, l, hs, hl, hsub, h => by
    rw [lsum_erase (hsub a (by simp)) f, lsum_cons]
    congr 1
    have hs' := List.nodup_cons.1 hs
    refine lsum_support hs'.2 (hl.erase a) (fun i hi => ?_) (fun i hi hn => ?_)
    · have hne : i ≠ a := fun e => hs'.1 (e ▸ hi)
      exact (List.mem_erase_of_ne hne).2 (hsub i (by simp [hi]))
    · have h1 := (List.Nodup.mem_erase_iff hl).1 hi
      exact h i h1.2 (by simp [h1.1, hn])
theorem lsum_one {f : Nat → Nat} {l : List Nat} (hl : l.Nodup) {a : Nat} (ha : a ∈ l) (h : ∀ i ∈ l, i ≠ a → f i = 0) : lsum l f = f a := by
  rw [lsum_support (s := [a]) (by simp) hl (by simpa using ha) (fun i hi hn => h i hi (by simpa using hn))]
  simp [lsum_cons, lsum_nil]

section
variable {m : Nat} (hm : Fm m)
include hm
theorem mu_lt (a b : Nat) : mu m a b < 2 ^ m := gmul_lt hm (modlt m a)
theorem mu_eq {a b : Nat} (ha : a < 2 ^ m) (hb : b < 2 ^ m) : mu m a b = gmul m a b := by rw [mu, Nat.mod_eq_of_lt ha, Nat.mod_eq_of_lt hb]
theorem mu_comm (a b : Nat) : mu m a b = mu m b a := gmul_comm hm (modlt m a) (modlt m b)
theorem mu_assoc (a b c : Nat) : mu m (mu m a b) c = mu m a (mu m b c) := by
  unfold mu
  rw [Nat.mod_eq_of_lt (gmul_lt hm (modlt m a)), Nat.mod_eq_of_lt (gmul_lt hm (modlt m b))]
  exact gmul_assoc hm (modlt m a) (modlt m b) (modlt m c)
theorem mu_add_left (a a' b : Nat) : mu m (a ^^^ a') b = mu m a b ^^^ mu m a' b := by
  unfold mu
  rw [Nat.xor_mod_two_pow]
  exact gmul_add_left hm (modlt m a) (modlt m a') (modlt m b)
theorem mu_add_right (a b b' : Nat) : mu m a (b ^^^ b') = mu m a b ^^^ mu m a b' := by
  rw [mu_comm hm a, mu_add_left hm, mu_comm hm b, mu_comm hm b']
theorem mu_zero_of {a b : Nat} (h : b % 2 ^ m = 0) : mu m a b = 0 := by unfold mu; rw [h]; exact gmul_zero hm (modlt m a)
theorem zero_mu_of {a b : Nat} (h : a % 2 ^ m = 0) : mu m a b = 0 := by rw [mu_comm hm]; exact mu_zero_of hm h
theorem mu_zero (a : Nat) : mu m a 0 = 0 := mu_zero_of hm (by simp)
theorem zero_mu (a : Nat) : mu m 0 a = 0 := zero_mu_of hm (by simp)
theorem one_mod : 1 % 2 ^ m = 1 := Nat.mod_eq_of_lt (one_lt hm)
theorem mu_one_mod (a : Nat) : mu m a 1 = a % 2 ^ m := by unfold mu; rw [one_mod hm]; exact gmul_one hm (modlt m a)
theorem one_mu_mod (a : Nat) : mu m 1 a = a % 2 ^ m := by rw [mu_comm hm]; exact mu_one_mod hm a
theorem mu_one {a : Nat} (ha : a < 2 ^ m) : mu m a 1 = a := by rw [mu_one_mod hm, Nat.mod_eq_of_lt ha]
theorem one_mu {a : Nat} (ha : a < 2 ^ m) : mu m 1 a = a := by rw [mu_comm hm]; exact mu_one hm ha
theorem mu_mod_right (a b : Nat) : mu m a (b % 2 ^ m) = mu m a b := by unfold mu; rw [Nat.mod_mod]
theorem mu_mod_left (a b : Nat) : mu m (a % 2 ^ m) b = mu m a b := by unfold mu; rw [Nat.mod_mod]
theorem inv_mu {a : Nat} (h : a % 2 ^ m ≠ 0) : mu m (ginv m (a % 2 ^ m)) a = 1 := by
  unfold mu
  rw [Nat.mod_eq_of_lt (ginv_lt hm (modlt m a))]
  exact ginv_mul hm (modlt m a) h
theorem mu_cancel {a b : Nat} (h : a % 2 ^ m ≠ 0) (h0 : mu m a b = 0) : b % 2 ^ m = 0 := by
  have : mu m (mu m (ginv m (a % 2 ^ m)) a) b = 0 := by rw [mu_assoc hm, h0, mu_zero hm]
  rwa [inv_mu hm h, one_mu_mod hm] at this
theorem lsum_lt {l : List Nat} {f : Nat → Nat} (h : ∀ i ∈ l, f i < 2 ^ m) : lsum l f < 2 ^ m := by
  induction l with
  | nil => exact zero_lt_ hm
  | cons a l ih => rw [lsum_cons]; exact Nat.xor_lt_two_pow (h a (by simp)) (ih fun i hi => h i (by simp [hi]))
theorem lsum_mu (c : Nat) (l : List Nat) (f : Nat → Nat) : mu m c (lsum l f) = lsum l fun i => mu m c (f i) := by
  induction l with
  | nil => exact mu_zero hm c
  | cons a l ih => rw [lsum_cons, lsum_cons, mu_add_right hm, ih]
theorem mu_lsum (c : Nat) (l : List Nat) (f : Nat → Nat) : mu m (lsum l f) c = lsum l fun i => mu m (f i) c := by
  rw [mu_comm hm, lsum_mu hm]
  exact lsum_congr fun i _ => mu_comm hm _ _
end

/-- t is the sum of the rows of G that l lists, with coefficients x. -/
def Cmb (m C : Nat) (G : Nat → Nat → Nat) (l : List Nat) (x t : Nat → Nat) : Prop := ∀ q, q < C → t q = lsum l fun u => mu m (x u) (G u q)
def Spn (m C : Nat) (G : Nat → Nat → Nat) (l : List Nat) (t : Nat → Nat) : Prop := ∃ x, Cmb m C G l x t
def Ind (m C : Nat) (G : Nat → Nat → Nat) (l : List Nat) : Prop := ∀ x : Nat → Nat, (∀ q, q < C → lsum l (fun u => mu m (x u) (G u q)) = 0) → ∀ u ∈ l, x u % 2 ^ m = 0

section
variable {m C : Nat} {G H : Nat → Nat → Nat} (hm : Fm m)
include hm
theorem Spn.trans {l k : List Nat} {t : Nat → Nat} (h : Spn m C G l t) (hk : ∀ u ∈ l, Spn m C H k (G u)) : Spn m C H k t := by
  obtain ⟨x, hx⟩ := h
  have hc : ∀ u, ∃ c : Nat → Nat, u ∈ l → Cmb m C H k c (G u) := fun u => by
    by_cases hu : u ∈ l
    · obtain ⟨c, hc⟩ := hk u hu; exact ⟨c, fun _ => hc⟩
    · exact ⟨fun _ => 0, fun h => absurd h hu⟩
  obtain ⟨c, hc⟩ := Classical.axiomOfChoice hc
  refine ⟨fun v => lsum l fun u => mu m (x u) (c u v), fun q hq => ?_⟩
  rw [hx q hq]
  have h1 : (lsum l fun u => mu m (x u) (G u q)) = lsum l fun u => lsum k fun v => mu m (mu m (x u) (c u v)) (H v q) := by
    refine lsum_congr fun u hu => ?_
    rw [hc u hu q hq, lsum_mu hm]
    exact lsum_congr fun v _ => (mu_assoc hm _ _ _).symm
  rw [h1, lsum_comm]
  exact lsum_congr fun v _ => (mu_lsum hm _ _ _).symm
theorem Spn.self {l : List Nat} (hl : l.Nodup) {u : Nat} (hu : u ∈ l) (hb : ∀ q, q < C → G u q < 2 ^ m) : Spn m C G l (G u) := by
  refine ⟨fun v => if v = u then 1 else 0, fun q hq => ?_⟩
  rw [lsum_one hl hu (fun i _ hne => by simp only [if_neg hne]; exact zero_mu hm _)]
  simp only [if_true]
  rw [one_mu hm (hb q hq)]
theorem Spn.mono {l k : List Nat} {t : Nat → Nat} (h : Spn m C G l t) (hk : k.Nodup) (hs : ∀ u ∈ l, u ∈ k) (hb : ∀ u ∈ k, ∀ q, q < C → G u q < 2 ^ m) : Spn m C G k t :=
  h.trans hm fun u hu => Spn.self hm hk (hs u hu) (hb u (hs u hu))

/-- Fewer equations than unknowns have a solution other than 0. -/
theorem homog : ∀ (L : Nat) (l : List Nat), l.Nodup → L < l.length → ∀ c : Nat → Nat → Nat, ∃ x : Nat → Nat, (∃ u ∈ l, x u % 2 ^ m ≠ 0) ∧ ∀ k, k < L → lsum l (fun u => mu m (x u) (c u k)) = 0 := by
  intro L
  induction L with
  | zero =>
    intro l hl h c
    cases l with
    | nil => simp at h
    | cons a l => exact ⟨fun _ => 1, ⟨a, by simp, by rw [one_mod hm]; decide⟩, fun k hk => by omega⟩
  | succ L ih =>
    intro l hl h c
    by_cases hc : ∃ a ∈ l, c a L % 2 ^ m ≠ 0
    · obtain ⟨a, ha, hca⟩ := hc
      have hlen := List.length_erase_of_mem ha
      obtain ⟨x', ⟨u, hu, hxu⟩, hx'⟩ := ih (l.erase a) (hl.erase a) (by omega) (fun u k => c u k ^^^ mu m (mu m (c u L) (ginv m (c a L % 2 ^ m))) (c a k))
      have hne := (List.Nodup.mem_erase_iff hl).1 hu
      obtain ⟨s, hs⟩ : ∃ s, s = lsum (l.erase a) fun u => mu m (x' u) (mu m (c u L) (ginv m (c a L % 2 ^ m))) := ⟨_, rfl⟩
      refine ⟨fun v => if v = a then s else x' v, ⟨u, hne.2, by simpa [hne.1] using hxu⟩, fun k hk => ?_⟩
      have h1 : lsum l (fun u => mu m (if u = a then s else x' u) (c u k)) = mu m s (c a k) ^^^ lsum (l.erase a) fun u => mu m (x' u) (c u k) := by
        rw [lsum_erase ha, if_pos rfl]
        congr 1
        refine lsum_congr fun i hi => ?_
        rw [if_neg ((List.Nodup.mem_erase_iff hl).1 hi).1]
      rw [h1]
      have h2 : mu m s (c a k) = lsum (l.erase a) fun u => mu m (x' u) (mu m (mu m (c u L) (ginv m (c a L % 2 ^ m))) (c a k)) := by
        rw [hs, mu_lsum hm]
        exact lsum_congr fun i _ => mu_assoc hm _ _ _
      by_cases hkL : k = L
      · subst hkL
        have h3 : mu m s (c a k) = lsum (l.erase a) fun u => mu m (x' u) (c u k) := by
          rw [h2]
          refine lsum_congr fun i _ => ?_
          rw [mu_assoc hm (c i k), inv_mu hm hca, mu_one_mod hm, mu_mod_right hm]
        rw [h3, Nat.xor_self]
      · have h4 := hx' k (by omega)
        have h5 : (lsum (l.erase a) fun u => mu m (x' u) (c u k ^^^ mu m (mu m (c u L) (ginv m (c a L % 2 ^ m))) (c a k))) = (lsum (l.erase a) fun u => mu m (x' u) (c u k)) ^^^ mu m s (c a k) := by
          rw [h2, ← lsum_add]
          exact lsum_congr fun i _ => mu_add_right hm _ _ _
        rw [h5] at h4
        rw [Nat.xor_comm]
        exact h4
    · obtain ⟨x, hx0, hx⟩ := ih l hl (by omega) c
      refine ⟨x, hx0, fun k hk => ?_⟩
      by_cases hkL : k = L
      · subst hkL
        refine lsum_zero fun u hu => mu_zero_of hm ?_
        rcases Nat.eq_zero_or_pos (c u k % 2 ^ m) with h | h
        · exact h
        · exact absurd ⟨u, hu, by omega⟩ hc
      · exact hx k (by omega)
/-- Independent rows in a span are at most as many as the rows that span it. -/
theorem dim_le {l k : List Nat} (hl : l.Nodup) (hi : Ind m C G l) (hk : ∀ u ∈ l, Spn m C H k (G u)) : l.length ≤ k.length := by
  rcases Nat.lt_or_ge k.length l.length with h | h
  · exfalso
    have hc : ∀ u, ∃ c : Nat → Nat, u ∈ l → Cmb m C H k c (G u) := fun u => by
      by_cases hu : u ∈ l
      · obtain ⟨c, hc⟩ := hk u hu; exact ⟨c, fun _ => hc⟩
      · exact ⟨fun _ => 0, fun h => absurd h hu⟩
    obtain ⟨c, hc⟩ := Classical.axiomOfChoice hc
    obtain ⟨x, ⟨u, hu, hxu⟩, hx⟩ := homog hm k.length l hl h (fun u j => c u (k.getD j 0))
    refine hxu (hi x (fun q hq => ?_) u hu)
    have h1 : (lsum l fun u => mu m (x u) (G u q)) = lsum l fun u => lsum k fun v => mu m (mu m (x u) (c u v)) (H v q) := by
      refine lsum_congr fun u hu => ?_
      rw [hc u hu q hq, lsum_mu hm]
      exact lsum_congr fun v _ => (mu_assoc hm _ _ _).symm
    rw [h1, lsum_comm]
    refine lsum_zero fun v hv => ?_
    rw [← mu_lsum hm]
    obtain ⟨j, hj, rfl⟩ := List.mem_iff_getElem.1 hv
    have := hx j hj
    simp only [List.getD_eq_getElem?_getD, List.getElem?_eq_getElem hj, Option.getD_some] at this
    rw [this, zero_mu hm]
  · exact h
/-- A row that is no combination of independent rows is independent of them. -/
theorem Ind.cons {l : List Nat} {u : Nat} (hi : Ind m C G l) (hul : u ∉ l) (hu : ¬ Spn m C G l (G u)) (hb : ∀ q, q < C → G u q < 2 ^ m) : Ind m C G (u :: l) := by
  intro x hx
  have hxu : x u % 2 ^ m = 0 := by
    rcases Nat.eq_zero_or_pos (x u % 2 ^ m) with h | h
    · exact h
    · exfalso
      apply hu
      refine ⟨fun v => mu m (ginv m (x u % 2 ^ m)) (x v), fun q hq => ?_⟩
      have h1 := hx q hq
      rw [lsum_cons] at h1
      have h2 := xor_eq_zero_of h1
      have h3 : mu m (ginv m (x u % 2 ^ m)) (mu m (x u) (G u q)) = G u q := by
        rw [← mu_assoc hm, inv_mu hm (by omega), one_mu hm (hb q hq)]
      rw [← h3, h2, lsum_mu hm]
      exact lsum_congr fun v _ => (mu_assoc hm _ _ _).symm
  intro v hv
  rcases List.mem_cons.1 hv with rfl | hv
  · exact hxu
  · refine hi x (fun q hq => ?_) v hv
    have h1 := hx q hq
    rw [lsum_cons, zero_mu_of hm hxu, Nat.zero_xor] at h1
    exact h1
theorem Ind.perm {l k : List Nat} (h : Ind m C G l) (hl : l.Nodup) (hk : k.Nodup) (hs : ∀ u, u ∈ k ↔ u ∈ l) : Ind m C G k := by
  intro x hx u hu
  refine h x (fun q hq => ?_) u ((hs u).1 hu)
  rw [lsum_support hk hl (fun i hi => (hs i).1 hi) (fun i hi hn => absurd ((hs i).2 hi) hn)]
  exact hx q hq
theorem inc_nodup {l : List Nat} (h : l.Pairwise (· < ·)) : l.Nodup := h.imp fun h => Nat.ne_of_lt h
theorem filter_nodup {l : List Nat} (h : l.Nodup) (p : Nat → Bool) : (l.filter p).Nodup := h.sublist List.filter_sublist
/-- A row of an independent list is no combination of others of it. -/
theorem Ind.not_spn {l k : List Nat} {u : Nat} (h : Ind m C G l) (hl : l.Nodup) (hu : u ∈ l) (hk : k.Nodup) (hs : ∀ v ∈ k, v ∈ l ∧ v ≠ u) (hb : ∀ q, q < C → G u q < 2 ^ m) : ¬ Spn m C G k (G u) := by
  rintro ⟨x, hx⟩
  have huk : u ∉ k := fun h => (hs u h).2 rfl
  have := h (fun v => if v = u then 1 else if v ∈ k then x v else 0) (fun q hq => by
    rw [lsum_support (s := u :: k) (List.nodup_cons.2 ⟨huk, hk⟩) hl (fun i hi => by
      rcases List.mem_cons.1 hi with rfl | hi
      · exact hu
      · exact (hs i hi).1) (fun i hi hn => by
        have h1 : i ≠ u := fun e => hn (by simp [e])
        have h2 : i ∉ k := fun e => hn (by simp [e])
        simp only [if_neg h1, if_neg h2]
        exact zero_mu hm _)]
    rw [lsum_cons, if_pos rfl, one_mu hm (hb q hq), hx q hq]
    have : (lsum k fun v => mu m (if v = u then 1 else if v ∈ k then x v else 0) (G v q)) = lsum k fun v => mu m (x v) (G v q) :=
      lsum_congr fun v hv => by rw [if_neg (hs v hv).2, if_pos hv]
    rw [this, Nat.xor_self]) u hu
  simp only [if_true] at this
  rw [one_mod hm] at this
  exact absurd this (by decide)
end

/-- The rows of a list that are no combination of earlier rows of it. -/
structure IsBasis (m C : Nat) (G : Nat → Nat → Nat) (pres b : List Nat) : Prop where
  sub : ∀ u ∈ b, u ∈ pres
  inc : b.Pairwise (· < ·)
  ind : Ind m C G b
  spn : ∀ u ∈ pres, u ∉ b → Spn m C G (b.filter (· < u)) (G u)

theorem eq_of_inc : ∀ {l k : List Nat}, l.Pairwise (· < ·) → k.Pairwise (· < ·) → (∀ u, u ∈ l ↔ u ∈ k) → l = k
  | [], [], _, _, _ => rfl
  | [], b :: k, _, _, h => by have := (h b).2 (by simp); simp at this
  | a :: l, [], _, _, h => by have := (h a).1 (by simp); simp at this
  | a :: l, b :: k, hl, hk, h => by
    have h1 := List.pairwise_cons.1 hl
    have h2 := List.pairwise_cons.1 hk
    have e : a = b := by
      have ha := (h a).1 (by simp)
      have hb := (h b).2 (by simp)
      rcases List.mem_cons.1 ha with e | ha
      · exact e
      · rcases List.mem_cons.1 hb with e | hb
        · exact e.symm
        · have := h1.1 b hb; have := h2.1 a ha; omega
    subst e
    rw [eq_of_inc h1.2 h2.2 fun u => by
      constructor
      · intro hu
        rcases List.mem_cons.1 ((h u).1 (by simp [hu])) with e | hk
        · have := h1.1 u hu; omega
        · exact hk
      · intro hu
        rcases List.mem_cons.1 ((h u).2 (by simp [hu])) with e | hk
        · have := h2.1 u hu; omega
        · exact hk]

section
variable {m C : Nat} {G : Nat → Nat → Nat} (hm : Fm m)
include hm
theorem IsBasis.all {pres b : List Nat} (h : IsBasis m C G pres b) (hb : ∀ u ∈ pres, ∀ q, q < C → G u q < 2 ^ m) : ∀ u ∈ pres, Spn m C G b (G u) := by
  intro u hu
  have hn := inc_nodup hm h.inc
  by_cases hub : u ∈ b
  · exact Spn.self hm hn hub (hb u hu)
  · exact (h.spn u hu hub).mono hm hn (fun v hv => (List.mem_filter.1 hv).1) (fun v hv => hb v (h.sub v hv))
theorem IsBasis.mem_of {pres b b' : List Nat} (h : IsBasis m C G pres b) (h' : IsBasis m C G pres b') (hb : ∀ u ∈ pres, ∀ q, q < C → G u q < 2 ^ m) : ∀ u ∈ b, u ∈ b' := by
  intro u hu
  by_cases hn : u ∈ b'
  · exact hn
  · exfalso
    have hbn := inc_nodup hm h.inc
    have h1 := h'.spn u (h.sub u hu) hn
    have hfn := filter_nodup hm hbn fun x => decide (x < u)
    refine h.ind.not_spn hm hbn hu hfn (fun v hv => ?_) (hb u (h.sub u hu)) (h1.trans hm fun v hv => ?_)
    · have := List.mem_filter.1 hv
      have h2 : v < u := by simpa using this.2
      exact ⟨this.1, by omega⟩
    · obtain ⟨hv1, hv2⟩ := List.mem_filter.1 hv
      have hvu : v < u := by simpa using hv2
      have hvp := h'.sub v hv1
      by_cases hvb : v ∈ b
      · exact Spn.self hm hfn (List.mem_filter.2 ⟨hvb, by simpa using hvu⟩) (hb v hvp)
      · refine (h.spn v hvp hvb).mono hm hfn (fun z hz => ?_) (fun z hz => hb z (h.sub z (List.mem_filter.1 hz).1))
        obtain ⟨hz1, hz2⟩ := List.mem_filter.1 hz
        have : z < v := by simpa using hz2
        exact List.mem_filter.2 ⟨hz1, by simp; omega⟩
theorem IsBasis.uniq {pres b b' : List Nat} (h : IsBasis m C G pres b) (h' : IsBasis m C G pres b') (hb : ∀ u ∈ pres, ∀ q, q < C → G u q < 2 ^ m) : b = b' :=
  eq_of_inc h.inc h'.inc fun u => ⟨h.mem_of hm h' hb u, h'.mem_of hm h hb u⟩
end

end Go.Proofs.YtgflflpeilfinaaDoor

/- The span of a basis, as the program keeps it: rows with a leading 1, and their coefficients. No Go here. -/
set_option linter.unusedVariables false
set_option linter.unusedSimpArgs false
set_option linter.unusedSectionVars false
namespace Go.Proofs.YtgflflpeilfinaaDoor

/-- Element q of a row. -/
def ate (l : List Nat) (q : Nat) : Nat := l.getD q 0
def Bl (m : Nat) (l : List Nat) : Prop := ∀ x ∈ l, x < 2 ^ m
theorem Bl.ate {m : Nat} {l : List Nat} (h : Bl m l) (q : Nat) : ate l q < 2 ^ m := by
  unfold Proofs.YtgflflpeilfinaaDoor.ate
  rw [List.getD_eq_getElem?_getD]
  by_cases hq : q < l.length
  · rw [List.getElem?_eq_getElem hq]; exact h _ (List.getElem_mem _)
  · rw [List.getElem?_eq_none (by omega)]; exact Nat.two_pow_pos m
theorem ate_get {l : List Nat} {q : Nat} (h : q < l.length) : ate l q = l[q] := by simp [ate, h]
theorem Bl_of_ate {m : Nat} {l : List Nat} (h : ∀ q, q < l.length → ate l q < 2 ^ m) : Bl m l := by
  intro x hx
  obtain ⟨q, hq, rfl⟩ := List.mem_iff_getElem.1 hx
  rw [← ate_get hq]; exact h q hq
theorem Bl_zeros (m n : Nat) : Bl m (List.replicate n 0) := fun x hx => by rw [(List.mem_replicate.1 hx).2]; exact Nat.two_pow_pos m
theorem ate_zeros (n q : Nat) : ate (List.replicate n 0) q = 0 := by
  unfold ate
  rw [List.getD_eq_getElem?_getD, List.getElem?_replicate]
  split <;> rfl

/-- A multiple of l has been added to the first k elements of a row. -/
def addK (m f : Nat) (to l : List Nat) (k : Nat) : List Nat := to.mapIdx fun j x => if j < k then x ^^^ gmul m f (ate l j) else x
def addL (m f : Nat) (to l : List Nat) : List Nat := to.mapIdx fun j x => x ^^^ gmul m f (ate l j)
theorem addK_len (m f : Nat) (to l : List Nat) (k : Nat) : (addK m f to l k).length = to.length := by simp [addK]
theorem addL_len (m f : Nat) (to l : List Nat) : (addL m f to l).length = to.length := by simp [addL]
theorem addK_zero (m f : Nat) (to l : List Nat) : addK m f to l 0 = to := by
  simp only [addK, Nat.not_lt_zero, if_false]
  apply List.ext_getElem <;> simp
theorem addK_all (m f : Nat) (to l : List Nat) : addK m f to l to.length = addL m f to l := by
  apply List.ext_getElem
  · simp [addK, addL]
  · intro j h1 h2
    have hj : j < to.length := by simpa [addK] using h1
    simp [addK, addL, hj]
theorem addK_succ (m f : Nat) (to l : List Nat) (k : Nat) (h : k < to.length) : addK m f to l (k + 1) = (addK m f to l k).set k (to[k] ^^^ gmul m f (ate l k)) := by
  apply List.ext_getElem
  · simp [addK]
  · intro j h1 h2
    have hj : j < to.length := by simpa [addK] using h1
    rw [List.getElem_set]
    by_cases e : k = j
    · subst e; simp [addK]
    · rw [if_neg e]
      simp only [addK, List.getElem_mapIdx]
      by_cases h3 : j < k
      · rw [if_pos h3, if_pos (by omega)]
      · rw [if_neg h3, if_neg (by omega)]
theorem addK_get (m f : Nat) (to l : List Nat) (k : Nat) (h : k < to.length) : (addK m f to l k)[k]'(by rw [addK_len]; exact h) = to[k] := by simp [addK]

structure Red where
  col : Nat
  row : List Nat
  coef : List Nat
def rd (reds : List Red) (i : Nat) : Red := reds.getD i ⟨0, [], []⟩
theorem rd_get {reds : List Red} {i : Nat} (h : i < reds.length) : rd reds i = reds[i] := by simp [rd, h]
def redStep (m : Nat) (rc : List Nat × List Nat) (r : Red) : List Nat × List Nat := (addL m (ate rc.1 r.col) rc.1 r.row, addL m (ate rc.1 r.col) rc.2 r.coef)
/-- The first i rows have been subtracted. -/
def redL (m : Nat) (reds : List Red) (row : List Nat) (K : Nat) : Nat → List Nat × List Nat
  | 0 => (row, List.replicate K 0)
  | i + 1 => redStep m (redL m reds row K i) (rd reds i)
def leadOf (l : List Nat) : Option Nat := l.findIdx? fun x => decide (x ≠ 0)
/-- Unit k has been taken in. -/
def spanStep (m K : Nat) (reds : List Red) (k : Nat) (row : List Nat) : List Red :=
  let rc := redL m reds row K reds.length
  let coef := rc.2.set k (ate rc.2 k ^^^ 1)
  match leadOf rc.1 with
  | none => reds
  | some col => reds ++ [⟨col, addL m (ginv m (ate rc.1 col)) (List.replicate rc.1.length 0) rc.1, addL m (ginv m (ate rc.1 col)) (List.replicate coef.length 0) coef⟩]
def spanTo (m K : Nat) (row : Nat → List Nat) : Nat → List Red
  | 0 => []
  | k + 1 => spanStep m K (spanTo m K row k) k (row k)

structure GoodRed (m C K : Nat) (Gr : Nat → Nat → Nat) (r : Red) : Prop where
  col : r.col < C
  rlen : r.row.length = C
  clen : r.coef.length = K
  rbd : Bl m r.row
  cbd : Bl m r.coef
  one : ate r.row r.col = 1
  cmb : Cmb m C Gr (List.range K) (ate r.coef) (ate r.row)
structure SInv (m C K : Nat) (Gr : Nat → Nat → Nat) (reds : List Red) (k : Nat) : Prop where
  good : ∀ r ∈ reds, GoodRed m C K Gr r
  low : ∀ i i', i' < i → i < reds.length → ate (rd reds i).row (rd reds i').col = 0
  spn : ∀ k', k' < k → Spn m C (fun i => ate (rd reds i).row) (List.range reds.length) (Gr k')

section
variable {m : Nat} (hm : Fm m)
include hm
theorem ate_addL {f : Nat} (hf : f < 2 ^ m) {to l : List Nat} (hl : Bl m l) {q : Nat} (hq : q < to.length) : ate (addL m f to l) q = ate to q ^^^ mu m f (ate l q) := by
  rw [ate_get (by rw [addL_len]; exact hq), ate_get hq, mu_eq hm hf (hl.ate q)]
  simp [addL]
theorem Bl.addL {f : Nat} (hf : f < 2 ^ m) {to l : List Nat} (ht : Bl m to) (hl : Bl m l) : Bl m (addL m f to l) :=
  Bl_of_ate fun q hq => by
    rw [addL_len] at hq
    rw [ate_addL hm hf hl hq]
    exact Nat.xor_lt_two_pow (ht.ate q) (mu_lt hm _ _)
theorem addL_zero {to l : List Nat} (hl : Bl m l) : Proofs.YtgflflpeilfinaaDoor.addL m 0 to l = to := by
  apply List.ext_getElem
  · rw [addL_len]
  · intro j h1 h2
    have h3 := ate_addL hm (f := 0) (zero_lt_ hm) (to := to) hl h2
    rw [ate_get h1, ate_get h2, zero_mu hm, Nat.xor_zero] at h3
    exact h3

/-- What holds when the first i rows have been subtracted. -/
structure LInv (m C K : Nat) (Gr : Nat → Nat → Nat) (reds : List Red) (row : List Nat) (i : Nat) (rc : List Nat × List Nat) : Prop where
  rlen : rc.1.length = C
  clen : rc.2.length = K
  rbd : Bl m rc.1
  cbd : Bl m rc.2
  cmb : ∀ q, q < C → ate rc.1 q = ate row q ^^^ lsum (List.range K) fun k => mu m (ate rc.2 k) (Gr k q)
  spn : ∃ c : Nat → Nat, ∀ q, q < C → ate rc.1 q = ate row q ^^^ lsum (List.range i) fun i => mu m (c i) (ate (rd reds i).row q)
  zero : ∀ i', i' < i → ate rc.1 (rd reds i').col = 0

theorem redL_inv {C K : Nat} {Gr : Nat → Nat → Nat} {reds : List Red} {k : Nat} (hS : SInv m C K Gr reds k) {row : List Nat} (hrl : row.length = C) (hrb : Bl m row) :
    ∀ i, i ≤ reds.length → LInv m C K Gr reds row i (redL m reds row K i)
  | 0, _ => ⟨hrl, by simp [redL], hrb, Bl_zeros m K, fun q hq => by
      rw [lsum_zero (fun k _ => by simp only [redL, ate_zeros]; exact zero_mu hm _)]; simp [redL], ⟨fun _ => 0, fun q hq => by simp [redL, lsum_nil]⟩, fun i' h => by omega⟩
  | i + 1, hi => by
    have ih := redL_inv hS hrl hrb i (by omega)
    have hg := hS.good (reds[i]) (List.getElem_mem _)
    have hri : rd reds i = reds[i] := rd_get (by omega)
    rw [← hri] at hg
    obtain ⟨rc, hrc⟩ : ∃ rc, rc = redL m reds row K i := ⟨_, rfl⟩
    rw [← hrc] at ih
    simp only [redL, ← hrc]
    obtain ⟨f, hf⟩ : ∃ f, f = ate rc.1 (rd reds i).col := ⟨_, rfl⟩
    have hfl : f < 2 ^ m := by rw [hf]; exact ih.rbd.ate _
    have e1 : ∀ q, q < C → ate (addL m f rc.1 (rd reds i).row) q = ate rc.1 q ^^^ mu m f (ate (rd reds i).row q) := fun q hq => ate_addL hm hfl hg.rbd (by rw [ih.rlen]; exact hq)
    have e2 : ∀ q, q < K → ate (addL m f rc.2 (rd reds i).coef) q = ate rc.2 q ^^^ mu m f (ate (rd reds i).coef q) := fun q hq => ate_addL hm hfl hg.cbd (by rw [ih.clen]; exact hq)
    unfold redStep
    rw [← hf]
    refine ⟨by rw [addL_len]; exact ih.rlen, by rw [addL_len]; exact ih.clen, Bl.addL hm hfl ih.rbd hg.rbd, Bl.addL hm hfl ih.cbd hg.cbd, fun q hq => ?_, ?_, fun i' hi' => ?_⟩
    · rw [e1 q hq, ih.cmb q hq, hg.cmb q hq, Nat.xor_assoc, lsum_mu hm, ← lsum_add]
      congr 1
      refine lsum_congr fun k hk => ?_
      rw [e2 k (List.mem_range.1 hk), mu_add_left hm, mu_assoc hm]
    · obtain ⟨c, hc⟩ := ih.spn
      refine ⟨fun j => if j = i then f else c j, fun q hq => ?_⟩
      rw [e1 q hq, hc q hq, List.range_succ, lsum_append, Nat.xor_assoc]
      congr 2
      · exact lsum_congr fun j hj => by simp only [if_neg (show j ≠ i by have := List.mem_range.1 hj; omega)]
      · simp [lsum_cons, lsum_nil]
    · by_cases e : i' = i
      · subst e
        rw [e1 _ hg.col, ← hf, hg.one, mu_one hm hfl, Nat.xor_self]
      · have hgi := hS.good (reds[i']'(by omega)) (List.getElem_mem _)
        rw [← rd_get (by omega)] at hgi
        rw [e1 _ hgi.col, ih.zero i' (by omega), hS.low i i' (by omega) (by omega), mu_zero hm]; rfl

theorem leadOf_none {l : List Nat} (h : leadOf l = none) (q : Nat) : ate l q = 0 := by
  unfold leadOf at h
  rw [List.findIdx?_eq_none_iff] at h
  unfold ate
  rw [List.getD_eq_getElem?_getD]
  by_cases hq : q < l.length
  · rw [List.getElem?_eq_getElem hq]
    simpa using h _ (List.getElem_mem hq)
  · rw [List.getElem?_eq_none (by omega)]; rfl
theorem leadOf_some {l : List Nat} {c : Nat} (h : leadOf l = some c) : c < l.length ∧ ate l c ≠ 0 := by
  unfold leadOf at h
  rw [List.findIdx?_eq_some_iff_getElem] at h
  obtain ⟨h1, h2, _⟩ := h
  exact ⟨h1, by rw [ate_get h1]; simpa using h2⟩

theorem SInv.step {C K : Nat} {Gr : Nat → Nat → Nat} {reds : List Red} {k : Nat} (hS : SInv m C K Gr reds k) (hk : k < K) {row : List Nat} (hrl : row.length = C) (hrb : Bl m row) (hrow : ∀ q, Gr k q = ate row q) :
    SInv m C K Gr (spanStep m K reds k row) (k + 1) := by
  have hL := redL_inv hm hS hrl hrb reds.length (Nat.le_refl _)
  obtain ⟨rc, hrc⟩ : ∃ rc, rc = redL m reds row K reds.length := ⟨_, rfl⟩
  rw [← hrc] at hL
  unfold spanStep
  simp only [← hrc]
  obtain ⟨c, hc⟩ := hL.spn
  cases hlead : leadOf rc.1 with
  | none =>
    refine ⟨hS.good, hS.low, fun k' hk' => ?_⟩
    by_cases e : k' < k
    · exact hS.spn k' e
    · obtain rfl : k' = k := by omega
      refine ⟨c, fun q hq => ?_⟩
      have h1 := hc q hq
      rw [leadOf_none hm hlead, ← hrow] at h1
      exact xor_eq_zero_of h1.symm
  | some col =>
    obtain ⟨hcol, hne⟩ := leadOf_some hm hlead
    obtain ⟨x, hx⟩ : ∃ x, x = ate rc.1 col := ⟨_, rfl⟩
    rw [← hx] at hne
    have hxl : x < 2 ^ m := by rw [hx]; exact hL.rbd.ate _
    have hfl := ginv_lt hm hxl
    have hxm : x % 2 ^ m = x := Nat.mod_eq_of_lt hxl
    have hfx : mu m (ginv m x) x = 1 := by have := inv_mu hm (a := x) (by rw [hxm]; exact hne); rwa [hxm] at this
    obtain ⟨f, hf⟩ : ∃ f, f = ginv m x := ⟨_, rfl⟩
    rw [← hf] at hfl hfx
    obtain ⟨coef, hcoef⟩ : ∃ coef, coef = rc.2.set k (ate rc.2 k ^^^ 1) := ⟨_, rfl⟩
    have hcl : coef.length = K := by rw [hcoef, List.length_set]; exact hL.clen
    have hca : ∀ q, q < K → ate coef q = ate rc.2 q ^^^ (if q = k then 1 else 0) := fun q hq => by
      rw [ate_get (by omega), ate_get (by rw [hL.clen]; exact hq)]
      simp only [hcoef, List.getElem_set]
      by_cases e : k = q
      · subst e
        rw [if_pos rfl, if_pos rfl, ate_get (by rw [hL.clen]; exact hq)]
      · rw [if_neg e, if_neg (fun h => e h.symm), Nat.xor_zero]
    have hcb : Bl m coef := Bl_of_ate fun q hq => by
      rw [hca q (by omega)]
      refine Nat.xor_lt_two_pow (hL.cbd.ate q) ?_
      split
      · exact one_lt hm
      · exact zero_lt_ hm
    have hcm : ∀ q, q < C → ate rc.1 q = lsum (List.range K) fun k => mu m (ate coef k) (Gr k q) := fun q hq => by
      rw [hL.cmb q hq, ← hrow]
      have e1 : (lsum (List.range K) fun k' => mu m (ate coef k') (Gr k' q)) = (lsum (List.range K) fun k' => mu m (ate rc.2 k') (Gr k' q)) ^^^ lsum (List.range K) fun k' => mu m (if k' = k then 1 else 0) (Gr k' q) := by
        rw [← lsum_add]
        exact lsum_congr fun k' hk' => by rw [hca k' (List.mem_range.1 hk'), mu_add_left hm]
      rw [e1, lsum_one (f := fun k' => mu m (if k' = k then 1 else 0) (Gr k' q)) List.nodup_range (List.mem_range.2 hk) (fun i _ hne => by rw [if_neg hne, zero_mu hm]), if_pos rfl, one_mu hm (by rw [hrow]; exact hrb.ate q), Nat.xor_comm]
    have er : ∀ q, q < C → ate (addL m f (List.replicate rc.1.length 0) rc.1) q = mu m f (ate rc.1 q) := fun q hq => by
      rw [ate_addL hm hfl hL.rbd (by rw [List.length_replicate, hL.rlen]; exact hq), ate_zeros, Nat.zero_xor]
    have ec : ∀ q, q < K → ate (addL m f (List.replicate coef.length 0) coef) q = mu m f (ate coef q) := fun q hq => by
      rw [ate_addL hm hfl hcb (by rw [List.length_replicate, hcl]; exact hq), ate_zeros, Nat.zero_xor]
    have hcolC : col < C := by rw [← hL.rlen]; exact hcol
    have hnew : GoodRed m C K Gr ⟨col, addL m f (List.replicate rc.1.length 0) rc.1, addL m f (List.replicate coef.length 0) coef⟩ :=
      ⟨hcolC, by rw [addL_len, List.length_replicate]; exact hL.rlen, by rw [addL_len, List.length_replicate]; exact hcl, Bl.addL hm hfl (Bl_zeros _ _) hL.rbd, Bl.addL hm hfl (Bl_zeros _ _) hcb,
        by show ate _ col = 1; rw [er col hcolC, ← hx, hfx], fun q hq => by
          show ate (addL _ _ _ _) q = _
          rw [er q hq, hcm q hq, lsum_mu hm]
          exact lsum_congr fun k' hk' => by rw [ec k' (List.mem_range.1 hk'), mu_assoc hm]⟩
    simp only [← hcoef, ← hx, ← hf]
    obtain ⟨nr, hnr⟩ : ∃ nr : Red, nr = ⟨col, addL m f (List.replicate rc.1.length 0) rc.1, addL m f (List.replicate coef.length 0) coef⟩ := ⟨_, rfl⟩
    rw [← hnr] at hnew ⊢
    have ro : ∀ i, i < reds.length → rd (reds ++ [nr]) i = rd reds i := fun i hi => by
      rw [rd_get (by simp; omega), rd_get hi, List.getElem_append_left hi]
    have rn : rd (reds ++ [nr]) reds.length = nr := by rw [rd_get (by simp)]; simp
    refine ⟨fun r hr => ?_, fun i i' hi' hi => ?_, fun k' hk' => ?_⟩
    · rcases List.mem_append.1 hr with hr | hr
      · exact hS.good r hr
      · have : r = nr := by simpa using hr
        rw [this]; exact hnew
    · rw [List.length_append, List.length_singleton] at hi
      rw [ro i' (by omega)]
      by_cases e : i < reds.length
      · rw [ro i e]; exact hS.low i i' hi' e
      · obtain rfl : i = reds.length := by omega
        have hgi := hS.good (reds[i']) (List.getElem_mem _)
        rw [← rd_get hi'] at hgi
        rw [rn, hnr]
        show ate (addL _ _ _ _) _ = 0
        rw [er _ hgi.col, hL.zero i' hi', mu_zero hm]
    · rw [List.length_append, List.length_singleton, List.range_succ]
      by_cases e : k' < k
      · obtain ⟨c', hc'⟩ := hS.spn k' e
        refine ⟨fun i => if i = reds.length then 0 else c' i, fun q hq => ?_⟩
        rw [hc' q hq, lsum_append]
        simp only [lsum_cons, lsum_nil, if_true, Nat.xor_zero, zero_mu hm]
        exact lsum_congr fun i hi => by rw [if_neg (by have := List.mem_range.1 hi; omega), ro i (List.mem_range.1 hi)]
      · obtain rfl : k' = k := by omega
        refine ⟨fun i => if i = reds.length then x else c i, fun q hq => ?_⟩
        rw [lsum_append]
        simp only [lsum_cons, lsum_nil, if_true, Nat.xor_zero, rn]
        have h1 : ate nr.row q = mu m f (ate rc.1 q) := by rw [hnr]; exact er q hq
        have h2 : mu m x (ate nr.row q) = ate rc.1 q := by
          rw [h1, ← mu_assoc hm, mu_comm hm x f, hfx, one_mu hm (hL.rbd.ate q)]
        have h3 : (lsum (List.range reds.length) fun i => mu m (if i = reds.length then x else c i) (ate (rd (reds ++ [nr]) i).row q)) = lsum (List.range reds.length) fun i => mu m (c i) (ate (rd reds i).row q) :=
          lsum_congr fun i hi => by rw [if_neg (by have := List.mem_range.1 hi; omega), ro i (List.mem_range.1 hi)]
        rw [h3, h2, hc q hq, ← hrow, Nat.xor_comm, xor_cancel]

theorem spanTo_inv {C K : Nat} {row : Nat → List Nat} (hrl : ∀ k, k < K → (row k).length = C) (hrb : ∀ k, k < K → Bl m (row k)) : ∀ k, k ≤ K → SInv m C K (fun k => ate (row k)) (spanTo m K row k) k
  | 0, _ => ⟨by simp [spanTo], fun i i' _ h => by simp [spanTo] at h, fun k' h => by omega⟩
  | k + 1, hk => (spanTo_inv hrl hrb k (by omega)).step hm (by omega) (hrl k (by omega)) (hrb k (by omega)) (fun q => rfl)

/-- A combination of the rows that is 0 at their columns is 0. -/
theorem SInv.tri {C K : Nat} {Gr : Nat → Nat → Nat} {reds : List Red} {k : Nat} (hS : SInv m C K Gr reds k) {c : Nat → Nat} {v : Nat → Nat}
    (hv : ∀ q, q < C → v q = lsum (List.range reds.length) fun i => mu m (c i) (ate (rd reds i).row q)) (h0 : ∀ i, i < reds.length → v (rd reds i).col = 0) : ∀ q, q < C → v q = 0 := by
  have hc : ∀ i, i < reds.length → c i % 2 ^ m = 0 := by
    intro i
    induction i using Nat.strongRecOn with
    | _ i ih =>
      intro hi
      have hg := hS.good (reds[i]) (List.getElem_mem _)
      rw [← rd_get hi] at hg
      have h1 := hv _ hg.col
      rw [h0 i hi, lsum_one List.nodup_range (List.mem_range.2 hi) (fun j hj hne => ?_)] at h1
      · rw [hg.one, mu_one_mod hm] at h1
        exact h1.symm
      · have hj' := List.mem_range.1 hj
        rcases Nat.lt_or_ge j i with h | h
        · exact zero_mu_of hm (ih j h hj')
        · rw [hS.low j i (by omega) hj', mu_zero hm]
  intro q hq
  rw [hv q hq]
  exact lsum_zero fun i hi => zero_mu_of hm (hc i (List.mem_range.1 hi))
/-- What is left of a row is 0 exactly if the row lies in the span; then the coefficients add up to it. -/
theorem span_facts {C K : Nat} {Gr : Nat → Nat → Nat} {reds : List Red} (hS : SInv m C K Gr reds K) {row : List Nat} (hrl : row.length = C) (hrb : Bl m row) :
    ((∀ q, q < C → ate (redL m reds row K reds.length).1 q = 0) ↔ Spn m C Gr (List.range K) (ate row)) ∧
    ((∀ q, q < C → ate (redL m reds row K reds.length).1 q = 0) → Cmb m C Gr (List.range K) (ate (redL m reds row K reds.length).2) (ate row)) := by
  have hL := redL_inv hm hS hrl hrb reds.length (Nat.le_refl _)
  obtain ⟨rc, hrc⟩ : ∃ rc, rc = redL m reds row K reds.length := ⟨_, rfl⟩
  rw [← hrc] at hL ⊢
  have hcm : (∀ q, q < C → ate rc.1 q = 0) → Cmb m C Gr (List.range K) (ate rc.2) (ate row) := fun h q hq => by
    have := hL.cmb q hq
    rw [h q hq] at this
    exact xor_eq_zero_of this.symm
  refine ⟨⟨fun h => ⟨_, hcm h⟩, fun h => ?_⟩, hcm⟩
  obtain ⟨c, hc⟩ := hL.spn
  have h2 : Spn m C (fun i => ate (rd reds i).row) (List.range reds.length) (ate row) := h.trans hm fun k hk => hS.spn k (List.mem_range.1 hk)
  obtain ⟨d, hd⟩ := h2
  exact hS.tri hm (c := fun i => d i ^^^ c i) (v := ate rc.1) (fun q hq => by
    rw [hc q hq, hd q hq, ← lsum_add]
    exact lsum_congr fun i _ => (mu_add_left hm _ _ _).symm) (fun i hi => hL.zero i hi)
end

/-- Sums over the positions of a list. -/
theorem lsum_pos (b : List Nat) (f : Nat → Nat) : lsum (List.range b.length) (fun k => f (b.getD k 0)) = lsum b f := by
  have e : b = (List.range b.length).map fun k => b.getD k 0 := by
    apply List.ext_getElem <;> simp
    intro i h; simp [h]
  conv => rhs; rw [e]
  rw [lsum_map]
theorem spn_pos {m C : Nat} {G : Nat → Nat → Nat} {b : List Nat} (hb : b.Nodup) (t : Nat → Nat) : Spn m C (fun k => G (b.getD k 0)) (List.range b.length) t ↔ Spn m C G b t := by
  constructor
  · rintro ⟨x, hx⟩
    refine ⟨fun u => x (b.idxOf u), fun q hq => ?_⟩
    rw [hx q hq, ← lsum_pos b]
    refine lsum_congr fun k hk => ?_
    have hk' := List.mem_range.1 hk
    simp only [show b.getD k 0 = b[k] by simp [hk'], List.Nodup.idxOf_getElem hb]
  · rintro ⟨x, hx⟩
    exact ⟨fun k => x (b.getD k 0), fun q hq => by rw [hx q hq, ← lsum_pos]⟩

end Go.Proofs.YtgflflpeilfinaaDoor
