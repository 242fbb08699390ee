/- What the reference's elimination computes: it meets a pivot in every column of independent rows, and its last column holds the coefficients. No walk here. -/
import Derived.Test.YtgflflpeilfinaaDoorPureC
set_option linter.unusedVariables false
set_option linter.unusedSimpArgs false
set_option linter.unusedSectionVars false
namespace Go.Proofs.YtgflflpeilfinaaDoor
open Go.RowKit

section
variable {m : Nat} (hm : Fm m)
include hm
/-- A column without a pivot is a combination of the columns before it. -/
theorem RInv.dep {R N j : Nat} {A B : Nat → Nat → Nat} {ps : List Nat} (hA : Bd m R N A) (hI : RInv m R N j A B ps) (hj : j ≤ N) {v : Nat} (hv : v < j) (hvp : v ∉ ps) :
    Spn m R (fun q p => A p q) (ps.filter fun x => decide (x < v)) (fun p => A p v) := by
  have hn := inc_nodup hm hI.inc
  have hvN : v < N := by omega
  obtain ⟨l, hl⟩ : ∃ l, l = ps.filter fun x => decide (x < v) := ⟨_, rfl⟩
  rw [← hl]
  have hln : l.Nodup := by rw [hl]; exact filter_nodup hm hn _
  have hlm : ∀ u, u ∈ l ↔ u ∈ ps ∧ u < v := fun u => by rw [hl, List.mem_filter, decide_eq_true_eq]
  have hvl : v ∉ l := fun h => by have := (hlm v).1 h; omega
  have hlN : ∀ u ∈ v :: l, u < N := by
    intro u hu
    rcases List.mem_cons.1 hu with rfl | hu
    · exact hvN
    · have := (hlm u).1 hu; omega
  refine ⟨fun u => B (ps.idxOf u) v, fun q hq => ?_⟩
  have key := (hI.ker (v :: l) (fun u => if u = v then 1 else B (ps.idxOf u) v) hlN).1 (fun p hp => ?_) q hq
  · unfold rsum at key
    rw [lsum_cons] at key
    simp only [if_true] at key
    rw [one_mu hm (hA q v hq hvN)] at key
    show A q v = _
    rw [xor_eq_zero_of key]
    exact lsum_congr fun u hu => by simp only [if_neg (show u ≠ v by have := (hlm u).1 hu; omega)]
  · unfold rsum
    rw [lsum_cons]
    simp only [if_true]
    rw [one_mu hm (hI.bd p v hp hvN)]
    have hs : (lsum l fun u => mu m (if u = v then 1 else B (ps.idxOf u) v) (B p u)) = B p v := by
      by_cases hne : B p v = 0
      · rw [hne]
        refine lsum_zero fun u hu => ?_
        obtain ⟨hu1, hu2⟩ := (hlm u).1 hu
        obtain ⟨k, hk, rfl⟩ := List.mem_iff_getElem.1 hu1
        rw [if_neg (by omega), hI.piv k hk p hp]
        by_cases e : p = k
        · subst e
          rw [if_pos rfl, List.Nodup.idxOf_getElem hn, hne, zero_mu hm]
        · rw [if_neg e, mu_zero hm]
      · obtain ⟨hlt, hlt2⟩ := hI.non v hv hvp p hp hne
        have hmem : ps[p] ∈ l := (hlm _).2 ⟨List.getElem_mem _, hlt2⟩
        rw [lsum_one hln hmem (fun u hu hne2 => ?_)]
        · rw [if_neg (by omega), List.Nodup.idxOf_getElem hn, hI.piv p hlt p hp, if_pos rfl, mu_one hm (hI.bd p v hp hvN)]
        · obtain ⟨hu1, hu2⟩ := (hlm u).1 hu
          obtain ⟨k, hk, rfl⟩ := List.mem_iff_getElem.1 hu1
          have hpk : ¬ p = k := fun e => hne2 (by subst e; rfl)
          rw [hI.piv k hk p hp]
          simp only [if_neg hpk]
          exact mu_zero hm _
    rw [hs, Nat.xor_self]
/-- Independent columns: every one gets its pivot. -/
theorem piv_all {R N K : Nat} {A : Nat → Nat → Nat} (hA : Bd m R N A) (hK : K ≤ N) (hi : Ind m R (fun q p => A p q) (List.range K)) : ∀ j, j ≤ K → (redTo m R A j).2 = List.range j := by
  intro j hj
  have hI := redTo_inv hm hA j (by omega)
  have hall : ∀ v, v < j → v ∈ (redTo m R A j).2 := fun v hv => Classical.byContradiction fun hn => by
    have hd := hI.dep hm hA (by omega) hv hn
    refine hi.not_spn hm List.nodup_range (List.mem_range.2 (show v < K by omega)) (filter_nodup hm (inc_nodup hm hI.inc) _) (fun u hu => ?_) (fun q hq => hA q v hq (by omega)) hd
    obtain ⟨h1, h2⟩ := List.mem_filter.1 hu
    have h3 : u < v := by simpa using h2
    exact ⟨List.mem_range.2 (by omega), by omega⟩
  refine eq_of_inc hI.inc List.pairwise_lt_range fun u => ⟨fun h => List.mem_range.2 (hI.lt u h), fun h => hall u (List.mem_range.1 h)⟩
theorem piv_some {R N K : Nat} {A : Nat → Nat → Nat} (hA : Bd m R N A) (hK : K ≤ N) (hi : Ind m R (fun q p => A p q) (List.range K)) {k : Nat} (hk : k < K) :
    ∃ i, pivRow R (redTo m R A k).1 k k = some i ∧ (redTo m R A (k + 1)).1 = stepM m (redTo m R A k).1 k k i := by
  have h1 := piv_all hm hA hK hi k (by omega)
  have h2 := piv_all hm hA hK hi (k + 1) (by omega)
  have hl : (redTo m R A k).2.length = k := by rw [h1]; simp
  cases hp : pivRow R (redTo m R A k).1 k (redTo m R A k).2.length with
  | none =>
    simp only [redTo, hp] at h2
    rw [h1] at h2
    have := congrArg List.length h2
    simp at this
  | some i =>
    rw [hl] at hp
    refine ⟨i, hp, ?_⟩
    simp only [redTo, hl, hp]
/-- The last column solves the system. -/
theorem solve_iff {R K : Nat} {A B : Nat → Nat → Nat} (hA : Bd m R (K + 1) A) (hI : RInv m R (K + 1) K A B (List.range K)) (x : Nat → Nat) :
    (∀ p, p < R → A p K = lsum (List.range K) fun k => mu m (x k) (A p k)) ↔ (∀ p, p < R → B p K = if p < K then x p % 2 ^ m else 0) := by
  have hKR : K ≤ R := by have := hI.len; simpa using this
  have hk := hI.ker (List.range (K + 1)) (fun k => if k = K then 1 else x k) (fun u hu => List.mem_range.1 hu)
  have e : ∀ (M : Nat → Nat → Nat), Bd m R (K + 1) M → ∀ p, p < R → rsum m M (List.range (K + 1)) (fun k => if k = K then 1 else x k) p = (lsum (List.range K) fun k => mu m (x k) (M p k)) ^^^ M p K := by
    intro M hM p hp
    unfold rsum
    rw [lsum_range_succ]
    simp only [if_true]
    rw [one_mu hm (hM p K hp (by omega))]
    congr 1
    exact lsum_congr fun k hk => by rw [if_neg (by have := List.mem_range.1 hk; omega)]
  have eB : ∀ p, p < R → (lsum (List.range K) fun k => mu m (x k) (B p k)) = if p < K then x p % 2 ^ m else 0 := by
    intro p hp
    have hp' : ∀ k, k < K → B p k = if p = k then 1 else 0 := fun k hk => by
      have := hI.piv k (by simpa using hk) p hp
      simpa using this
    by_cases h : p < K
    · rw [if_pos h, lsum_one List.nodup_range (List.mem_range.2 h), hp' p h, if_pos rfl, mu_one_mod hm]
      intro i hi hne
      rw [hp' i (List.mem_range.1 hi), if_neg (fun e => hne e.symm), mu_zero hm]
    · rw [if_neg h]
      refine lsum_zero fun i hi => ?_
      have := List.mem_range.1 hi
      rw [hp' i this, if_neg (by omega), mu_zero hm]
  constructor
  · intro h p hp
    have := hk.2 (fun p hp => by rw [e A hA p hp, ← h p hp, Nat.xor_self]) p hp
    rw [e B hI.bd p hp, eB p hp] at this
    exact (xor_eq_zero_of this).symm
  · intro h p hp
    have := hk.1 (fun p hp => by rw [e B hI.bd p hp, eB p hp, ← h p hp, Nat.xor_self]) p hp
    rw [e A hA p hp] at this
    exact (xor_eq_zero_of this).symm
end

/-- The system: the unknowns' columns are the rows of b, the last column is the row of u. -/
def sysA (n : Nat) (par : List (List Int)) (b : List Nat) (u : Nat) : Nat → Nat → Nat := fun p q => if q < b.length then gEl n par (b.getD q 0) p else gEl n par u p
def exM (m n : Nat) (par : List (List Int)) (b : List Nat) (u : Nat) : Nat → Nat → Nat := (redTo m n (sysA n par b u) b.length).1
def exOk (m n : Nat) (par : List (List Int)) (b : List Nat) (u : Nat) : Bool := (List.range n).all fun p => decide (p < b.length) || decide (exM m n par b u p b.length = 0)
def exL (m n : Nat) (par : List (List Int)) (b : List Nat) (u : Nat) : List Nat := (List.range b.length).map fun k => exM m n par b u k b.length

/-- Independent rows of a code. -/
structure Bs (m n : Nat) (par : List (List Int)) (b : List Nat) : Prop where
  hm : Fm m
  rows : ∀ row ∈ par, row.length = n ∧ row.all (elemB m) = true
  lt : ∀ u ∈ b, u < n + par.length
  nd : b.Nodup
  ind : Ind m n (gEl n par) b
section
variable {m n : Nat} {par : List (List Int)} {b : List Nat} (H : Bs m n par b)
include H
theorem Bs.at_lt {k : Nat} (hk : k < b.length) : b.getD k 0 < n + par.length := by
  rw [List.getD_eq_getElem?_getD, List.getElem?_eq_getElem hk]
  exact H.lt _ (List.getElem_mem hk)
theorem Bs.bd {u : Nat} (hu : u < n + par.length) : Bd m n (b.length + 1) (sysA n par b u) := by
  intro p q hp hq
  unfold sysA
  split
  · rename_i h; exact gEl_lt H.hm H.rows (H.at_lt h) p
  · exact gEl_lt H.hm H.rows hu p
theorem Bs.cols (u : Nat) : Ind m n (fun q p => sysA n par b u p q) (List.range b.length) := by
  intro x hx k hk
  have hkl := List.mem_range.1 hk
  have h1 : ∀ q, q < n → lsum b (fun v => mu m (x (b.idxOf v)) (gEl n par v q)) = 0 := by
    intro q hq
    refine (lsum_pos b fun v => mu m (x (b.idxOf v)) (gEl n par v q)).symm.trans (Eq.trans (lsum_congr fun j hj => ?_) (hx q hq))
    have hj' := List.mem_range.1 hj
    have e : b.getD j 0 = b[j] := by simp [hj']
    show mu m (x (b.idxOf (b.getD j 0))) (gEl n par (b.getD j 0) q) = mu m (x j) (sysA n par b u q j)
    unfold sysA
    rw [if_pos hj', e, List.Nodup.idxOf_getElem H.nd]
  have := H.ind _ h1 b[k] (List.getElem_mem _)
  simpa only [List.Nodup.idxOf_getElem H.nd] using this
theorem Bs.step {u : Nat} (hu : u < n + par.length) {k : Nat} (hk : k < b.length) :
    ∃ i, pivRow n (redTo m n (sysA n par b u) k).1 k k = some i ∧ (redTo m n (sysA n par b u) (k + 1)).1 = stepM m (redTo m n (sysA n par b u) k).1 k k i :=
  piv_some H.hm (H.bd hu) (Nat.le_succ _) (H.cols u) hk
theorem Bs.bdk {u : Nat} (hu : u < n + par.length) {k : Nat} (hk : k ≤ b.length) : Bd m n (b.length + 1) (redTo m n (sysA n par b u) k).1 :=
  (redTo_inv H.hm (H.bd hu) k (by omega)).bd
theorem Bs.inv {u : Nat} (hu : u < n + par.length) : RInv m n (b.length + 1) b.length (sysA n par b u) (exM m n par b u) (List.range b.length) := by
  have h := redTo_inv H.hm (H.bd hu) b.length (Nat.le_succ _)
  rwa [piv_all H.hm (H.bd hu) (Nat.le_succ _) (H.cols u) b.length (Nat.le_refl _)] at h
theorem Bs.len_le {u : Nat} (hu : u < n + par.length) : b.length ≤ n := by have := (H.inv hu).len; simpa using this
theorem Bs.sys {u : Nat} (hu : u < n + par.length) (x : Nat → Nat) :
    (∀ p, p < n → gEl n par u p = lsum (List.range b.length) fun k => mu m (x k) (gEl n par (b.getD k 0) p)) ↔ (∀ p, p < n → exM m n par b u p b.length = if p < b.length then x p % 2 ^ m else 0) := by
  rw [← solve_iff H.hm (H.bd hu) (H.inv hu) x]
  have e : ∀ p, sysA n par b u p b.length = gEl n par u p := fun p => by unfold sysA; rw [if_neg (by omega)]
  have e2 : ∀ p, (lsum (List.range b.length) fun k => mu m (x k) (sysA n par b u p k)) = lsum (List.range b.length) fun k => mu m (x k) (gEl n par (b.getD k 0) p) := fun p =>
    lsum_congr fun k hk => by unfold sysA; rw [if_pos (List.mem_range.1 hk)]
  constructor
  · intro h p hp; rw [e, e2]; exact h p hp
  · intro h p hp; have := h p hp; rwa [e, e2] at this
theorem Bs.ok_iff {u : Nat} (hu : u < n + par.length) : exOk m n par b u = true ↔ Spn m n (gEl n par) b (gEl n par u) := by
  rw [← spn_pos H.nd]
  have hbd := (H.inv hu).bd
  have e : exOk m n par b u = true ↔ ∀ p, p < n → ¬ p < b.length → exM m n par b u p b.length = 0 := by
    unfold exOk
    rw [List.all_eq_true]
    constructor
    · intro h p hp hn
      have := h p (List.mem_range.2 hp)
      simp only [Bool.or_eq_true, decide_eq_true_eq] at this
      exact this.resolve_left hn
    · intro h p hp
      simp only [Bool.or_eq_true, decide_eq_true_eq]
      by_cases hn : p < b.length
      · exact .inl hn
      · exact .inr (h p (List.mem_range.1 hp) hn)
  rw [e]
  constructor
  · intro h
    refine ⟨fun p => exM m n par b u p b.length, (H.sys hu _).2 fun p hp => ?_⟩
    by_cases hn : p < b.length
    · rw [if_pos hn, Nat.mod_eq_of_lt (hbd p _ hp (by omega))]
    · rw [if_neg hn]; exact h p hp hn
  · rintro ⟨x, hx⟩ p hp hn
    have := (H.sys hu x).1 hx p hp
    rwa [if_neg hn] at this
theorem Bs.exL_eq {u : Nat} (hu : u < n + par.length) {x : Nat → Nat} (hx : ∀ p, p < n → gEl n par u p = lsum (List.range b.length) fun k => mu m (x k) (gEl n par (b.getD k 0) p)) (hb : ∀ k, k < b.length → x k < 2 ^ m) :
    exL m n par b u = (List.range b.length).map x := by
  have hle := H.len_le hu
  unfold exL
  refine List.map_congr_left fun k hk => ?_
  have hk' := List.mem_range.1 hk
  have := (H.sys hu x).1 hx k (by omega)
  rw [this, if_pos hk', Nat.mod_eq_of_lt (hb k hk')]
theorem Bs.snoc {u : Nat} (hu : u < n + par.length) (hub : u ∉ b) (hn : exOk m n par b u = false) : Bs m n par (b ++ [u]) := by
  have hns : ¬ Spn m n (gEl n par) b (gEl n par u) := fun h => by rw [(H.ok_iff hu).2 h] at hn; exact absurd hn (by decide)
  have hnd : (b ++ [u]).Nodup := by
    rw [List.nodup_append]
    refine ⟨H.nd, by simp, fun a ha c hc e => ?_⟩
    have : c = u := by simpa using hc
    exact hub (by rw [← this, ← e]; exact ha)
  refine ⟨H.hm, H.rows, fun v hv => ?_, hnd, ?_⟩
  · rcases List.mem_append.1 hv with h | h
    · exact H.lt v h
    · have : v = u := by simpa using h
      rw [this]; exact hu
  · refine (H.ind.cons H.hm hub hns (fun q _ => gEl_lt H.hm H.rows hu q)).perm H.hm ?_ hnd ?_
    · exact List.nodup_cons.2 ⟨hub, H.nd⟩
    · intro v; simp [or_comm]
end

/-- The reference's basis: a present unit is taken if its row is no combination of the rows taken before. -/
def gbTo (m n : Nat) (par : List (List Int)) (hs : List Bool) : Nat → List Nat
  | 0 => []
  | k + 1 => if hs.getD k false && !exOk m n par (gbTo m n par hs k) k then gbTo m n par hs k ++ [k] else gbTo m n par hs k
structure GB (m n : Nat) (par : List (List Int)) (hs : List Bool) (k : Nat) : Prop where
  bs : Bs m n par (gbTo m n par hs k)
  inc : (gbTo m n par hs k).Pairwise (· < ·)
  sub : ∀ u ∈ gbTo m n par hs k, u < k ∧ hs.getD u false = true
  spn : ∀ u, u < k → hs.getD u false = true → u ∉ gbTo m n par hs k → Spn m n (gEl n par) ((gbTo m n par hs k).filter fun x => decide (x < u)) (gEl n par u)
section
variable {m n : Nat} {par : List (List Int)} {hs : List Bool} (V : Vd m n par hs)
include V
theorem Vd.gb : ∀ k, k ≤ n + par.length → GB m n par hs k
  | 0, _ => ⟨⟨V.hm, fun row h => ⟨(V.rows row h).1, (V.rows row h).2⟩, fun u hu => by simp [gbTo] at hu, by simp [gbTo], fun x hx u hu => by simp [gbTo] at hu⟩, by simp [gbTo], fun u hu => by simp [gbTo] at hu, fun u hu => by omega⟩
  | k + 1, hk => by
    have ih := Vd.gb k (by omega)
    have hkb : k ∉ gbTo m n par hs k := fun h => by have := (ih.sub k h).1; omega
    have hfl : (gbTo m n par hs k).filter (fun x => decide (x < k)) = gbTo m n par hs k := List.filter_eq_self.2 fun x hx => by simpa using (ih.sub x hx).1
    cases h1 : hs.getD k false with
    | false =>
      have e : gbTo m n par hs (k + 1) = gbTo m n par hs k := by rw [gbTo, h1]; rfl
      refine ⟨by rw [e]; exact ih.bs, by rw [e]; exact ih.inc, fun u hu => ?_, fun u hu hp hn => ?_⟩
      · rw [e] at hu; have := ih.sub u hu; exact ⟨by omega, this.2⟩
      · rw [e] at hn ⊢
        by_cases h : u = k
        · rw [h, h1] at hp; exact absurd hp (by decide)
        · exact ih.spn u (by omega) hp hn
    | true =>
      cases h2 : exOk m n par (gbTo m n par hs k) k with
      | true =>
        have e : gbTo m n par hs (k + 1) = gbTo m n par hs k := by rw [gbTo, h1, h2]; rfl
        refine ⟨by rw [e]; exact ih.bs, by rw [e]; exact ih.inc, fun u hu => ?_, fun u hu hp hn => ?_⟩
        · rw [e] at hu; have := ih.sub u hu; exact ⟨by omega, this.2⟩
        · rw [e] at hn ⊢
          by_cases h : u = k
          · rw [h, hfl]
            exact (ih.bs.ok_iff (by omega)).1 h2
          · exact ih.spn u (by omega) hp hn
      | false =>
        have e : gbTo m n par hs (k + 1) = gbTo m n par hs k ++ [k] := by rw [gbTo, h1, h2]; rfl
        refine ⟨by rw [e]; exact ih.bs.snoc (by omega) hkb h2, ?_, fun u hu => ?_, fun u hu hp hn => ?_⟩
        · rw [e, List.pairwise_append]
          refine ⟨ih.inc, by simp, fun a ha c hc => ?_⟩
          have : c = k := by simpa using hc
          rw [this]; exact (ih.sub a ha).1
        · rw [e] at hu
          rcases List.mem_append.1 hu with h | h
          · have := ih.sub u h; exact ⟨by omega, this.2⟩
          · have : u = k := by simpa using h
            rw [this]; exact ⟨by omega, h1⟩
        · rw [e] at hn ⊢
          by_cases h : u = k
          · exact absurd (by rw [h]; simp) hn
          · have hf : (gbTo m n par hs k ++ [k]).filter (fun x => decide (x < u)) = (gbTo m n par hs k).filter fun x => decide (x < u) := by
              rw [List.filter_append]
              simp [show ¬ k < u by omega]
            rw [hf]
            exact ih.spn u (by omega) hp (fun hh => hn (List.mem_append_left _ hh))
theorem Vd.gb_eq : gbTo m n par hs (n + par.length) = basisL m n par hs := by
  have h := V.gb (n + par.length) (Nat.le_refl _)
  have hb : IsBasis m n (gEl n par) (presL hs) (gbTo m n par hs (n + par.length)) :=
    ⟨fun u hu => mem_presL.2 (h.sub u hu).2, h.inc, h.bs.ind, fun u hu hn => h.spn u (V.pres_lt hu) (mem_presL.1 hu) hn⟩
  exact hb.uniq V.hm V.basis fun u hu q _ => V.el_lt (V.pres_lt hu) q
theorem Vd.bs : Bs m n par (basisL m n par hs) := by rw [← V.gb_eq]; exact (V.gb _ (Nat.le_refl _)).bs
theorem Vd.ex_rec {u : Nat} (hu : u < n + par.length) : exOk m n par (basisL m n par hs) u = recB m n par hs u := by
  rw [Bool.eq_iff_iff, V.bs.ok_iff hu, V.rec_iff hu]
theorem Vd.ex_coef {u : Nat} (hu : u < n + par.length) (hr : recB m n par hs u = true) : exL m n par (basisL m n par hs) u = (List.range (basisL m n par hs).length).map fun k => ate (restL m n par (basisL m n par hs) (spanL m n par hs) u).2 k := by
  refine V.bs.exL_eq hu (fun q hq => ?_) fun k hk => (V.ok hu).2.2.2.ate k
  have h1 := (span_facts V.hm V.inv (gRow_len V.hm V.rows hu) (gRow_bd V.hm V.rows hu)).2 (by
    have := (zeroB_iff V).1 hr
    rw [(V.ok hu).1] at this
    exact this)
  exact h1 q hq
end

end Go.Proofs.YtgflflpeilfinaaDoor
