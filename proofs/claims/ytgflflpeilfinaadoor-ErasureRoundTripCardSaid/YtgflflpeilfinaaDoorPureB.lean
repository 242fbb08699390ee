/- What Combination answers, in terms of rows: no walk here. -/
import Derived.Test.YtgflflpeilfinaaDoorSumA
set_option linter.unusedVariables false
set_option linter.unusedSimpArgs false
set_option linter.unusedSectionVars false
namespace Go.Proofs.YtgflflpeilfinaaDoor
open Go.RowKit

/-- A valid code and a selection of its units. -/
structure Vd (m n : Nat) (par : List (List Int)) (hs : List Bool) : Prop where
  hm : Fm m
  n1 : 1 ≤ n
  n32 : n + par.length ≤ 32
  rows : ∀ row ∈ par, row.length = n ∧ row.all (elemB m) = true
  nz : ∀ row ∈ par, (row.all fun x => x == 0) = false
  len : hs.length = n + par.length
theorem Vd.of {m n : Nat} {par : List (List Int)} {hs : List Bool} (hok : okB m n par = true) (hN : hs.length = n + par.length) : Vd m n par hs := by
  obtain ⟨m', n', em, en, hm, hn1, hn2, hrows⟩ := okB_facts hok
  obtain rfl : m = m' := by omega
  obtain rfl : n = n' := by omega
  exact ⟨hm, hn1, hn2, fun row h => ⟨(hrows row h).1, (hrows row h).2.1⟩, fun row h => (hrows row h).2.2, hN⟩

section
variable {m n : Nat} {par : List (List Int)} {hs : List Bool} (V : Vd m n par hs)
include V
theorem Vd.basis : IsBasis m n (gEl n par) (presL hs) (basisL m n par hs) := basisL_facts V.hm V.rows V.len
theorem Vd.pres_lt {u : Nat} (h : u ∈ presL hs) : u < n + par.length := by have := (presTo_lt u h).1; have := V.len; omega
theorem Vd.el_lt {u : Nat} (h : u < n + par.length) (q : Nat) : gEl n par u q < 2 ^ m := gEl_lt V.hm V.rows h q
theorem Vd.base_lt {u : Nat} (h : u ∈ basisL m n par hs) : u < n + par.length := V.pres_lt (V.basis.sub u h)
theorem Vd.span : SpanOk m n par (basisL m n par hs) (spanL m n par hs) := span_ok V.hm V.rows V.len V.n32
theorem Vd.inv : SInv m n (basisL m n par hs).length (fun k => gEl n par ((basisL m n par hs).getD k 0)) (spanL m n par hs) (basisL m n par hs).length := by
  have key : ∀ k, k < (basisL m n par hs).length → (basisL m n par hs).getD k 0 < n + par.length := fun k hk => by
    rw [show (basisL m n par hs).getD k 0 = (basisL m n par hs)[k] by simp [hk]]
    exact V.base_lt (List.getElem_mem _)
  exact spanTo_inv V.hm (row := fun k => gRow n par ((basisL m n par hs).getD k 0)) (fun k hk => gRow_len V.hm V.rows (key k hk)) (fun k hk => gRow_bd V.hm V.rows (key k hk)) _ (Nat.le_refl _)
theorem zeroB_iff {l : List Nat} : zeroB l = true ↔ ∀ q, q < l.length → ate l q = 0 := by
  unfold zeroB
  rw [List.all_eq_true]
  constructor
  · intro h q hq
    rw [ate_get hq]
    simpa using h _ (List.getElem_mem hq)
  · intro h x hx
    obtain ⟨q, hq, rfl⟩ := List.mem_iff_getElem.1 hx
    have := h q hq
    rw [ate_get hq] at this
    simpa using this
theorem Vd.ok {u : Nat} (hu : u < n + par.length) : (restL m n par (basisL m n par hs) (spanL m n par hs) u).1.length = n ∧ (restL m n par (basisL m n par hs) (spanL m n par hs) u).2.length = (basisL m n par hs).length ∧
    Bl m (restL m n par (basisL m n par hs) (spanL m n par hs) u).1 ∧ Bl m (restL m n par (basisL m n par hs) (spanL m n par hs) u).2 :=
  redL_ok V.hm (gRow_len V.hm V.rows hu) (gRow_bd V.hm V.rows hu) V.span.good _ (Nat.le_refl _)
/-- A unit is recoverable exactly if its row is a combination of the rows of the basis. -/
theorem Vd.rec_iff {u : Nat} (hu : u < n + par.length) : recB m n par hs u = true ↔ Spn m n (gEl n par) (basisL m n par hs) (gEl n par u) := by
  have h1 := (span_facts V.hm V.inv (gRow_len V.hm V.rows hu) (gRow_bd V.hm V.rows hu)).1
  have h2 := spn_pos (m := m) (C := n) (G := gEl n par) (inc_nodup V.hm V.basis.inc) (gEl n par u)
  rw [← h2]
  refine Iff.trans ?_ h1
  unfold recB
  rw [zeroB_iff V, (V.ok hu).1]
  exact Iff.rfl
/-- The indices of the terms. -/
def tIdx (m n : Nat) (par : List (List Int)) (hs : List Bool) (u : Nat) : List Nat := (List.range (basisL m n par hs).length).filter fun j => decide (ate (restL m n par (basisL m n par hs) (spanL m n par hs) u).2 j ≠ 0)
end

section
variable {m n : Nat} {par : List (List Int)} {hs : List Bool} (V : Vd m n par hs)
include V
/-- Term j of a unit: the unit of the basis and its coefficient. -/
theorem Vd.tm {u : Nat} (hu : u < n + par.length) : ∀ t ∈ cmbT m n par hs u, ∃ v c : Nat, t = ((v : Int), (c : Int)) ∧ v ∈ basisL m n par hs ∧ 0 < c ∧ c < 2 ^ m := by
  intro t ht
  obtain ⟨j, hj, rfl⟩ := List.mem_map.1 ht
  obtain ⟨h1, h2⟩ := List.mem_filter.1 hj
  have hjl := List.mem_range.1 h1
  have hne : ate (restL m n par (basisL m n par hs) (spanL m n par hs) u).2 j ≠ 0 := by simpa using h2
  refine ⟨_, _, rfl, ?_, by omega, (V.ok hu).2.2.2.ate j⟩
  rw [show (basisL m n par hs).getD j 0 = (basisL m n par hs)[j] by simp [hjl]]
  exact List.getElem_mem _
theorem Vd.cmb {u : Nat} (hu : u < n + par.length) (hr : recB m n par hs u = true) : ∀ q, q < n → gEl n par u q = lsum (tIdx m n par hs u) fun j => mu m (ate (restL m n par (basisL m n par hs) (spanL m n par hs) u).2 j) (gEl n par ((basisL m n par hs).getD j 0) q) := by
  have h1 := (span_facts V.hm V.inv (gRow_len V.hm V.rows hu) (gRow_bd V.hm V.rows hu)).2 (by
    have := (zeroB_iff V).1 hr
    rw [(V.ok hu).1] at this
    exact this)
  intro q hq
  refine (h1 q hq).trans ?_
  refine lsum_support ?_ List.nodup_range (fun i hi => (List.mem_filter.1 hi).1) (fun i hi hn => ?_)
  · exact filter_nodup V.hm List.nodup_range _
  · have h0 : ate (restL m n par (basisL m n par hs) (spanL m n par hs) u).2 i = 0 := by
      refine Classical.byContradiction fun h => hn (List.mem_filter.2 ⟨hi, by simpa using h⟩)
    show mu m (ate (restL m n par (basisL m n par hs) (spanL m n par hs) u).2 i) _ = 0
    rw [h0, zero_mu V.hm]
theorem Vd.row_nz {u : Nat} (hu : u < n + par.length) : ∃ q, q < n ∧ gEl n par u q ≠ 0 := by
  by_cases h : u < n
  · refine ⟨u, h, ?_⟩
    unfold gEl gRow natRow
    rw [rowOf_low h, ate_get (by simp; exact h)]
    simp
  · have hk : u - n < par.length := by omega
    have hnz := V.nz par[u - n] (List.getElem_mem _)
    rw [List.all_eq_false] at hnz
    obtain ⟨x, hx, hx0⟩ := hnz
    obtain ⟨q, hq, rfl⟩ := List.mem_iff_getElem.1 hx
    have hl := (V.rows par[u - n] (List.getElem_mem _)).1
    refine ⟨q, by omega, fun h0 => hx0 ?_⟩
    have hb := gRow_ints V.hm V.rows hu
    rw [rowOf_high (by omega) hk] at hb
    unfold gEl at h0
    have hgl : (gRow n par u).length = n := gRow_len V.hm V.rows hu
    rw [ate_get (by omega)] at h0
    have : (nints (gRow n par u))[q]'(by simp [nints]; omega) = par[u - n][q] := by simp only [hb]
    simp only [nints, List.getElem_map, h0] at this
    simp [← this]
theorem Vd.tm_ne {u : Nat} (hu : u < n + par.length) (hr : recB m n par hs u = true) : cmbT m n par hs u ≠ [] := by
  intro h
  obtain ⟨q, hq, hne⟩ := V.row_nz hu
  have h1 := V.cmb hu hr q hq
  have h2 : tIdx m n par hs u = [] := by
    have : (cmbT m n par hs u).length = (tIdx m n par hs u).length := by
      unfold cmbT termsTo tIdx
      rw [List.length_map]
    exact List.eq_nil_of_length_eq_zero (by rw [← this, h]; rfl)
  rw [h2] at h1
  exact hne h1
theorem Vd.tm_len {u : Nat} : (cmbT m n par hs u).length ≤ 32 := by
  have h1 := termsTo_len (basisL m n par hs) (restL m n par (basisL m n par hs) (spanL m n par hs) u).2 (basisL m n par hs).length
  have := V.span.bl
  unfold cmbT
  omega
end

/-- The size of the present units. -/
def szU (us : List ByteArray) (hs : List Bool) : Nat := (((puTo us hs hs.length)[0]?.getD ByteArray.empty)).size
theorem uni_all {m : Nat} {us : List ByteArray} {hs : List Bool} (h : uniB m (puTo us hs hs.length) = true) {v : Nat} (hv : v ∈ presL hs) : (us.getD v ByteArray.empty).size = szU us hs ∧ (m = 8 ∨ (us.getD v ByteArray.empty).size % 2 = 0) := by
  unfold uniB at h
  rw [List.all_eq_true] at h
  have := h (us.getD v ByteArray.empty) (List.mem_map.2 ⟨v, hv, rfl⟩)
  unfold uniOne at this
  simp only [Bool.and_eq_true, Bool.or_eq_true, decide_eq_true_eq] at this
  exact ⟨this.1, this.2.imp (fun h => by omega) id⟩
theorem Vd.tmOk {m n : Nat} {par : List (List Int)} {hs : List Bool} (V : Vd m n par hs) {us : List ByteArray} (hul : us.length = n + par.length) (h : uniB m (puTo us hs hs.length) = true) {u : Nat} (hu : u < n + par.length) : TmOk m us (szU us hs) (cmbT m n par hs u) := by
  intro t ht
  obtain ⟨v, c, rfl, hv, h1, h2⟩ := V.tm hu t ht
  exact ⟨v, c, rfl, by have := V.base_lt hv; omega, h2, (uni_all h (V.basis.sub v hv)).1⟩
theorem Vd.sz {m n : Nat} {par : List (List Int)} {hs : List Bool} (V : Vd m n par hs) {us : List ByteArray} (hul : us.length = n + par.length) (hsz : ∀ u ∈ us, u.size ≤ lim) (h : uniB m (puTo us hs hs.length) = true) {u : Nat} (hu : u < n + par.length) (hr : recB m n par hs u = true) : szU us hs % (m / 8) = 0 ∧ szU us hs ≤ lim := by
  obtain ⟨t, ht⟩ := List.exists_mem_of_ne_nil _ (V.tm_ne hu hr)
  obtain ⟨v, c, rfl, hv, h1, h2⟩ := V.tm hu t ht
  obtain ⟨h3, h4⟩ := uni_all h (V.basis.sub v hv)
  have hvl : v < us.length := by have := V.base_lt hv; omega
  have hm := V.hm
  rw [← h3]
  refine ⟨?_, ?_⟩
  · rcases hm with rfl | rfl
    · simp; omega
    · rcases h4 with h | h
      · omega
      · simpa using h
  · rw [show us.getD v ByteArray.empty = us[v] by simp [hvl]]
    exact hsz _ (List.getElem_mem _)

end Go.Proofs.YtgflflpeilfinaaDoor

/- How many units the basis has; what more units bring. No walk here. -/
set_option linter.unusedVariables false
set_option linter.unusedSimpArgs false
set_option linter.unusedSectionVars false
namespace Go.Proofs.YtgflflpeilfinaaDoor
open Go.RowKit

theorem gEl_low {n : Nat} {par : List (List Int)} {u q : Nat} (hu : u < n) (hq : q < n) : gEl n par u q = if u = q then 1 else 0 := by
  unfold gEl gRow natRow
  rw [rowOf_low hu, ate_get (by simp; exact hq)]
  simp
  split <;> rfl
section
variable {m n : Nat} {par : List (List Int)} {hs : List Bool} (V : Vd m n par hs)
include V
theorem Vd.nodup : (basisL m n par hs).Nodup := inc_nodup V.hm V.basis.inc
theorem Vd.len_n : (basisL m n par hs).length ≤ n := basisL_len V.hm V.rows V.len
theorem Vd.len_pres : (basisL m n par hs).length ≤ (presL hs).length :=
  dim_le V.hm V.nodup V.basis.ind fun u hu => Spn.self V.hm (inc_nodup V.hm (presL_inc hs)) (V.basis.sub u hu) fun q _ => V.el_lt (V.base_lt hu) q
theorem Vd.unit_ind : Ind m n (gEl n par) (List.range n) := by
  intro x hx u hu
  have hun := List.mem_range.1 hu
  have := hx u hun
  rw [lsum_one List.nodup_range hu (fun i hi hne => by
    rw [gEl_low (List.mem_range.1 hi) hun, if_neg hne]; exact mu_zero V.hm _)] at this
  rw [gEl_low hun hun, if_pos rfl, mu_one_mod V.hm] at this
  exact this
theorem Vd.full_of {b : List Nat} (h : ∀ u, u < n → Spn m n (gEl n par) b (gEl n par u)) : n ≤ b.length := by
  have := dim_le V.hm (l := List.range n) (k := b) List.nodup_range V.unit_ind (fun u hu => h u (List.mem_range.1 hu))
  simpa using this
/-- With all data units the basis is whole. -/
theorem Vd.data_full (h : ∀ j, j < n → hs.getD j false = true) : (basisL m n par hs).length = n := by
  have h1 := V.len_n
  have h2 := V.full_of (b := basisL m n par hs) (fun u hu => V.basis.all V.hm (fun v hv q _ => V.el_lt (V.pres_lt hv) q) u (mem_presL.2 (h u hu)))
  omega
/-- A whole basis spans every row. -/
theorem Vd.whole (h : (basisL m n par hs).length = n) {u : Nat} (hu : u < n + par.length) : Spn m n (gEl n par) (basisL m n par hs) (gEl n par u) := by
  refine Classical.byContradiction fun hn => ?_
  have hub : u ∉ basisL m n par hs := fun hm => hn (Spn.self V.hm V.nodup hm fun q _ => V.el_lt hu q)
  have hi := V.basis.ind.cons V.hm hub hn (fun q _ => V.el_lt hu q)
  have := dim_le V.hm (H := gEl n par) (k := List.range n) (List.nodup_cons.2 ⟨hub, V.nodup⟩) hi (fun v hv => by
    have hvN : v < n + par.length := by
      rcases List.mem_cons.1 hv with rfl | hv
      · exact hu
      · exact V.base_lt hv
    refine ⟨gEl n par v, fun q hq => ?_⟩
    rw [lsum_one List.nodup_range (List.mem_range.2 hq) (fun i hi hne => by
      rw [gEl_low (List.mem_range.1 hi) hq, if_neg hne]; exact mu_zero V.hm _)]
    rw [gEl_low hq hq, if_pos rfl, mu_one V.hm (V.el_lt hvN q)])
  simp at this
  omega
theorem Vd.rec_all : (∀ u, u < n + par.length → recB m n par hs u = true) ↔ (basisL m n par hs).length = n := by
  constructor
  · intro h
    have h1 := V.len_n
    have h2 := V.full_of (b := basisL m n par hs) (fun u hu => (V.rec_iff (by omega)).1 (h u (by omega)))
    omega
  · intro h u hu
    exact (V.rec_iff hu).2 (V.whole h hu)
/-- A present unit is recoverable. -/
theorem Vd.rec_pres {u : Nat} (hu : u < n + par.length) (h : hs.getD u false = true) : recB m n par hs u = true :=
  (V.rec_iff hu).2 (V.basis.all V.hm (fun v hv q _ => V.el_lt (V.pres_lt hv) q) u (mem_presL.2 h))
/-- The basis spans what the present units span. -/
theorem Vd.spn_pres {t : Nat → Nat} : Spn m n (gEl n par) (basisL m n par hs) t ↔ Spn m n (gEl n par) (presL hs) t := by
  constructor
  · intro h
    exact h.mono V.hm (inc_nodup V.hm (presL_inc hs)) V.basis.sub (fun u hu q _ => V.el_lt (V.pres_lt hu) q)
  · intro h
    exact h.trans V.hm (V.basis.all V.hm (fun v hv q _ => V.el_lt (V.pres_lt hv) q))
/-- One more unit. -/
theorem Vd.more {hs' : List Bool} {k : Nat} (V' : Vd m n par hs') (hk : k < n + par.length) (h : ∀ u, hs'.getD u false = true ↔ (hs.getD u false = true ∨ u = k)) :
    (basisL m n par hs).length ≤ (basisL m n par hs').length ∧ (basisL m n par hs').length ≤ (basisL m n par hs).length + 1 ∧ recB m n par hs' k = true ∧ ∀ u, u < n + par.length → recB m n par hs u = true → recB m n par hs' u = true := by
  have hsub : ∀ u ∈ presL hs, u ∈ presL hs' := fun u hu => mem_presL.2 ((h u).2 (.inl (mem_presL.1 hu)))
  have hnd' := inc_nodup V.hm (presL_inc hs')
  have hup : ∀ t, Spn m n (gEl n par) (presL hs) t → Spn m n (gEl n par) (presL hs') t := fun t ht => ht.mono V.hm hnd' hsub (fun u hu q _ => V.el_lt (V'.pres_lt hu) q)
  refine ⟨?_, ?_, V'.rec_pres hk ((h k).2 (.inr rfl)), fun u hu hr => ?_⟩
  · exact dim_le V.hm V.nodup V.basis.ind fun u hu => V'.spn_pres.2 (hup _ (V.spn_pres.1 (Spn.self V.hm V.nodup hu fun q _ => V.el_lt (V.base_lt hu) q)))
  · by_cases hkb : k ∈ basisL m n par hs
    · have := dim_le V.hm (k := basisL m n par hs) V'.nodup V'.basis.ind fun u hu => by
        have hu' := mem_presL.1 (V'.basis.sub u hu)
        rcases (h u).1 hu' with h1 | rfl
        · exact V.basis.all V.hm (fun v hv q _ => V.el_lt (V.pres_lt hv) q) u (mem_presL.2 h1)
        · exact Spn.self V.hm V.nodup hkb fun q _ => V.el_lt hk q
      omega
    · have := dim_le V.hm (k := k :: basisL m n par hs) V'.nodup V'.basis.ind fun u hu => by
        have hu' := mem_presL.1 (V'.basis.sub u hu)
        have hnk : (k :: basisL m n par hs).Nodup := List.nodup_cons.2 ⟨hkb, V.nodup⟩
        have hbd : ∀ v ∈ k :: basisL m n par hs, ∀ q, q < n → gEl n par v q < 2 ^ m := fun v hv q _ => by
          rcases List.mem_cons.1 hv with rfl | hv
          · exact V.el_lt hk q
          · exact V.el_lt (V.base_lt hv) q
        rcases (h u).1 hu' with h1 | rfl
        · exact (V.basis.all V.hm (fun v hv q _ => V.el_lt (V.pres_lt hv) q) u (mem_presL.2 h1)).mono V.hm hnk (fun v hv => by simp [hv]) hbd
        · exact Spn.self V.hm hnk (by simp) (hbd _ (by simp))
      simpa using this
  · exact (V'.rec_iff hu).2 (V'.spn_pres.2 (hup _ (V.spn_pres.1 ((V.rec_iff hu).1 hr))))
end

end Go.Proofs.YtgflflpeilfinaaDoor
