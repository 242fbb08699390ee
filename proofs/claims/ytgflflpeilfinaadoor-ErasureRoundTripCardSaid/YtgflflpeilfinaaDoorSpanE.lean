/- The walk of erasure.spanOf. -/
import Derived.Test.YtgflflpeilfinaaDoorSpanD
import Derived.WalkMore
set_option linter.unusedVariables false
set_option linter.unusedSectionVars false
set_option linter.unusedSimpArgs false
namespace Go.Proofs.YtgflflpeilfinaaDoor
open Go.RowKit

theorem leadOf_at {l : List Nat} {c : Nat} (hc : c < l.length) (h0 : ∀ p, p < c → ate l p = 0) (h : ate l c ≠ 0) : leadOf l = some c := by
  unfold leadOf
  rw [List.findIdx?_eq_some_iff_getElem]
  refine ⟨hc, by rw [ate_get hc] at h; simpa using h, fun j hj => ?_⟩
  have := h0 j hj
  rw [ate_get (by omega)] at this
  simp [this]
theorem leadOf_all {l : List Nat} (h0 : ∀ p, p < l.length → ate l p = 0) : leadOf l = none := by
  unfold leadOf
  rw [List.findIdx?_eq_none_iff]
  intro x hx
  obtain ⟨p, hp, rfl⟩ := List.mem_iff_getElem.1 hx
  have := h0 p hp
  rw [ate_get hp] at this
  simp [this]
/-- The rows of the span are well formed. -/
def RedOk (m C K : Nat) (reds : List Red) : Prop := ∀ r ∈ reds, r.col < C ∧ r.row.length = C ∧ r.coef.length = K ∧ Bl m r.row ∧ Bl m r.coef
theorem spanStep_ok {m C K k : Nat} (hm : Fm m) {reds : List Red} (h : RedOk m C K reds) {row : List Nat} (hrow : row.length = C) (hbr : Bl m row) : RedOk m C K (spanStep m K reds k row) := by
  obtain ⟨h1, h2, h3, h4⟩ := redL_ok hm hrow hbr h reds.length (Nat.le_refl _)
  unfold spanStep
  simp only []
  cases hl : leadOf (redL m reds row K reds.length).1 with
  | none => exact h
  | some col =>
    simp only [hl]
    intro r hr
    rcases List.mem_append.1 hr with hr | hr
    · exact h r hr
    · have hr' := List.mem_singleton.1 hr
      obtain ⟨hc, _⟩ := leadOf_some hm hl
      subst hr'
      have hf := ginv_lt hm (h3.ate col)
      refine ⟨by rw [← h1]; exact hc, by simp [addL_len, h1], by simp [addL_len, h2], Bl.addL hm hf (Bl_zeros _ _) h3, Bl.addL hm hf (Bl_zeros _ _) ?_⟩
      intro x hx
      rcases List.mem_or_eq_of_mem_set hx with hx | hx
      · exact h4 x hx
      · rw [hx]; exact Nat.xor_lt_two_pow (h4.ate k) (one_lt hm)
theorem spanTo_ok {m C K : Nat} (hm : Fm m) {row : Nat → List Nat} : ∀ k, (∀ j, j < k → (row j).length = C ∧ Bl m (row j)) → RedOk m C K (spanTo m K row k)
  | 0, _ => by intro r hr; simp [spanTo] at hr
  | k + 1, h => spanStep_ok hm (spanTo_ok hm k fun j hj => h j (by omega)) (h k (by omega)).1 (h k (by omega)).2
theorem spanStep_len {m K : Nat} (reds : List Red) (k : Nat) (row : List Nat) : (spanStep m K reds k row).length ≤ reds.length + 1 := by
  unfold spanStep
  simp only []
  split
  · omega
  · simp
theorem spanTo_len {m K : Nat} {row : Nat → List Nat} : ∀ k, (spanTo m K row k).length ≤ k
  | 0 => by simp [spanTo]
  | k + 1 => by have := spanTo_len (m := m) (K := K) (row := row) k; have := spanStep_len (m := m) (K := K) (spanTo m K row k) k (row k); simp only [spanTo]; omega

/-- The span of the basis of the present units. -/
def spanL (m n : Nat) (par : List (List Int)) (hs : List Bool) : List Red :=
  spanTo m (basisL m n par hs).length (fun k => gRow n par ((basisL m n par hs).getD k 0)) (basisL m n par hs).length

theorem basisL_facts {m n : Nat} {par : List (List Int)} {hs : List Bool} (hm : Fm m) (hrw : ∀ row ∈ par, row.length = n ∧ row.all (elemB m) = true) (hN : hs.length = n + par.length) : IsBasis m n (gEl n par) (presL hs) (basisL m n par hs) := by
  have hpl : ∀ u ∈ presL hs, u < n + par.length := fun u hu => by have := (presTo_lt u hu).1; omega
  have hG : ∀ p q, p < (presL hs).length → q < n → gEl n par ((presL hs).getD p 0) q < 2 ^ m := fun p q hp hq => by
    refine gEl_lt hm hrw (hpl _ ?_) q
    rw [show (presL hs).getD p 0 = (presL hs)[p] by simp [hp]]
    exact List.getElem_mem _
  exact basis_sel hm (presL_inc hs) (fun u hu q _ => gEl_lt hm hrw (hpl u hu) q) (indep_facts hm hG rfl)

set_option maxRecDepth 100000 in
set_option maxHeartbeats 8000000 in
theorem spanOf_ok (nm : ByteArray) (m n : Nat) (dm : Int) (par : List (List Int)) (vp vh : Value) (hs : List Bool) (w : World) (hl : Laid w) (hp : RRows w vp par) (hh : RBools w vh hs) (hok : okB m n par = true) (hN : hs.length = n + par.length) :
    Calls Tryd.prog 52 #[vCd nm m n vp dm, vh] w fun e w' => ∃ S, e = .returned (.tuple #[.pointer (some ⟨S, 0, none⟩), .int .i64 0]) ∧ SpanAt w' S nm m n vp dm (basisL m n par hs) (spanL m n par hs) ∧ w.heap.size ≤ S ∧ Ext w w' := by
  have HP := Lib.hid hp
  have HK := Lib.hid hok
  have HH := Lib.hid hh
  obtain ⟨A, c, rfl, hlen, hvc⟩ := hp.form
  obtain ⟨m', n', em, en, hm, hn1, hn2, hrows⟩ := okB_facts hok
  obtain rfl : m = m' := by omega
  obtain rfl : n = n' := by omega
  have hrw : ∀ row ∈ par, row.length = n ∧ row.all (elemB m) = true := fun row h => ⟨(hrows row h).1, (hrows row h).2.1⟩
  have hBF := basisL_facts (hs := hs) hm hrw hN
  obtain ⟨b, hb⟩ : ∃ b, b = basisL m n par hs := ⟨_, rfl⟩
  have hbu : ∀ u ∈ b, u < n + par.length := fun u hu => by rw [hb] at hu; have := (presTo_lt u (hBF.sub u hu)).1; omega
  have HROW : Hid (∀ u ∈ b, (gRow n par u).length = n ∧ Bl m (gRow n par u)) := fun u hu => ⟨gRow_len hm hrw (hbu u hu), gRow_bd hm hrw (hbu u hu)⟩
  have hb32 : b.length ≤ 32 := by
    rw [hb]
    unfold basisL
    rw [List.length_map]
    have : (indep m (presL hs).length n fun i q => gEl n par ((presL hs).getD i 0) q).length ≤ n := redTo_len hm (fun p q hp hq => by
      refine gEl_lt hm hrw ?_ p
      rw [show (presL hs).getD q 0 = (presL hs)[q] by simp [hq]]
      have := (presTo_lt _ (List.getElem_mem (l := presL hs) hq)).1
      omega)
    omega
  have HBU := Lib.hid hbu
  have HBS := Lib.hid fun W h1 h2 h3 => basis_ok nm m n dm par (.slice A par.length c) vh hs W h1 h2 h3 hok hN
  have HGN := Lib.hid fun W h1 h2 => eragen_ok nm m n dm par (.slice A par.length c) W h1 h2 hok
  have HFL : Hid (ivs (genL n par) = nvs (flatM (n + par.length) n (gEl n par))) := by show _ = _; rw [genL_flat hm hrw]; rfl
  have HRX := Lib.hid (fun row h => (hrw row h).1)
  have HM := Lib.hid hm
  have HBE := Lib.hid hb
  rw [← hb] at HBS
  obtain ⟨K, hKe⟩ : ∃ K, K = b.length := ⟨_, rfl⟩
  obtain ⟨N, hNe⟩ : ∃ N, N = n + par.length := ⟨_, rfl⟩
  have HKE := Lib.hid hKe
  have HNE := Lib.hid hNe
  rw [← hKe] at HBS hb32
  rw [← hNe] at HGN HFL HBU hn2
  have hn0 : 0 < n := hn1
  have hn32 : n ≤ 32 := by have := HNE.out; omega
  have hmkn := fun W => make_zero (P := Tryd.prog) W 29 3 _ (.int .i64 0) 8 Tryd.underlying29 rfl rfl rfl rfl rfl n (by omega) (by omega)
  have hmkk := fun W => make_zero (P := Tryd.prog) W 29 3 _ (.int .i64 0) 8 Tryd.underlying29 rfl rfl rfl rfl rfl K (by omega) (by omega)
  simp only [List.toArray_replicate] at hmkn hmkk
  have hx0 : Ext w (w.alloc (.cells #[.string nm, .int .i64 m, .int .i64 n, .slice A par.length c, .int .i64 dm] 24)) := ext_alloc (ext_refl w) _
  clear hp hok hh hrows hrw hBF hb hbu hm em en hKe hNe hN
  go_enter Tryd.func52, Tryd.ntmps52
  go_wp2_with fail
  go_step3
  go_wp2_with fail
  refine (HBS.out _ (hl.ext hx0) (HP.out.ext hx0) (RBools.ext HH.out hx0)).mono ?_
  rintro e w1 ⟨vb, rfl, hob, hx1⟩
  obtain ⟨Ab, cb, rfl, -⟩ := own_seg hob (by omega)
  have HOB := Lib.hid hob
  have hx2 := ext_trans hx0 hx1
  have c0 := ext_cell hx1 (a := ⟨w.heap.size, 0, none⟩) (v := .string nm) (by simp [go_sem])
  have c1 := ext_cell hx1 (a := ⟨w.heap.size, 1, none⟩) (v := .int .i64 m) (by simp [go_sem])
  have c2 := ext_cell hx1 (a := ⟨w.heap.size, 2, none⟩) (v := .int .i64 n) (by simp [go_sem])
  have c3 := ext_cell hx1 (a := ⟨w.heap.size, 3, none⟩) (v := .slice A par.length c) (by simp [go_sem])
  have c4 := ext_cell hx1 (a := ⟨w.heap.size, 4, none⟩) (v := .int .i64 dm) (by simp [go_sem])
  clear hob
  go_wp2_with fail
  refine (HGN.out _ (hl.ext hx2) (HP.out.ext hx2)).mono ?_
  rintro e w2 ⟨vg, rfl, hog, hx3⟩
  have hnN : n * 1 ≤ N * n := by have := HNE.out; rw [Nat.mul_comm N n]; exact Nat.mul_le_mul_left n (by omega)
  obtain ⟨gg, cg, rfl⟩ := own_some hog (by omega)
  have HOG := Lib.hid hog
  have hx4 := ext_trans hx2 hx3
  have c0 := ext_cell hx3 c0
  have c1 := ext_cell hx3 c1
  have c2 := ext_cell hx3 c2
  have c3 := ext_cell hx3 c3
  have c4 := ext_cell hx3 c4
  clear hog hnN
  have hx5 : Ext w2 (w2.alloc (.cells #[.int .i64 m, .int .i64 N, .int .i64 n, .slice (some ⟨gg, 0, none⟩) (N * n) cg] 31)) := ext_alloc (ext_refl w2) _
  have c0 := ext_cell hx5 c0
  have c1 := ext_cell hx5 c1
  have c2 := ext_cell hx5 c2
  have c3 := ext_cell hx5 c3
  have c4 := ext_cell hx5 c4
  go_wp2_with fail
  have hx6 := ext_trans hx5 (ext_alloc (ext_refl (w2.alloc (.cells #[.int .i64 m, .int .i64 N, .int .i64 n, .slice (some ⟨gg, 0, none⟩) (N * n) cg] 31))) (.cells #[.string nm, .int .i64 m, .int .i64 n, .slice A par.length c, .int .i64 dm, .slice Ab K cb, .slice none 0 0] 98))
  have hS0 := row_alloc (w2.alloc (.cells #[.int .i64 m, .int .i64 N, .int .i64 n, .slice (some ⟨gg, 0, none⟩) (N * n) cg] 31)) #[.string nm, .int .i64 m, .int .i64 n, .slice A par.length c, .int .i64 dm, .slice Ab K cb, .slice none 0 0] 98 (w2.heap.size + 1) (by simp)
  have hM0 := row_alloc_old (row_alloc w2 #[.int .i64 m, .int .i64 N, .int .i64 n, .slice (some ⟨gg, 0, none⟩) (N * n) cg] 31 w2.heap.size rfl) (.cells #[.string nm, .int .i64 m, .int .i64 n, .slice A par.length c, .int .i64 dm, .slice Ab K cb, .slice none 0 0] 98)
  have hz0 : ((w2.alloc (.cells #[.int .i64 m, .int .i64 N, .int .i64 n, .slice (some ⟨gg, 0, none⟩) (N * n) cg] 31)).alloc (.cells #[.string nm, .int .i64 m, .int .i64 n, .slice A par.length c, .int .i64 dm, .slice Ab K cb, .slice none 0 0] 98)).heap.size = w2.heap.size + 1 + 1 := by simp
  obtain ⟨W0, hW0⟩ : ∃ W0, W0 = (w2.alloc (.cells #[.int .i64 m, .int .i64 N, .int .i64 n, .slice (some ⟨gg, 0, none⟩) (N * n) cg] 31)).alloc (.cells #[.string nm, .int .i64 m, .int .i64 n, .slice A par.length c, .int .i64 dm, .slice Ab K cb, .slice none 0 0] 98) := ⟨_, rfl⟩
  rw [← hW0] at hx6 hS0 hM0 hz0 ⊢
  obtain ⟨S, hS⟩ : ∃ S, S = w2.heap.size + 1 := ⟨_, rfl⟩
  rw [← hS] at hS0 hz0 ⊢
  obtain ⟨GM, hGM⟩ : ∃ GM, GM = w2.heap.size := ⟨_, rfl⟩
  rw [← hGM] at hM0 ⊢
  have hx7 := ext_trans hx4 hx6
  have hxb : Ext w1 W0 := ext_trans hx3 hx6
  have hw1sz := hx2.size
  have hw2sz := hx3.size
  have hSB : S < W0.heap.size := by omega
  have hGS : GM < S := by omega
  have hw2S : w2.heap.size < S := by omega
  have hwlt : w.heap.size < w1.heap.size := World.block_lt_of_cell? w1 ⟨w.heap.size, 0, none⟩ (by have := hx1.size; have h := ext_cell hx1 (a := ⟨w.heap.size, 0, none⟩) (v := .string nm) (by simp [go_sem]); exact h)
  have hwS : w.heap.size < S := by omega
  have c0 := ext_cell (ext_alloc (ext_refl _) (.cells #[.string nm, .int .i64 m, .int .i64 n, .slice A par.length c, .int .i64 dm, .slice Ab K cb, .slice none 0 0] 98)) c0
  have c1 := ext_cell (ext_alloc (ext_refl _) (.cells #[.string nm, .int .i64 m, .int .i64 n, .slice A par.length c, .int .i64 dm, .slice Ab K cb, .slice none 0 0] 98)) c1
  have c2 := ext_cell (ext_alloc (ext_refl _) (.cells #[.string nm, .int .i64 m, .int .i64 n, .slice A par.length c, .int .i64 dm, .slice Ab K cb, .slice none 0 0] 98)) c2
  rw [← hW0] at c0 c1 c2
  have m3 := row_cell hM0 3 (v := .slice (some ⟨gg, 0, none⟩) (N * n) cg) rfl
  have HVB0 : Hid (RInts w1 (.slice Ab K cb) (nints b)) := by
    have hKE := HKE.out
    have := own_sl HOB.out (by rw [nvs_len, lim_val]; omega)
    exact this
  have HVB : Hid (RInts W0 (.slice Ab K cb) (nints b)) := RInts.ext HVB0.out hxb
  have hcap : N * n ≤ cg ∧ cg ≤ maxLen := by
    rcases HOG.out.2 with ⟨h, _⟩ | ⟨g, cap, cur, h, _, _, h3, h4, _⟩
    · cases h
    · injection h with h5 h6 h7; subst h7; exact ⟨h3, h4⟩
  have HVR : Hid (∀ u p q, u < N → p = u * n → q = p + n → RInts W0 (.slice (some ⟨gg, p, none⟩) (q - p) (cg - p)) (nints (gRow n par u))) := by
    show ∀ u p q, _ → _ → _ → _
    intro u p q hu hp hq
    have hgl : (gRow n par u).length = n := by
      unfold gRow natRow
      rw [List.length_map]
      exact rowOf_length (fun row h => (HRX.out row h)) (by have := HNE.out; omega)
    refine ⟨_, cg - p, by rw [show (List.map (Value.int .i64) (nints (gRow n par u))).length = q - p by simp [nints, hgl]; omega], by have := HNE.out; rw [lim_val]; simp [nints, hgl]; omega, .inr ⟨gg, p, rfl, fun j v hv => ?_⟩⟩
    have hjn : j < n := by
      have := (List.getElem?_eq_some_iff.1 hv).1
      simpa [nints, hgl] using this
    have h1 := HOG.out.cells (g := gg) rfl (u * n + j) (.int .i64 (gEl n par u j : Nat)) (by
      rw [HFL.out]
      unfold nvs nints ivs
      rw [List.getElem?_map, List.getElem?_map, flatM_get _ hu hjn]
      rfl)
    rw [add_plain', Nat.zero_add] at h1
    have h2 := ext_cell hx6 h1
    rw [hp, h2]
    unfold gEl
    rw [ate_get (by omega)]
    obtain ⟨hv1, hv2⟩ := List.getElem?_eq_some_iff.1 hv
    rw [← hv2]
    simp [nints]
  obtain ⟨rowf, hrf⟩ : ∃ rowf : Nat → List Nat, rowf = fun k => gRow n par (b.getD k 0) := ⟨_, rfl⟩
  have HRF := Lib.hid hrf
  have HS00 := Lib.hid hS0
  have HX7 := Lib.hid hx7
  have HCAP := Lib.hid hcap
  have hlp := hl.pos
  have hl0 := Lib.hid (hl.ext hx7)
  have hS00 : 0 < S := by omega
  have hNE2 : N ≤ 32 := hn2
  have HGG : Hid (gg < S) := by
    show gg < S
    have := (HOG.out.lt gg rfl).2
    omega
  have hbb : ∀ bb oo, Ab = some ⟨bb, oo, none⟩ → 0 < K → bb < S := by
    intro bb oo e hK
    obtain ⟨b', o', h1, h2⟩ := HVB0.out.get 0 (by have := HKE.out; simp [nints]; omega)
    rw [e] at h1
    injection h1 with h1
    injection h1 with h1 h3
    subst h1
    have := World.block_lt_of_cell? w1 _ h2
    simp at this
    omega
  have HBB := Lib.hid hbb
  clear hx0 hx1 hx2 hx3 hx4 hx5 hx6 hx7 hS0 hM0 hz0 hW0 hS hGM hxb hrf HVB0 hcap HOG HOB HGN HBS hw1sz hw2sz hw2S hwlt hbb
  go_step3
  go_wp2_with fail
  go_loopw [40] (fun iv wr => ∃ (k : Nat) (vr : Value) (gs : List (Nat × Nat)), k ≤ K ∧ iv = .int .i64 k ∧ Hid (wr.heap[S]? = some (.cells #[.string nm, .int .i64 m, .int .i64 n, .slice A par.length c, .int .i64 dm, .slice Ab K cb, vr] 98 (0, 0))) ∧ Hid (RedsO W0.heap.size wr vr (spanTo m K rowf k) gs) ∧ Hid (W0.grownBy wr (some S))) (fun iv _ => K - (intOf iv).toNat)
  case atStart => exact ⟨0, .slice none 0 0, [], Nat.zero_le _, rfl, HS00.out, ⟨rfl, by simpa [spanTo, redCells] using own_nil' _ _ _ _, fun i hi => by simp [spanTo] at hi⟩, World.grownBy.refl _ _⟩
  case round =>
    obtain ⟨k, vr, gs, hk, rfl, hrow, hreds, hgr⟩ := hrel
    have s1 := row_cell hrow.out 1 (v := .int .i64 m) rfl
    have s2 := row_cell hrow.out 2 (v := .int .i64 n) rfl
    have s5 := row_cell hrow.out 5 (v := .slice Ab K cb) rfl
    have s6 := row_cell hrow.out 6 (v := vr) rfl
    have hexw : Hid (Ext w wr) := Below.grown HX7.out hgr.out HX7.out.size (fun i e => by cases e; omega)
    by_cases hlt : k < K
    · obtain ⟨bb, oo, hA, hcu⟩ := HVB.out.get k (by have := HKE.out; simp [nints]; omega)
      have hbS := HBB.out bb oo hA (by omega)
      subst hA
      have hkb : k < b.length := by have := HKE.out; omega
      obtain ⟨u, hu⟩ : ∃ u, u = b[k] := ⟨_, rfl⟩
      have huN : u < N := by rw [hu]; exact HBU.out _ (List.getElem_mem _)
      have hcu2 : wr.cell? ⟨bb, oo + k, none⟩ = some (.int .i64 (u : Nat)) := hgr.out.cell (by rw [hcu, hu]; simp [nints]) (by intro e; injection e with e; simp at e; omega)
      have d1 := hgr.out.cell c1 (by intro e; injection e with e; simp at e; omega)
      have d2 := hgr.out.cell c2 (by intro e; injection e with e; simp at e; omega)
      have dm3 := hgr.out.cell m3 (by intro e; injection e with e; simp at e; omega)
      have hRK : Hid (rowf k = gRow n par u) := by show _ = _; rw [HRF.out, hu]; simp [hkb]
      obtain ⟨p, hp⟩ : ∃ p, p = u * n := ⟨_, rfl⟩
      obtain ⟨q, hq⟩ : ∃ q, q = p + n := ⟨_, rfl⟩
      have hqN : q ≤ N * n := by
        have : (u + 1) * n ≤ N * n := Nat.mul_le_mul_right n (by omega)
        rw [Nat.add_mul, Nat.one_mul, ← hp, ← hq] at this
        exact this
      have hNn : N * n ≤ 1024 := Nat.le_trans (Nat.mul_le_mul hNE2 (show n ≤ 32 by have := HNE.out; omega)) (by omega)
      have hcc := HCAP.out.1
      have hcm := HCAP.out.2
      unfold maxLen at hcm
      have y1 : IntKind.i64.wrap ((u : Int) * (n : Int)) = (p : Int) := by rw [← Int.natCast_mul, ← hp]; exact IntWalk.i64_in _ (by omega)
      have y2 : IntKind.i64.wrap ((u : Int) + 1) = (u : Int) + 1 := IntWalk.i64_in _ (by omega)
      have y3 : IntKind.i64.wrap (((u : Int) + 1) * (n : Int)) = (q : Int) := by
        have : ((u : Int) + 1) * (n : Int) = (q : Int) := by
          rw [show ((u : Int) + 1) = ((u + 1 : Nat) : Int) by simp, ← Int.natCast_mul, Nat.add_mul, Nat.one_mul, ← hp, ← hq]
        rw [this]; exact IntWalk.i64_in _ (by omega)
      have hVW := Lib.hid (RInts.grown (HVR.out u p q huN hp hq) hgr.out (fun b' o' n' c' e => by
        injection e with e1 e2 e3
        injection e1 with e1
        injection e1 with e1 e4
        intro e5
        injection e5 with e5
        have := HGG.out
        omega))
      have hpq : p ≤ q := by omega
      have hqc : q ≤ cg := by omega
      have hpc : p < cg := by omega
      have hgood := spanTo_ok (K := K) (C := n) (row := rowf) HM.out k (fun j hj => by
        have hjb : j < b.length := by omega
        have : rowf j = gRow n par b[j] := by rw [HRF.out]; simp [hjb]
        rw [this]
        exact HROW.out _ (List.getElem_mem _))
      have hsl := spanTo_len (m := m) (K := K) (row := rowf) k
      obtain ⟨reds, hre⟩ : ∃ reds, reds = spanTo m K rowf k := ⟨_, rfl⟩
      rw [← hre] at hreds hgood hsl
      have HRE := Lib.hid hre
      have hRR := Lib.hid (hreds.out.reads (fun r hr => by obtain ⟨_, h2, h3, _, _⟩ := hgood r hr; rw [h2, h3, lim_val]; have := HNE.out; omega))
      have hrowl := Lib.hid (show (gRow n par u).length = n ∧ Bl m (gRow n par u) by rw [hu]; exact HROW.out _ (List.getElem_mem _))
      have HRDC := Lib.hid fun Wx t1 t2 t3 t4 t5 t6 => spanReduce_any m n K HM.out hn0 (by have := HNE.out; omega) hb32 (gRow n par u) hrowl.out.1 hrowl.out.2 reds (by omega) (by omega) hgood S cb (some ⟨bb, oo, none⟩) vr (.slice (some ⟨gg, p, none⟩) (q - p) (cg - p)) Wx t1 t2 t3 t4 t5 t6
      have hlw := Lib.hid (hl.ext hexw.out)
      have HGOOD := Lib.hid hgood
      clear hcu hu hp hqN hNn hcm hre hgood hq hcc
      go_wp2_with fail
      refine (HRDC.out _ hlw.out s1 s5 s6 hRR.out hVW.out).mono ?_
      rintro e w4 ⟨g1, c1', g2, rfl, ho1, ho2, hne, hx8⟩
      obtain ⟨k1, k2, k3, k4⟩ := redL_ok HM.out hrowl.out.1 hrowl.out.2 HGOOD.out reds.length (Nat.le_refl _)
      obtain ⟨rest, hrest⟩ : ∃ rest, rest = (redL m reds (gRow n par u) K reds.length).1 := ⟨_, rfl⟩
      obtain ⟨coef, hcoef⟩ : ∃ coef, coef = (redL m reds (gRow n par u) K reds.length).2 := ⟨_, rfl⟩
      rw [← hrest] at ho1 k1 k3
      rw [← hcoef] at ho2 k2 k4
      have HREST := Lib.hid hrest
      have HCOEF := Lib.hid hcoef
      have hkc : k < coef.length := by omega
      obtain ⟨x0, hx0⟩ : ∃ x0, x0 = coef[k] := ⟨_, rfl⟩
      have hx0l : x0 < 2 ^ m := by rw [hx0]; exact k4 _ (List.getElem_mem _)
      have hmp := pow_lt HM.out
      have X1 : bits .xor .i64 (x0 : Int) 1 = ((x0 ^^^ 1 : Nat) : Int) := xor_i64 x0 1 (by omega) (by omega)
      have hcx : w4.cell? ⟨g2, k, none⟩ = some (.int .i64 (x0 : Nat)) := by rw [ho2.cellAt k (by omega), nvs_getl hkc, hx0]
      have hfz : w4.frozen? ⟨g2, k, none⟩ = false := ho2.frozenAt k
      obtain ⟨coef', hc'⟩ : ∃ coef', coef' = coef.set k (x0 ^^^ 1) := ⟨_, rfl⟩
      have hst := ho2.stored k (.int .i64 ((x0 ^^^ 1 : Nat) : Int))
      rw [nvs_list_set, ← hc'] at hst
      have HB1 := Lib.hid k3
      have HB2 : Hid (Bl m coef') := by
        show Bl m coef'
        rw [hc']
        intro x hx
        rcases List.mem_or_eq_of_mem_set hx with hx | hx
        · exact k4 x hx
        · rw [hx]; exact Nat.xor_lt_two_pow hx0l (one_lt HM.out)
      have HC' : Hid (coef' = coef.set k (ate coef k ^^^ 1)) := by show _ = _; rw [hc', hx0, ate_get hkc]
      have hcl' : coef'.length = K := by rw [hc', List.length_set]; exact k2
      have HCL := Lib.hid hcl'
      have HRL := Lib.hid k1
      have hg1 := (ho1.lt g1 rfl).1
      have hg2 := (ho2.lt g2 rfl).1
      have HOB2 := Lib.hid hst.1
      have HOB1 := Lib.hid (own_off ho1 hst.2 hne)
      have hx9 : Ext wr (w4.setCell ⟨g2, k, none⟩ (.int .i64 ((x0 ^^^ 1 : Nat) : Int))) := ext_set hx8 hg2 _
      have hg1l := (HOB1.out.lt g1 rfl).2
      have hg2l := (HOB2.out.lt g2 rfl).2
      clear hrest hcoef hx0 hc' k1 k2 k3 k4 hkc ho1 ho2 hst hcl' hx8
      obtain ⟨W5, hW5⟩ : ∃ W5, W5 = w4.setCell ⟨g2, k, none⟩ (.int .i64 ((x0 ^^^ 1 : Nat) : Int)) := ⟨_, rfl⟩
      go_wp2_with fail
      rw [← hW5] at HOB1 HOB2 hx9 hg1l hg2l ⊢
      clear hW5 hcx hfz X1
      have hgr5 := Lib.hid (grown_ext hgr.out hx9)
      have hrow5 := Lib.hid (row_ext hrow.out hx9)
      have hreds5 := Lib.hid (hreds.out.ext hx9)
      have hb9 := hgr.out.size
      have e1 := ext_cell hx9 d1
      go_loop [70] (fun iv => ∃ i : Nat, i ≤ n ∧ iv = .int .i64 i ∧ Hid (∀ p, p < i → ate rest p = 0)) (fun iv => n - (intOf iv).toNat)
      case atStart => exact ⟨0, Nat.zero_le _, rfl, fun p hp => by omega⟩
      case round =>
        obtain ⟨i, hi, rfl, hz⟩ := hrel
        by_cases hin : i < n
        · have hir : i < rest.length := by have := HRL.out; omega
          obtain ⟨x, hx⟩ : ∃ x, x = rest[i] := ⟨_, rfl⟩
          have hcx : W5.cell? ⟨g1, i, none⟩ = some (.int .i64 (x : Nat)) := by rw [HOB1.out.cellAt i (by omega), nvs_getl hir, hx]
          have HXE : Hid (ate rest i = x) := by show _ = _; rw [hx, ate_get hir]
          by_cases hx0 : x = 0
          · have HZN : Hid (∀ p, p < i + 1 → ate rest p = 0) := by
              show ∀ p, _ → _
              intro p hp
              rcases Nat.lt_or_ge p i with h | h
              · exact hz.out p h
              · obtain rfl : p = i := by omega
                rw [HXE.out, hx0]
            rw [hx0] at hcx
            clear hx hx0
            go_wp2_with fail
            go_round
            case rel => exact ⟨i + 1, by omega, by simp, HZN⟩
            case measure => simp [intOf]; omega
          · have t2 : ((x : Int) == 0) = false := by simpa using hx0
            have hxl : x < 2 ^ m := by rw [hx]; exact HB1.out _ (List.getElem_mem _)
            have HINV := Lib.hid fun W h => fieldInv_any m x HM.out hxl hx0 W h
            have HLEAD : Hid (leadOf rest = some i) := leadOf_at hir hz.out (by rw [HXE.out]; exact hx0)
            have hl5 := Lib.hid (hlw.out.ext hx9)
            clear hx hx0
            go_wp2_with fail
            refine (HINV.out _ hl5.out).mono ?_
            rintro e w6 ⟨rfl, hx10⟩
            go_wp2_with fail
            apply rest4 (F := fun W ga gb gr => MkF w6 W n K i ga gb gr)
            case h1 =>
              intro REST
              go_region
              refine mk_use (C := fun W => Exit.then _ _ Exit.normal _ W) (mkF_abr w6 n K i) ?_
              rotate_left
              refine mk_use (C := fun W => Exit.then _ _ Exit.normal _ W) (mkF_arb w6 n K i) ?_
              rotate_left
              refine mk_use (C := fun W => Exit.then _ _ Exit.normal _ W) (mkF_bar w6 n K i) ?_
              rotate_left
              refine mk_use (C := fun W => Exit.then _ _ Exit.normal _ W) (mkF_bra w6 n K i) ?_
              rotate_left
              refine mk_use (C := fun W => Exit.then _ _ Exit.normal _ W) (mkF_rab w6 n K i) ?_
              rotate_left
              refine mk_use (C := fun W => Exit.then _ _ Exit.normal _ W) (mkF_rba w6 n K i) ?_
              rotate_left
              all_goals
                intro Wm hF
                obtain ⟨z2, hz2⟩ : ∃ z, z = w6.heap.size + 1 + 1 := ⟨_, rfl⟩
                rw [← hz2] at hF ⊢
                obtain ⟨z1, hz1⟩ : ∃ z, z = w6.heap.size + 1 := ⟨_, rfl⟩
                rw [← hz1] at hF ⊢
                obtain ⟨z0, hz0⟩ : ∃ z, z = w6.heap.size := ⟨_, rfl⟩
                rw [← hz0] at hF ⊢
                clear hz2 hz1 hz0
                exact REST _ _ _ _ hF
            case h2 =>
              intro Wm ga gb gr hF
              obtain ⟨hxm, ra, rb, rr, ⟨l1, l2, l3⟩, ⟨n1, n2, n3⟩⟩ := hF
              have RA := Lib.hid ra
              have RB := Lib.hid rb
              have r0 := row_cell rr 0 (v := .int .i64 (i : Nat)) rfl
              have r1 := row_cell rr 1 (v := .slice (some ⟨ga, 0, none⟩) n n) rfl
              have r2 := row_cell rr 2 (v := .slice (some ⟨gb, 0, none⟩) K K) rfl
              have hz10 := hx10.size
              have hz9 := hx9.size
              have hxs : Ext wr w6 := ext_trans hx9 hx10
              have hxs2 : Ext wr Wm := ext_trans hxs hxm
              obtain ⟨f, hf⟩ : ∃ f, f = ginv m x := ⟨_, rfl⟩
              have hfl : f < 2 ^ m := by rw [hf]; exact ginv_lt HM.out hxl
              have HFE := Lib.hid hf
              rw [← hf]
              have hlm := Lib.hid ((hl5.out.ext hx10).ext hxm)
              have ps1 := ext_cell hxs2 s1
              have hRV1 : Hid (RInts w6 (.slice (some ⟨g1, 0, none⟩) n c1') (nints rest)) := RInts.ext (own_ints HOB1.out (by have := HRL.out; rw [lim_val]; omega)) hx10
              have hRV2 : Hid (RInts w6 (.slice (some ⟨g2, 0, none⟩) K K) (nints coef')) := RInts.ext (own_ints HOB2.out (by have := HCL.out; rw [lim_val]; omega)) hx10
              have HADD1 := Lib.hid fun Wx t1 t2 t3 t4 => spanAdd_len m f n HM.out hfl (List.replicate n 0) rest (by simp) HRL.out (Bl_zeros m n) HB1.out W0.heap.size S ga n (.slice (some ⟨g1, 0, none⟩) n c1') (fun b' o' n' c' e => by injection e with e1; injection e1 with e1; injection e1 with e1; omega) (by omega) (by omega) (by omega) Wx t1 t2 t3 t4
              have HADD2 := Lib.hid fun Wx t1 t2 t3 t4 => spanAdd_len m f K HM.out hfl (List.replicate K 0) coef' (by simp) HCL.out (Bl_zeros m K) HB2.out W0.heap.size S gb K (.slice (some ⟨g2, 0, none⟩) K K) (fun b' o' n' c' e => by injection e with e1; injection e1 with e1; injection e1 with e1; omega) (by omega) (by omega) (by omega) Wx t1 t2 t3 t4
              have HOA := Lib.hid (own_zero (base := W0.heap.size) ra (by omega) hn32)
              have HOB := Lib.hid (own_zero (base := W0.heap.size) rb (by omega) hb32)
              clear ra rb rr hf hmkn hmkk
              go_wp2_with fail
              refine (HADD1.out _ hlm.out ps1 (RInts.ext hRV1.out hxm) HOA.out).mono ?_
              rintro e w7 ⟨rfl, hoa, hga⟩
              have hx11 : Ext w6 w7 := Below.grown hxm hga hxm.size (fun i e => by cases e; omega)
              have q0 := hga.cell r0 (by intro e; injection e with e; simp at e; omega)
              have q1 := hga.cell r1 (by intro e; injection e with e; simp at e; omega)
              have q2 := hga.cell r2 (by intro e; injection e with e; simp at e; omega)
              have qs1 := ext_cell (ext_trans hxs hx11) s1
              have HOB7 := Lib.hid (own_off HOB.out hga (by omega))
              have HOA7 := Lib.hid hoa
              have hga' := Lib.hid hga
              clear hoa hga
              go_wp2_with fail
              refine (HADD2.out _ (((hl5.out.ext hx10).ext hx11)) qs1 (RInts.ext hRV2.out hx11) HOB7.out).mono ?_
              rintro e w8 ⟨rfl, hob8, hgb⟩
              have hx12 : Ext w6 w8 := Below.grown hx11 hgb hx11.size (fun i e => by cases e; omega)
              have p0 := hgb.cell q0 (by intro e; injection e with e; simp at e; omega)
              have p1 := hgb.cell q1 (by intro e; injection e with e; simp at e; omega)
              have p2 := hgb.cell q2 (by intro e; injection e with e; simp at e; omega)
              have p6 := ext_cell (ext_trans hxs hx12) s6
              have HFA := Lib.hid (own_full (own_off HOA7.out hgb (by omega)))
              have HFB := Lib.hid (own_full hob8)
              have hR8 := Lib.hid (hreds5.out.ext (ext_trans hx10 hx12))
              have hrow8 := Lib.hid (row_ext hrow.out (ext_trans hxs hx12))
              have hgr8 := Lib.hid (grown_ext hgr.out (ext_trans hxs hx12))
              clear hob8 hgb q0 q1 q2 qs1 r0 r1 r2
              obtain ⟨i3, hi3, hz30, hz31, hz32⟩ := info_parts info_red
              have hz12 := hx12.size
              have hb8 := hgr8.out.size
              have hS8 : S < w8.heap.size := by omega
              have hS8n : ¬ S = w8.heap.size := by omega
              have hgr8l : gr < w8.heap.size := World.block_lt_of_cell? w8 _ p0
              have hgr8n : ¬ gr = w8.heap.size := by omega
              have pf : ∀ j, w8.frozen? ⟨S, j, none⟩ = false := fun j => frozen_of_row w8 _ j _ _ hrow8.out
              go_wp2_with fail
              go_region_law (refine step_append_lies _ (by rfl) _ _ _ (by rfl) W0.heap.size 103 i3 _ 3 56 Tryd.underlying96 hi3 hz30 hz31 hz32 rfl (by omega) vr reds.length (redCells reds gs) (by rfl) (by first | exact own_ext hR8.out.own (ext_drew (ext_alloc (ext_refl w8) _)) | exact own_ext hR8.out.own (ext_alloc (ext_drew (ext_refl w8)) _)) ⟨w8.heap.size, 0, none⟩ 1 1 [.int .i64 (i : Nat), .slice (some ⟨ga, 0, none⟩) n n, .slice (some ⟨gb, 0, none⟩) K K] (by rfl) rfl (World.news_of_block (cs := #[.int .i64 (i : Nat), .slice (some ⟨ga, 0, none⟩) n n, .slice (some ⟨gb, 0, none⟩) K K]) (row_drew (row_alloc _ _ _ _ rfl))) (by simp [Value.oneCell']) (by omega) (by simp only [maxLen]; omega) (by omega) (by simp; omega) _ rfl ?_
                             intro g9 cap9 w9 hown9 hgrow9 hat9 hlt9
                             have r9 : w9.heap[S]? = _ := (hgrow9.block S (by simp; omega) (fun e => by have := own_base' hR8.out.own S e.symm; omega)).trans (row_drew (row_alloc_old hrow8.out _))
                             have t6 := row_cell r9 6 (v := vr) rfl
                             have tf : ∀ j, w9.frozen? ⟨S, j, none⟩ = false := fun j => frozen_of_row w9 _ j _ _ r9)
              all_goals
                have hxB : Ext w8 ((w8.alloc (.cells #[.int .i64 (i : Nat), .slice (some ⟨ga, 0, none⟩) n n, .slice (some ⟨gb, 0, none⟩) K K] 103)).drew) := ext_drew (ext_alloc (ext_refl w8) _)
                obtain ⟨nr, hnr⟩ : ∃ nr : Red, nr = ⟨i, addL m f (List.replicate n 0) rest, addL m f (List.replicate K 0) coef'⟩ := ⟨_, rfl⟩
                have hrv : redVals nr (ga, gb) = [.int .i64 (i : Nat), .slice (some ⟨ga, 0, none⟩) n n, .slice (some ⟨gb, 0, none⟩) K K] := by
                  rw [hnr]; simp [redVals, addL_len]
                have hpush := RedsO.push (r := nr) (ga := ga) (gb := gb) (hR8.out.ext hxB) hgrow9 (by rw [hrv]; exact hown9) (by omega) (by omega) (row_ext (by rw [hnr]; exact HFA.out) hxB) (row_ext (by rw [hnr]; exact HFB.out) hxB)
                have HSPAN : Hid (spanTo m K rowf (k + 1) = reds ++ [nr]) := by
                  show _ = _
                  have hc := HC'.out
                  have hr1 := HREST.out
                  have hc1 := HCOEF.out
                  simp only [spanTo, ← HRE.out, hRK.out]
                  unfold spanStep
                  simp only [← hr1, ← hc1, HLEAD.out, ← hc, HXE.out, ← HFE.out, HRL.out, HCL.out]
                  rw [hnr]
                have HRN := Lib.hid (hpush.far (grown_set w9 ⟨S, 6, none⟩ (.slice (some ⟨g9, 0, none⟩) (reds.length + 1) cap9)) hSB)
                have HGN := Lib.hid ((grown_app (grown_ext hgr8.out hxB) hgrow9 (fun j e => own_base' hR8.out.own j e)).trans (grown_set w9 ⟨S, 6, none⟩ (.slice (some ⟨g9, 0, none⟩) (reds.length + 1) cap9)))
                have HRW : Hid ((w9.setCell ⟨S, 6, none⟩ (.slice (some ⟨g9, 0, none⟩) (reds.length + 1) cap9)).heap[S]? = some (.cells #[.string nm, .int .i64 m, .int .i64 n, .slice A par.length c, .int .i64 dm, .slice (some ⟨bb, oo, none⟩) K cb, .slice (some ⟨g9, 0, none⟩) (reds.length + 1) cap9] 98 (0, 0))) := by
                  have := set_cells (i := 6) r9 (.slice (some ⟨g9, 0, none⟩) (reds.length + 1) cap9)
                  show _ = _
                  simpa using this
                rw [← HSPAN.out] at HRN
                clear hpush hown9 hgrow9 hat9 hlt9 r9 t6 tf hrv hnr
                go_wp2_with fail
                go_roundw
                case rel => exact ⟨k + 1, _, _, by omega, by simp, HRW.out, HRN.out, HGN.out⟩
                case measure => simp [intOf]; omega
        · have hin2 : i = n := by omega
          have HLN : Hid (leadOf rest = none) := leadOf_all (fun p hp => hz.out p (by have := HRL.out; omega))
          have HSPAN : Hid (spanTo m K rowf (k + 1) = reds) := by
            show _ = _
            simp only [spanTo, ← HRE.out, hRK.out]
            unfold spanStep
            simp only [← HREST.out, HLN.out]
          have HRN := hreds5
          rw [← HSPAN.out] at HRN
          clear hin2
          go_wp2_with fail
          go_roundw
          case rel => exact ⟨k + 1, _, _, by omega, by simp, hrow5.out, HRN.out, hgr5.out⟩
          case measure => simp [intOf]; omega
    · have hkK : k = K := by omega
      have HEQ : Hid (spanL m n par hs = spanTo m K rowf K) := by
        show _ = _
        unfold spanL
        rw [← HBE.out, ← HKE.out, HRF.out]
      have HAT : Hid (SpanAt wr S nm m n (.slice A par.length c) dm b (spanTo m K rowf K)) := by
        rw [hkK] at hreds
        refine ⟨_, vr, hrow.out, ?_, hreds.out.reads (fun r hr => ?_)⟩
        · by_cases hK0 : 0 < K
          · refine RInts.grown HVB.out hgr.out (fun b' o' n' c' e => ?_)
            injection e with e1 e2 e3
            intro e5
            injection e5 with e5
            have := HBB.out b' o' e1 hK0
            omega
          · have hb0 : b = [] := List.eq_nil_of_length_eq_zero (by have := HKE.out; omega)
            have hv := HVB.out
            rw [hb0] at hv ⊢
            obtain ⟨A', c', e, hl', _⟩ := hv
            exact ⟨A', c', e, hl', .inl rfl⟩
        · obtain ⟨_, h2, h3, _, _⟩ := spanTo_ok (K := K) (C := n) (row := rowf) HM.out K (fun j hj => by
            have hjb : j < b.length := by have := HKE.out; omega
            have : rowf j = gRow n par b[j] := by rw [HRF.out]; simp [hjb]
            rw [this]
            exact HROW.out _ (List.getElem_mem _)) r hr
          rw [h2, h3, lim_val]; omega
      clear hkK
      go_wp2_with fail
      try rw [Exit.noGoto_ret]
      go_ret2
      refine ⟨S, rfl, ?_, by omega, hexw.out⟩
      rw [← HBE.out, HEQ.out]
      exact HAT.out

end Go.Proofs.YtgflflpeilfinaaDoor
