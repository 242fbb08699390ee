/- The walk of matrix.Independent. -/
import Derived.Test.YtgflflpeilfinaaDoorRedA
set_option linter.unusedVariables false
set_option linter.unusedSectionVars false
set_option linter.unusedSimpArgs false
namespace Go.Proofs.YtgflflpeilfinaaDoor
open Go.RowKit

/-- The rows that are not sums of multiples of earlier rows, as the program reckons them. -/
def indep (m R C : Nat) (A : Nat → Nat → Nat) : List Nat := (redTo m C (fun p q => A q p) R).2

set_option maxRecDepth 100000 in
set_option maxHeartbeats 1000000 in
theorem matInd_any (m R C : Nat) (A : Nat → Nat → Nat) (hm : Fm m) (hR : R ≤ 32) (hC : C ≤ 32) (hC0 : 0 < C) (hR0 : 0 < R) (hA : ∀ p q, p < R → q < C → A p q < 2 ^ m) (v : Value) (hcp : ∀ a n c, v = .slice a n c → n ≤ c ∧ c ≤ maxLen) (w : World) (hl : Laid w) (hv : RInts w v (nints (flatM R C A))) :
    Calls Tryd.prog 56 #[vMat m R C v] w fun e w' => ∃ v', e = .returned v' ∧ w'.ownsRow w.heap.size 3 1 v' (indep m R C A).length (ivs (nints (indep m R C A))) ∧ Ext w w' := by
  have HT := Lib.hid fun W h => matTr_any m R C A hm hR hC hC0 hR0 hA v 0 hcp W h
  have HV := Lib.hid hv
  obtain ⟨ao, c, rfl, -, -⟩ := hv
  obtain ⟨n, hn⟩ : ∃ n, n = (List.map (Value.int .i64) (nints (flatM R C A))).length := ⟨_, rfl⟩
  rw [← hn] at HT HV ⊢
  have hx0 : Ext w (w.alloc (.cells #[.int .i64 m, .int .i64 R, .int .i64 C, .slice ao n c] 31)) := ext_alloc (ext_refl w) _
  have hbd : Bd m C R (fun p q => A q p) := fun p q hp hq => hA q p hq hp
  have HRED := Lib.hid fun S W h1 h2 h3 => matReduce_any m C R S (fun p q => A q p) hm hC hR hR0 hbd W h1 h2 h3
  have hl0 := hl.ext hx0
  have hlp := hl.pos
  clear hm hA hcp hn hbd
  go_enter Tryd.func56, Tryd.ntmps56
  go_wp2_with fail
  refine (HT.out _ (RInts.ext HV.out hx0)).mono ?_
  rintro e w1 ⟨S, rfl, hS, hrow, hx1⟩
  have hx2 := ext_trans hx0 hx1
  have hl1 := hl0.ext hx1
  have hx3 : Ext w1 (w1.alloc (.cells #[.int .i64 m, .int .i64 C, .int .i64 R, .slice (some ⟨S, 0, none⟩) (C * R) (C * R)] 31)) := ext_alloc (ext_refl w1) _
  have hSw : w.heap.size < S := by simp at hS; omega
  go_wp2_with fail
  refine (HRED.out S _ (hl1.ext hx3) (by omega) (row_ext hrow hx3)).mono ?_
  rintro e w2 ⟨v', rfl, ho, hg⟩
  have ho2 := Lib.hid (own_le (base' := w.heap.size) (by have := (ext_trans hx2 hx3).size; omega) ho)
  have hx4 : Ext w w2 := Below.grown (ext_trans hx2 hx3) hg (ext_trans hx2 hx3).size (fun i e => by cases e; omega)
  go_wp2_with fail
  go_ret
  exact ⟨_, rfl, ho2.out, hx4⟩

end Go.Proofs.YtgflflpeilfinaaDoor

/- The walk of matrix.Pick. -/
set_option linter.unusedVariables false
set_option linter.unusedSimpArgs false
namespace Go.Proofs.YtgflflpeilfinaaDoor
open Go.RowKit

theorem flatM_succ (k C : Nat) (A : Nat → Nat → Nat) : nvs (flatM (k + 1) C A) = nvs (flatM k C A) ++ nvs ((List.range C).map (A k)) := by
  simp [flatM, List.range_succ, nvs, nints, ivs]

set_option maxRecDepth 100000 in
set_option maxHeartbeats 4000000 in
theorem matPick_any (m R C : Nat) (A : Nat → Nat → Nat) (hm : Fm m) (hR : R ≤ 32) (hC : C ≤ 32) (hC0 : 0 < C) (hR0 : 0 < R) (hA : ∀ p q, p < R → q < C → A p q < 2 ^ m) (v vr : Value) (hcp : ∀ a n c, v = .slice a n c → n ≤ c ∧ c ≤ maxLen)
    (rows : List Nat) (hrl : rows.length ≤ 32) (hrR : ∀ i ∈ rows, i < R) (w : World) (hv : RInts w v (nints (flatM R C A))) (hr : RInts w vr (nints rows)) :
    Calls Tryd.prog 55 #[vMat m R C v, vr] w fun e w' => ∃ v', e = .returned (.tuple #[vMat m rows.length C v', .int .i64 0]) ∧
      w'.ownsRow w.heap.size 3 1 v' (rows.length * C) (nvs (flatM rows.length C fun p q => A (rows.getD p 0) q)) ∧ Ext w w' := by
  have HV := Lib.hid hv
  have HR := Lib.hid hr
  obtain ⟨ao, c, rfl, hlen, hsg⟩ := hv
  have hll : (ivs (nints (flatM R C A))).length = R * C := by rw [show ivs (nints (flatM R C A)) = nvs (flatM R C A) from rfl, nvs_len, flatM_len]
  rw [hll] at HV hlen hcp ⊢
  obtain ⟨ar, cr, rfl, hlenr, -⟩ := hr
  have hlr : (ivs (nints rows)).length = rows.length := by rw [show ivs (nints rows) = nvs rows from rfl, nvs_len]
  rw [hlr] at HR hlenr ⊢
  have hRC0 : 0 < R * C := Nat.mul_pos hR0 hC0
  obtain ⟨bA, oA, rfl, hcA⟩ := hsg.get (by have := hll; simp only [ivs] at this; omega)
  obtain ⟨hc1, hc2⟩ := hcp _ _ _ rfl
  have HCA : Hid (∀ i k, i < R → k < C → w.cell? ⟨bA, oA + i * C + k, none⟩ = some (.int .i64 (A i k : Nat))) := by
    show ∀ i k, _ → _ → _
    intro i k hi hk
    have h1 := flatM_get A hi hk
    have h2 := hcA (i * C + k) (by have := hll; simp only [ivs] at this; rw [this]; exact idx_lt hi hk)
    rw [Nat.add_assoc, h2]
    obtain ⟨h3, h4⟩ := List.getElem?_eq_some_iff.1 h1
    simp only [nints, List.getElem_map, h4]
  have HVLD := Lib.hid fun W h => matValid_ok m R C hm hR hC (flatM R C A) (flatM_len R C A) (fun x hx => by
    obtain ⟨p, hp, rfl⟩ := List.mem_iff_getElem.1 hx
    rw [flatM_len] at hp
    have h1 : p / C < R := Nat.div_lt_of_lt_mul (by rw [Nat.mul_comm]; exact hp)
    have h2 : p % C < C := Nat.mod_lt _ hC0
    have e : p = p / C * C + p % C := by rw [Nat.mul_comm, Nat.div_add_mod]
    have h3 := flatM_get A h1 h2
    rw [← e] at h3
    rw [(List.getElem?_eq_some_iff.1 h3).2]
    exact hA _ _ h1 h2) (.slice (some ⟨bA, oA, none⟩) (R * C) c) W h
  have HRW : Hid (∀ x, x < R → ∀ W, Calls Tryd.prog 80 #[vMat m R C (.slice (some ⟨bA, oA, none⟩) (R * C) c), .int .i64 x] W (Ret W (.slice (some ⟨bA, oA + x * C, none⟩) C (c - x * C)))) := by
    show ∀ x, _ → _
    intro x h1 W
    exact matRow_any m R C x bA oA (R * C) c (by omega) (by omega) (Nat.mul_le_mul_right C (by omega)) hc1 hc2 hC0 W
  have HRR := Lib.hid hrR
  have hx0 : Ext w ((w.alloc (.cells #[.int .i64 m, .int .i64 R, .int .i64 C, .slice (some ⟨bA, oA, none⟩) (R * C) c] 31)).alloc (.cells #[.int .i64 0, .int .i64 0, .int .i64 0, .slice none 0 0] 31)) := ext_alloc (ext_alloc (ext_refl w) _) _
  obtain ⟨i0, hi0, hz0, hz1, hz2⟩ := info_parts info_int
  have t1 : decide ((rows.length : Int) > 32) = false := by simp; omega
  clear hA hm hcA hsg hll hcp hlen hc1 hc2 hlr hlenr hrR
  go_enter Tryd.func55, Tryd.ntmps55
  go_wp2_with fail
  refine (HVLD.out _ (RInts.ext HV.out hx0)).mono ?_
  rintro e w1 ⟨rfl, hx1⟩
  have HRr := row_ext (row_alloc (w.alloc (.cells #[.int .i64 m, .int .i64 R, .int .i64 C, .slice (some ⟨bA, oA, none⟩) (R * C) c] 31)) #[.int .i64 0, .int .i64 0, .int .i64 0, .slice none 0 0] 31 (w.heap.size + 1) (by simp)) hx1
  have HRc := row_ext (row_alloc_old (row_alloc w #[.int .i64 m, .int .i64 R, .int .i64 C, .slice (some ⟨bA, oA, none⟩) (R * C) c] 31 w.heap.size rfl) (.cells #[.int .i64 0, .int .i64 0, .int .i64 0, .slice none 0 0] 31)) hx1
  have c0 := row_cell HRc 0 (v := .int .i64 m) rfl
  have c1 := row_cell HRc 1 (v := .int .i64 R) rfl
  have c2 := row_cell HRc 2 (v := .int .i64 C) rfl
  have c3 := row_cell HRc 3 (v := .slice (some ⟨bA, oA, none⟩) (R * C) c) rfl
  have hx2 := ext_trans hx0 hx1
  go_wp2_with fail
  have hx3 : Ext w1 (w1.alloc (.cells #[.int .i64 m, .int .i64 rows.length, .int .i64 C, .slice none 0 0] 31)) := ext_alloc (ext_refl w1) _
  have hG0 := row_alloc w1 #[.int .i64 m, .int .i64 rows.length, .int .i64 C, .slice none 0 0] 31 w1.heap.size rfl
  have hszW : (w1.alloc (.cells #[.int .i64 m, .int .i64 rows.length, .int .i64 C, .slice none 0 0] 31)).heap.size = w1.heap.size + 1 := by simp
  obtain ⟨W0, hW0⟩ : ∃ W0, W0 = w1.alloc (.cells #[.int .i64 m, .int .i64 rows.length, .int .i64 C, .slice none 0 0] 31) := ⟨_, rfl⟩
  rw [← hW0] at hx3 hG0 hszW ⊢
  clear hW0
  obtain ⟨G, hG⟩ : ∃ G, G = w1.heap.size := ⟨_, rfl⟩
  rw [← hG] at hG0 hszW ⊢
  have hsz1 := hx2.size
  have hx4 := ext_trans hx2 hx3
  have hwG : w.heap.size + 1 < G := by have := (Array.getElem?_eq_some_iff.1 HRr).1; omega
  have hGW : G < W0.heap.size := by omega
  have c0 := ext_cell hx3 c0
  have c1 := ext_cell hx3 c1
  have c2 := ext_cell hx3 c2
  have c3 := ext_cell hx3 c3
  have HRr0 := row_ext HRr hx3
  have HR0 := Lib.hid (RInts.ext HR.out hx4)
  have HCA0 : Hid (∀ i k, i < R → k < C → W0.cell? ⟨bA, oA + i * C + k, none⟩ = some (.int .i64 (A i k : Nat))) := fun i k hi hk => ext_cell hx4 (HCA.out i k hi hk)
  have hbAG : bA ≠ G := by have := World.block_lt_of_cell? w _ (HCA.out 0 0 hR0 hC0); simp at this; omega
  have HW00 : Hid (Wrote W0 G 31 #[.int .i64 m, .int .i64 rows.length, .int .i64 C, .slice none 0 0] W0) := Wrote.init hG0
  have HSZ := Lib.hid hszW
  clear HRr HRc hG0 hszW hG hsz1 HCA
  go_loopw [27] (fun iv wr => ∃ (k : Nat) (v : Value), k ≤ rows.length ∧ iv = .int .i64 k ∧ Hid (Wrote W0 G 31 #[.int .i64 m, .int .i64 rows.length, .int .i64 C, v] wr) ∧ Hid (wr.ownsRow W0.heap.size 3 1 v (k * C) (nvs (flatM k C fun p q => A (rows.getD p 0) q)))) (fun iv _ => rows.length - (intOf iv).toNat)
  case atStart => exact ⟨0, _, Nat.zero_le _, rfl, HW00.out, by (show World.ownsRow _ _ _ _ _ _ _); simpa [flatM, nvs, nints, ivs] using own_nil' _ _ _ _⟩
  case round =>
    obtain ⟨k, v, hk, rfl, hw, ho⟩ := hrel
    have d0 := hw.out.far c0 (by simp; omega)
    have d1 := hw.out.far c1 (by simp; omega)
    have d2 := hw.out.far c2 (by simp; omega)
    have d3 := hw.out.far c3 (by simp; omega)
    have rG := hw.out.row
    have g0 := row_cell rG 0 (v := .int .i64 m) rfl
    have g1 := row_cell rG 1 (v := .int .i64 rows.length) rfl
    have g2 := row_cell rG 2 (v := .int .i64 C) rfl
    have g3 := row_cell rG 3 (v := v) rfl
    by_cases hlt : k < rows.length
    · obtain ⟨b, o, hA, hcl⟩ := HR.out.get k (by simpa [nints] using hlt)
      subst hA
      have hbG : b ≠ G := by have := World.block_lt_of_cell? w _ hcl; simp at this; omega
      obtain ⟨x, hx⟩ : ∃ x, x = rows[k] := ⟨_, rfl⟩
      have hcl2 : wr.cell? ⟨b, o + k, none⟩ = some (.int .i64 (x : Nat)) := hw.out.far (ext_cell hx4 (by rw [hcl, hx]; simp [nints])) hbG
      have hxR : x < R := by rw [hx]; exact HRR.out _ (List.getElem_mem _)
      have t2 : decide ((x : Int) < 0) = false := by simp
      have t3 : decide (R ≤ x) = false := by simp; omega
      have HFL : Hid (nvs (flatM (k + 1) C fun p q => A (rows.getD p 0) q) = nvs (flatM k C fun p q => A (rows.getD p 0) q) ++ nvs ((List.range C).map (A x))) := by
        show _ = _
        rw [flatM_succ, show rows.getD k 0 = x by rw [hx]; simp [hlt]]
      have hcs : Hid (∀ q, q < C → W0.cell? ⟨bA, oA + x * C + q, none⟩ = some (.int .i64 (A x q : Nat))) := fun q hq => HCA0.out x q hxR hq
      obtain ⟨L, hL⟩ : ∃ L, L = nvs ((List.range C).map (A x)) := ⟨_, rfl⟩
      have hLl : L.length = C * 1 := by rw [hL, nvs_len]; simp
      have hLc : Hid (∀ W : World, (∀ q, q < C → W.cell? ⟨bA, oA + x * C + q, none⟩ = some (.int .i64 (A x q : Nat))) → ∀ j u, L[j]? = some u → W.cell? ((⟨bA, oA + x * C, none⟩ : Addr).add j) = some u) := by
        show ∀ W : World, _ → _
        intro W h j u hu
        rw [add_plain']
        obtain ⟨hj, he⟩ := List.getElem?_eq_some_iff.1 hu
        have hjC : j < C := by omega
        rw [h j hjC, ← he]
        simp only [hL, nvs, nints, ivs, List.getElem_map, List.getElem_range]
      have hL1 : Hid (∀ u ∈ L, u.oneCell' = true) := by show ∀ u ∈ L, _; rw [hL]; exact one_ints _
      rw [← hL] at HFL
      have HRX := Lib.hid (HRW.out x hxR)
      have hkC : k * C ≤ 1024 := Nat.le_trans (Nat.mul_le_mul (show k ≤ 32 by omega) hC) (by omega)
      obtain ⟨N, hN⟩ : ∃ N, N = k * C := ⟨_, rfl⟩
      have HNk : Hid ((k + 1) * C = N + C) := by show _ = _; rw [hN, Nat.add_mul, Nat.one_mul]
      rw [← hN] at ho hkC
      have HXR := Lib.hid hxR
      clear hx hcl hL hN
      go_wp2_with fail
      go_region_law (first
        | (refine step_append_lies _ (by rfl) _ _ _ (by rfl) W0.heap.size 3 i0 _ 1 8 Tryd.underlying29 hi0 hz0 hz1 hz2 rfl (by omega) v N (nvs (flatM k C fun p q => A (rows.getD p 0) q)) (by rfl) HOc.out ⟨bA, oA + x * C, none⟩ C (c - x * C) L (by rfl) hLl (hLc.out _ hcs3.out) hL1.out hC0 (by simp only [maxLen]; omega) (by omega) (by have := (undrew hx3').size; have := hw.out.grown.size; omega) w3.heap.size rfl ?_
           intro gg cap w4 hown1 hgrow hat hlt1
           have rG4 : w4.heap[G]? = _ := (hgrow.block G (Array.getElem?_eq_some_iff.1 rG3).1 (fun e => by have := own_base' HOc.out G e.symm; omega)).trans rG3
           have q3 := row_cell rG4 3 (v := v) rfl
           have qf : ∀ j, w4.frozen? ⟨G, j, none⟩ = false := fun j => frozen_of_row w4 _ j _ _ rG4)
        | (go_simp
           go_at_call 80
           refine (HRX.out _).mono ?_
           rintro e w3 ⟨rfl, hx3'⟩
           have HOc := Lib.hid (own_ext ho.out.drew hx3')
           have rG3 := row_ext (w := wr) rG (undrew hx3')
           have p3 := row_cell rG3 3 (v := v) rfl
           have hcs3 : Hid (∀ q, q < C → w3.cell? ⟨bA, oA + x * C + q, none⟩ = some (.int .i64 (A x q : Nat))) := fun q hq => ext_cell (undrew hx3') (hw.out.far (hcs.out q hq) hbAG)
           have pf : ∀ j, w3.frozen? ⟨G, j, none⟩ = false := fun j => frozen_of_row w3 _ j _ _ rG3))
      all_goals
        have HWN : Hid (Wrote W0 G 31 #[.int .i64 m, .int .i64 rows.length, .int .i64 C, .slice (some ⟨gg, 0, none⟩) (N + C) cap] (w4.setCell ⟨G, 3, none⟩ (.slice (some ⟨gg, 0, none⟩) (N + C) cap))) := by
          show Wrote _ _ _ _ _
          have := ((hw.out.drew.ext hx3').app hgrow (fun i hi => own_base' HOc.out i hi) hGW).set 3 (.slice (some ⟨gg, 0, none⟩) (N + C) cap)
          simpa using this
        have HON : Hid ((w4.setCell ⟨G, 3, none⟩ (.slice (some ⟨gg, 0, none⟩) (N + C) cap)).ownsRow W0.heap.size 3 1 (.slice (some ⟨gg, 0, none⟩) (N + C) cap) ((k + 1) * C) (nvs (flatM (k + 1) C fun p q => A (rows.getD p 0) q))) := by
          show World.ownsRow _ _ _ _ _ _ _
          rw [HNk.out, HFL.out]
          exact own_far hown1 (grown_set _ ⟨G, 3, none⟩ _) hGW
        clear hown1 hgrow hat rG4 q3 qf HOc rG3 p3 hcs3 pf
        go_wp2_with fail
        go_roundw
        case rel => exact ⟨k + 1, _, by omega, by simp, HWN, HON⟩
        case measure => simp [intOf]; omega
    · have hk' : k = rows.length := by omega
      subst hk'
      obtain ⟨A2, cc, rfl, -⟩ := own_seg ho.out (by omega)
      have rowR := (hw.out.grown.block (w.heap.size + 1) (Array.getElem?_eq_some_iff.1 HRr0).1 (by intro e; injection e with e; omega)).trans HRr0
      have r0 := row_cell rowR 0 (v := .int .i64 0) rfl
      have r1 := row_cell rowR 1 (v := .int .i64 0) rfl
      have r2 := row_cell rowR 2 (v := .int .i64 0) rfl
      have r3 := row_cell rowR 3 (v := .slice none 0 0) rfl
      have rf : ∀ j, wr.frozen? ⟨w.heap.size + 1, j, none⟩ = false := fun j => frozen_of_row wr _ j _ _ rowR
      have hxw := hw.out.toExt hx4 (by omega)
      have HO := Lib.hid ho.out
      obtain ⟨v, hv⟩ : ∃ v, v = Value.slice A2 (rows.length * C) cc := ⟨_, rfl⟩
      rw [← hv] at HO
      have HVE := Lib.hid hv
      have HKP : Hid (∀ (W : World) (i : Nat) (u : Value), W.ownsRow W0.heap.size 3 1 v (rows.length * C) (nvs (flatM rows.length C fun p q => A (rows.getD p 0) q)) → (W.setCell ⟨w.heap.size + 1, i, none⟩ u).ownsRow W0.heap.size 3 1 v (rows.length * C) (nvs (flatM rows.length C fun p q => A (rows.getD p 0) q))) := by
        show ∀ (W : World) _ _, _ → _
        intro W i u h
        exact own_far h (grown_set _ ⟨w.heap.size + 1, i, none⟩ _) (by show w.heap.size + 1 < _; omega)
      have hwle : w.heap.size ≤ W0.heap.size := by omega
      clear ho hv
      go_wp2_with fail
      refine bodyPost_ret (by simp [results, Tryd.results55, go_sem, *]; try rfl) rfl ?_
      refine ⟨_, rfl, ?_⟩
      rw [← HVE.out]
      refine ⟨own_le hwle (HKP.out _ _ _ (HKP.out _ _ _ (HKP.out _ _ _ (HKP.out _ _ _ HO.out)))), ext_set (ext_set (ext_set (ext_set hxw (by simp) _) (by simp) _) (by simp) _) (by simp) _⟩

end Go.Proofs.YtgflflpeilfinaaDoor
