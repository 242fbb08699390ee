/- The statement ErasureCoefficientsAddUp: its walk. -/
import Derived.Test.YtgflflpeilfinaaDoorLawD
import Derived.Test.YtgflflpeilfinaaDoorLawM
import Derived.Test.YtgflflpeilfinaaDoorPureC
set_option linter.unusedVariables false
set_option linter.unusedSimpArgs false
set_option linter.unusedSectionVars false
namespace Go.Proofs.YtgflflpeilfinaaDoor
open Go.RowKit

set_option maxHeartbeats 2000000 in
theorem lawC_out (nm : ByteArray) (f d dm : Int) (par : List (List Int)) (vp vh : Value) (hs : List Bool) (w : World) (hl : Laid w) (hp : RRows w vp par) (hh : RBools w vh hs) (hd0 : -9223372036854775808 ≤ d) (hd1 : d ≤ 9223372036854775807) (z : Int) (hg : gdB f d par hs = false) :
    Calls Tryd.prog 5 #[vCd nm f d vp dm, vh, .int .u8 z] w (Ret w (.bool true)) := by
  have HP := Lib.hid hp
  have HG := Lib.hid hg
  obtain ⟨A, c, rfl, hlen, hvc⟩ := hp.form
  obtain ⟨B, cB, rfl, hlB, -⟩ := hh
  rw [List.length_map] at hlB ⊢
  rw [lim_val] at hlB
  have hx0 : Ext w (w.alloc (.cells #[.string nm, .int .i64 f, .int .i64 d, .slice A par.length c, .int .i64 dm] 24)) := ext_alloc (ext_refl w) _
  have hc0 := CdAt.new w nm f d dm (.slice A par.length c) 24
  obtain ⟨W0, hW0⟩ : ∃ W0, W0 = w.alloc (.cells #[.string nm, .int .i64 f, .int .i64 d, .slice A par.length c, .int .i64 dm] 24) := ⟨_, rfl⟩
  have HW0 := Lib.hid hW0
  rw [← hW0] at hx0 hc0
  obtain ⟨N, hN⟩ : ∃ N : Int, N = widthI f d par := ⟨_, rfl⟩
  have HN := Lib.hid hN
  have HWD : Hid (∀ W, Laid W → RRows W (.slice A par.length c) par → Calls Tryd.prog 21 #[vCd nm f d (.slice A par.length c) dm] W (Ret W (.int .i64 N))) := by
    show ∀ W, _ → _ → _
    intro W h1 h2
    rw [hN]
    exact eraWidth_any nm f d dm par _ W h1 h2 hd0 hd1
  have hcase : smallB d par = false ∨ (smallB d par = true ∧ N = 0) ∨ (smallB d par = true ∧ N ≠ 0 ∧ (hs.length : Int) ≠ N) := by
    unfold gdB at hg
    cases hs' : smallB d par with
    | false => exact .inl rfl
    | true =>
      rw [hs', Bool.true_and] at hg
      rw [hN]
      rcases hvB_width hg with h | h
      · exact .inr (.inl ⟨rfl, h⟩)
      · exact .inr (.inr ⟨rfl, h⟩)
  clear hp hg hN
  rcases hcase with hsm | ⟨hsm, h0⟩ | ⟨hsm, h0, h1⟩
  · have HSM := Lib.hid hsm
    clear hsm hW0
    go_enter Tryd.func5, Tryd.ntmps5
    go_wp2_with fail
    rw [← HW0.out]
    refine (sanity8_any _ (hl.ext hx0)).mono ?_
    rintro e w1 ⟨rfl, hx1⟩
    obtain ⟨d0, d1, d2, d3, d4⟩ := hc0.ext hx1
    have hx2 := ext_trans hx0 hx1
    go_wp2_with fail
    refine (HWD.out _ (hl.ext hx2) (HP.out.ext hx2)).mono ?_
    rintro e w2 ⟨rfl, hx3⟩
    obtain ⟨d0, d1, d2, d3, d4⟩ := (hc0.ext hx1).ext hx3
    have hx4 := ext_trans hx2 hx3
    go_wp2_with fail
    refine (small_any nm f d dm par _ _ (HP.out.ext hx4)).mono ?_
    rintro e w3 ⟨rfl, hx5⟩
    rw [HSM.out]
    go_wp2_with fail
    go_ret
    exact ⟨rfl, ext_trans hx4 hx5⟩
  · have HSM := Lib.hid hsm
    have t1 : (N == 0) = true := by simpa using h0
    clear hsm h0 hW0
    go_enter Tryd.func5, Tryd.ntmps5
    go_wp2_with fail
    rw [← HW0.out]
    refine (sanity8_any _ (hl.ext hx0)).mono ?_
    rintro e w1 ⟨rfl, hx1⟩
    obtain ⟨d0, d1, d2, d3, d4⟩ := hc0.ext hx1
    have hx2 := ext_trans hx0 hx1
    go_wp2_with fail
    refine (HWD.out _ (hl.ext hx2) (HP.out.ext hx2)).mono ?_
    rintro e w2 ⟨rfl, hx3⟩
    obtain ⟨d0, d1, d2, d3, d4⟩ := (hc0.ext hx1).ext hx3
    have hx4 := ext_trans hx2 hx3
    go_wp2_with fail
    refine (small_any nm f d dm par _ _ (HP.out.ext hx4)).mono ?_
    rintro e w3 ⟨rfl, hx5⟩
    rw [HSM.out]
    go_wp2_with fail
    go_ret
    exact ⟨rfl, ext_trans hx4 hx5⟩
  · have HSM := Lib.hid hsm
    have t1 : (N == 0) = false := by simpa using h0
    have t2 : ((hs.length : Int) != N) = true := by simpa using h1
    clear hsm h0 h1 hW0
    go_enter Tryd.func5, Tryd.ntmps5
    go_wp2_with fail
    rw [← HW0.out]
    refine (sanity8_any _ (hl.ext hx0)).mono ?_
    rintro e w1 ⟨rfl, hx1⟩
    obtain ⟨d0, d1, d2, d3, d4⟩ := hc0.ext hx1
    have hx2 := ext_trans hx0 hx1
    go_wp2_with fail
    refine (HWD.out _ (hl.ext hx2) (HP.out.ext hx2)).mono ?_
    rintro e w2 ⟨rfl, hx3⟩
    obtain ⟨d0, d1, d2, d3, d4⟩ := (hc0.ext hx1).ext hx3
    have hx4 := ext_trans hx2 hx3
    go_wp2_with fail
    refine (small_any nm f d dm par _ _ (HP.out.ext hx4)).mono ?_
    rintro e w3 ⟨rfl, hx5⟩
    rw [HSM.out]
    go_wp2_with fail
    go_ret
    exact ⟨rfl, ext_trans hx4 hx5⟩


theorem nvs_setA (L : List Nat) (j v : Nat) : (nvs L).toArray.setIfInBounds j (.int .i64 (v : Int)) = (nvs (L.set j v)).toArray := by
  rw [List.setIfInBounds_toArray, nvs_list_set]
theorem nvs_zeros (n : Nat) : Array.replicate n (Value.int .i64 0) = (nvs (List.replicate n 0)).toArray := by
  apply Array.ext' 
  simp [nvs, nints, ivs]

set_option maxRecDepth 100000 in
set_option maxHeartbeats 1000000 in
theorem lawC_in (nm : ByteArray) (m n : Nat) (dm : Int) (par : List (List Int)) (vp vh : Value) (hs : List Bool) (w : World) (hl : Laid w) (hp : RRows w vp par) (hh : RBools w vh hs) (z : Nat) (hz : z < 256) (hok : okB m n par = true) (hN : hs.length = n + par.length) (hsm : smallB n par = true) :
    Calls Tryd.prog 5 #[vCd nm m n vp dm, vh, .int .u8 (z : Int)] w (Ret w (.bool true)) := by
  have V := Vd.of hok hN
  have HVD := Lib.hid V
  have hn32 := V.n32
  have hn1 := V.n1
  have HM := Lib.hid V.hm
  have HP := Lib.hid hp
  have HH := Lib.hid hh
  have HSM := Lib.hid hsm
  obtain ⟨q, hqd⟩ : ∃ q, q = z % hs.length := ⟨_, rfl⟩
  have hq : q < hs.length := by rw [hqd]; exact Nat.mod_lt _ (by omega)
  have hrw : ∀ row ∈ par, row.length = n := fun r h => (V.rows r h).1
  have HCB := Lib.hid fun W h1 h2 h3 => comb_ok nm m n dm q par vp vh hs W h1 h2 h3 hok hN hq
  have HROW : Hid (∀ u, u < hs.length → ∀ W, RRows W vp par → Calls Tryd.prog 26 #[vCd nm m n vp dm, .int .i64 u] W fun e w' => ∃ v', e = .returned v' ∧ w'.ownsRow W.heap.size 3 1 v' n (nvs (gRow n par u)) ∧ Ext W w') := fun u hu W h => by
    have h1 := r8row_any nm m dm n par vp u W h (by omega) hrw (by omega) (by omega)
    rwa [← gRow_ints V.hm V.rows (show u < n + par.length by omega)] at h1
  have HMUL : Hid (∀ a b : Nat, a < 2 ^ m → b < 2 ^ m → ∀ W, Calls Tryd.prog 27 #[.int .i64 m, .int .i64 a, .int .i64 b] W fun e w' => e = .returned (.tuple #[.int .i64 (gmul m a b), .int .i64 0]) ∧ w' = W) := fun a b ha hb W =>
    (r5mul_ok m a b V.hm ha hb W).mono fun e w2 h => ⟨h.1, h.2.symm⟩
  obtain ⟨N, hNe⟩ : ∃ N, N = hs.length := ⟨_, rfl⟩
  have hWI : widthI m n par = (N : Int) := by unfold widthI; rw [hok, hNe, hN]; simp
  have HWD := Lib.hid fun W h1 h2 => eraWidth_any nm m n dm par vp W h1 h2 (by omega) (by omega)
  rw [hWI] at HWD
  obtain ⟨A, c, rfl, hlen, hvc⟩ := hp.form
  obtain ⟨B, cB, rfl, -, -⟩ := hh
  rw [List.length_map, ← hNe] at HH HCB ⊢
  rw [← hNe] at HROW
  have hNle : N ≤ 32 := by omega
  have hN1 : 1 ≤ N := by omega
  have hqN : q < N := by omega
  have HQ : Hid (z % N = q) := by show _ = _; rw [hqd, hNe]
  have HNE := Lib.hid hNe
  have HNP : Hid (N = n + par.length) := by show _ = _; omega
  have hx0 : Ext w (w.alloc (.cells #[.string nm, .int .i64 m, .int .i64 n, .slice A par.length c, .int .i64 dm] 24)) := ext_alloc (ext_refl w) _
  have hc0 := CdAt.new w nm m n dm (.slice A par.length c) 24
  obtain ⟨W0, hW0⟩ : ∃ W0, W0 = w.alloc (.cells #[.string nm, .int .i64 m, .int .i64 n, .slice A par.length c, .int .i64 dm] 24) := ⟨_, rfl⟩
  have HW0 := Lib.hid hW0
  rw [← hW0] at hx0 hc0
  have t1 : ((N : Int) == 0) = false := by simp; omega
  have t2 : ((N : Int) != (N : Int)) = false := by simp
  have hq2 : (z : Int) % (N : Int) = (q : Int) := by rw [← Int.natCast_emod, HQ.out]
  clear hp hok hN hsm V hNe hWI hW0 hqd hq hrw
  go_enter Tryd.func5, Tryd.ntmps5
  go_wp2_with fail
  rw [← HW0.out]
  refine (sanity8_any _ (hl.ext hx0)).mono ?_
  rintro e w1 ⟨rfl, hx1⟩
  have hc1 := hc0.ext hx1
  obtain ⟨d0, d1, d2, d3, d4⟩ := hc1
  have hx2 := ext_trans hx0 hx1
  go_wp2_with fail
  refine (HWD.out _ (hl.ext hx2) (HP.out.ext hx2)).mono ?_
  rintro e w2 ⟨rfl, hx3⟩
  have hc2 := (hc0.ext hx1).ext hx3
  obtain ⟨d0, d1, d2, d3, d4⟩ := hc2
  have hx4 := ext_trans hx2 hx3
  go_wp2_with fail
  refine (small_any nm m n dm par _ _ (HP.out.ext hx4)).mono ?_
  rintro e w3 ⟨rfl, hx5⟩
  rw [HSM.out]
  have hx6 := Lib.hid (ext_trans hx4 hx5)
  have HH3 := Lib.hid (RBools.ext HH.out hx6.out)
  have HP3 := Lib.hid (HP.out.ext hx6.out)
  have hl3 := Lib.hid (hl.ext hx6.out)
  have HC3 := Lib.hid (((hc0.ext hx1).ext hx3).ext hx5)
  obtain ⟨d0, d1, d2, d3, d4⟩ := HC3.out
  clear hc0 hx0 hx1 hx2 hx3 hx4 hx5 hl
  go_wp2_with fail
  refine (HCB.out _ hl3.out HP3.out HH3.out).mono ?_
  rintro e w4 ⟨hfound, hlost, hx7⟩
  have HC4 := Lib.hid (HC3.out.ext hx7)
  have HH4 := Lib.hid (RBools.ext HH3.out hx7)
  have HP4 := Lib.hid (HP3.out.ext hx7)
  have hx8 := Lib.hid (ext_trans hx6.out hx7)
  have G1 : w.heap.size < w4.heap.size := World.block_lt_of_cell? w4 _ HC4.out.c0
  clear d0 d1 d2 d3 d4
  cases hr : recB m n par hs q with
  | false =>
    obtain rfl := hlost hr
    have hqn : hs.getD q false = false := by
      cases h : hs.getD q false with
      | false => rfl
      | true => exact absurd (HVD.out.rec_pres (by have := HNP.out; omega) h) (by rw [hr]; decide)
    obtain ⟨b, o, hA, hcl⟩ := HH4.out.get q (by rw [← HNE.out]; exact hqN)
    subst hA
    rw [show hs[q]'(by rw [← HNE.out]; exact hqN) = false by rw [← hqn]; simp [show q < hs.length by rw [← HNE.out]; exact hqN]] at hcl
    clear hr hqn hfound hlost hx7
    go_wp2_with fail
    go_ret
    exact ⟨rfl, hx8.out⟩
  | true =>
    obtain ⟨v', rfl, ho⟩ := hfound hr
    have HLL : Hid ((cmbT m n par hs q).length ≤ 32) := HVD.out.tm_len
    have hT := own_tm ho (by have := HLL.out; rw [lim_val]; omega)
    have HTM : Hid (∀ k, k < (cmbT m n par hs q).length → ∃ v cc : Nat, tmAt (cmbT m n par hs q) k = ((v : Int), (cc : Int)) ∧ v < N ∧ hs.getD v false = true ∧ 0 < cc ∧ cc < 2 ^ m) := fun k h => by
      have hqq : q < n + par.length := by have := HNP.out; omega
      obtain ⟨v, cc, h1, h2, h3, h4⟩ := HVD.out.tm hqq _ (List.getElem_mem h)
      exact ⟨v, cc, by rw [← h1]; simp [tmAt, h], by have := HVD.out.base_lt h2; have := HNP.out; omega, mem_presL.1 (HVD.out.basis.sub v h2), h3, h4⟩
    have HRISE : Hid (∀ k, k + 1 < (cmbT m n par hs q).length → (tmAt (cmbT m n par hs q) k).1 < (tmAt (cmbT m n par hs q) (k + 1)).1) := fun k h => HVD.out.rise h
    have HSUM : Hid (sumC m n par (cmbT m n par hs q) (cmbT m n par hs q).length 0 = gRow n par q) := HVD.out.sum_all (by have := HNP.out; omega) hr
    obtain ⟨L, hLe⟩ : ∃ L, L = cmbT m n par hs q := ⟨_, rfl⟩
    rw [← hLe] at HLL hT HTM HRISE HSUM
    have hT4 := Lib.hid hT
    obtain ⟨D, cD, rfl, -, -⟩ := hT
    have hL32 : L.length ≤ 32 := HLL.out
    clear hr hfound hlost hx7 ho hLe
    obtain ⟨d0, d1, d2, d3, d4⟩ := HC4.out
    obtain ⟨W5, hW5⟩ : ∃ W, W = w4.alloc (.cells (Array.replicate n (.int .i64 0)) 3) := ⟨_, rfl⟩
    have HW5 := Lib.hid hW5
    have hx9 : Hid (Ext w4 W5) := by show Ext _ _; rw [hW5]; exact ext_alloc (ext_refl w4) _
    have HWR0 : Hid (Wrote W5 w4.heap.size 3 (nvs (sumC m n par L 0 0)).toArray W5) := by
      refine Wrote.init ?_
      rw [hW5, sumC_zero, ← nvs_zeros]
      exact row_alloc w4 _ _ _ rfl
    have G2 : w4.heap.size < W5.heap.size := HWR0.out.lt
    have hmk := make_zero (P := Tryd.prog) w4 29 3 _ (.int .i64 0) 8 Tryd.underlying29 rfl rfl rfl rfl rfl n (by omega) (by omega)
    simp only [List.toArray_replicate] at hmk
    clear hW5
    go_wp2_with fail
    rw [← HW5.out]
    clear hmk d0 d1 d2 d3 d4
    have HC5 := Lib.hid (HC4.out.ext hx9.out)
    have HG5 := Lib.hid (RBools.ext HH4.out hx9.out)
    go_loopw [13] (fun i wr => ∃ k : Nat, k ≤ L.length ∧ i = .int .i64 k ∧ Hid (Wrote W5 w4.heap.size 3 (nvs (sumC m n par L k 0)).toArray wr)) (fun i _ => L.length - (intOf i).toNat)
    case atStart => exact ⟨0, Nat.zero_le _, rfl, HWR0.out⟩
    case round =>
      obtain ⟨k, hk, rfl, hw⟩ := hrel
      have hxr : Hid (Ext w4 wr) := hw.out.toExt hx9.out (Nat.le_refl _)
      by_cases hlt : k < L.length
      · obtain ⟨bl, ol, hA, hl1, hl2⟩ := hT4.out.get k hlt
        subst hA
        obtain ⟨v, cc, htm, hvN, hvp, hc1, hc2⟩ := HTM.out k hlt
        have htk : L[k] = ((v : Int), (cc : Int)) := by rw [← htm]; simp [tmAt, hlt]
        rw [htk] at hl1 hl2
        have hl1 := ext_cell hxr.out hl1
        have hl2 := ext_cell hxr.out hl2
        have hbl : bl < wr.heap.size := World.block_lt_of_cell? wr _ hl1
        obtain ⟨bh, oh, hB, hh1⟩ := (RBools.ext HH4.out hxr.out).get v (by rw [← HNE.out]; exact hvN)
        subst hB
        rw [show hs[v]'(by rw [← HNE.out]; exact hvN) = true by rw [← hvp]; simp [show v < hs.length by rw [← HNE.out]; exact hvN]] at hh1
        have hxR : Ext wr (wr.alloc (.cells #[.int .i64 (v : Int), .int .i64 (cc : Int)] 49)) := ext_alloc (ext_refl wr) _
        have f0 : (wr.alloc (.cells #[.int .i64 (v : Int), .int .i64 (cc : Int)] 49)).cell? ⟨wr.heap.size, 0, none⟩ = some (.int .i64 (v : Int)) := by simp [go_sem]
        have f1 : (wr.alloc (.cells #[.int .i64 (v : Int), .int .i64 (cc : Int)] 49)).cell? ⟨wr.heap.size, 1, none⟩ = some (.int .i64 (cc : Int)) := by simp [go_sem]
        have f2 := ext_cell hxR hh1
        have G3 : w4.heap.size < wr.heap.size := hw.out.lt
        have s1 : decide ((v : Int) < 0) = false := by simp
        have s2 : decide (N ≤ v) = false := by simp; omega
        have s3 : ((cc : Int) == 0) = false := by simp; omega
        have s3' : (cc == 0) = false := by simp; omega
        have s3'' : decide (cc = 0) = false := by simp; omega
        obtain ⟨WR, hWR⟩ : ∃ WR, WR = wr.alloc (.cells #[.int .i64 (v : Int), .int .i64 (cc : Int)] 49) := ⟨_, rfl⟩
        have HWR := Lib.hid hWR
        clear hWR
        obtain ⟨d0, d1, d2, d3, d4⟩ := (HC4.out.ext hxr.out).ext hxR
        have hgv := HMUL.out
        obtain ⟨SF, hSF⟩ : ∃ SF : Nat → List Nat, SF = sumC m n par L k := ⟨_, rfl⟩
        have HS0 : Hid (Wrote W5 w4.heap.size 3 (nvs (SF 0)).toArray WR) := by
          have := hw.out.ext hxR
          rw [hSF]
          rw [HWR.out]; exact this
        have HSN : Hid (SF n = sumC m n par L (k + 1) 0) := by show _ = _; rw [hSF, sumC_next]
        have HSG : Hid (∀ j, j < n → (SF j)[j]? = some (accC m n par L k j) ∧ (SF j).set j (accC m n par L k j ^^^ gmul m cc (gEl n par v j)) = SF (j + 1) ∧ accC m n par L k j < 2 ^ m) := by
          show ∀ j, _ → _
          intro j hj
          rw [hSF]
          refine ⟨sumC_get m n par L k j hj, ?_, accC_lt HM.out par L k j⟩
          rw [← sumC_set, accC_succ, htm]
          simp only [Int.toNat_natCast]
          rw [mu_in hc2 (HVD.out.el_lt (by have := HNP.out; omega) j)]
        have HSL : Hid (∀ j, (SF j).length = n) := by show ∀ j, _; intro j; rw [hSF, sumC_len]
        have HRW := Lib.hid fun W h => HROW.out v hvN W h
        have HEL : Hid (∀ j, j < n → gEl n par v j < 2 ^ m ∧ (gRow n par v)[j]? = some (gEl n par v j)) := by
          show ∀ j, _ → _
          intro j hj
          have hv' : v < n + par.length := by have := HNP.out; omega
          refine ⟨HVD.out.el_lt hv' j, ?_⟩
          have hl : j < (gRow n par v).length := by rw [gRow_len HVD.out.hm HVD.out.rows hv']; exact hj
          rw [List.getElem?_eq_getElem hl]
          unfold gEl
          rw [ate_get hl]
        have hHCR := Lib.hid ((HC4.out.ext hxr.out).ext hxR)
        have HPR := Lib.hid ((HP4.out.ext hxr.out).ext hxR)
        have hx4R := Lib.hid (ext_trans hxr.out hxR)
        have hcl := Lib.hid hc2
        clear hSF
        rcases Nat.eq_zero_or_pos k with hk0 | hkp
        focus
          subst hk0
          simp only [Nat.zero_mul, Nat.add_zero, Nat.zero_add] at hl1 hl2
          clear hgv htm htk
          go_wp2_with fail
          rw [← HWR.out] at f0 f1 f2 hxR hHCR HPR hx4R ⊢
          have hxc : Ext WR WR := ext_refl WR
          go_quiet (fail)
        rotate_left
        focus
          obtain ⟨j, rfl⟩ : ∃ j, k = j + 1 := ⟨k - 1, by omega⟩
          obtain ⟨v2, cc2, htm2, -, -, -, -⟩ := HTM.out j (by omega)
          obtain ⟨bl', ol', hA', hl3', -⟩ := hT4.out.get j (by omega)
          injection hA' with hA'
          injection hA' with e1 e2
          subst e1 e2
          have htk2 : (L[j]'(by omega)) = ((v2 : Int), (cc2 : Int)) := by rw [← htm2]; simp [tmAt, show j < L.length by omega]
          rw [htk2] at hl3'
          have hl3' := ext_cell hxr.out hl3'
          have hl4 := ext_cell hxR hl3'
          have hlt2 := HRISE.out j hlt
          rw [htm, htm2] at hlt2
          have s4 : decide (v ≤ v2) = false := by simp at hlt2 ⊢; omega
          clear hgv htm htk htm2 htk2 hlt2
          go_wp2_with fail
          rw [← HWR.out] at f0 f1 f2 hxR hl4 hHCR HPR hx4R ⊢
          have hxc : Ext WR WR := ext_refl WR
          go_quiet (fail)
        all_goals
          have hxd : Ext WR (WR.drewN nq) := drewN_ext (ext_refl WR) nq
          obtain ⟨W6, hW6⟩ : ∃ W, W = WR.drewN nq := ⟨_, rfl⟩
          rw [← hW6] at hxd ⊢
          have HC6 := Lib.hid (hHCR.out.ext hxd)
          have HP6 := Lib.hid (HPR.out.ext hxd)
          have HS6 := Lib.hid (HS0.out.ext hxd)
          have f0 := ext_cell hxd f0
          have f1 := ext_cell hxd f1
          have hzR : wr.heap.size < W6.heap.size := World.block_lt_of_cell? W6 _ f0
          clear hW6 hHCR HPR HS0 hxR hxd hxc d0 d1 d2 d3 d4 f2
          obtain ⟨d0, d1, d2, d3, d4⟩ := HC6.out
          go_wp2_with fail
          refine (HRW.out _ HP6.out).mono ?_
          rintro e w7 ⟨v', rfl, ho7, hx7⟩
          obtain ⟨gr, cr, rfl⟩ := own_some ho7 (by omega)
          have HO7 := Lib.hid ho7
          have HC7 := Lib.hid (HC6.out.ext hx7)
          have HS7 := Lib.hid (HS6.out.ext hx7)
          have f1 := ext_cell hx7 f1
          have hgr : W6.heap.size ≤ gr := own_base' ho7 gr rfl
          have HW70 : Hid (Wrote w7 w4.heap.size 3 (nvs (SF 0)).toArray w7) := Wrote.init HS7.out.row
          obtain ⟨e0, e1, e2, e3, e4⟩ := HC7.out
          clear ho7 d0 d1 d2 d3 d4 hx7 HC6 HP6
          go_wp2_with fail
          go_loopw [16] (fun jv wr => ∃ j : Nat, j ≤ n ∧ jv = .int .i64 j ∧ Hid (Wrote w7 w4.heap.size 3 (nvs (SF j)).toArray wr)) (fun jv _ => n - (intOf jv).toNat)
          case atStart => exact ⟨0, Nat.zero_le _, rfl, HW70.out⟩
          case round =>
            obtain ⟨jj, hj, rfl, hw8⟩ := hrel
            have p1 := hw8.out.far e1 (by simp; omega)
            have p2 := hw8.out.far e2 (by simp; omega)
            by_cases hjn : jj < n
            · obtain ⟨y, hy1, hy2, hy3⟩ : ∃ y, (SF jj)[jj]? = some y ∧ (SF jj).set jj (y ^^^ gmul m cc (gEl n par v jj)) = SF (jj + 1) ∧ y < 2 ^ m := ⟨_, HSG.out jj hjn⟩
              obtain ⟨hel, hge⟩ := HEL.out jj hjn
              have pt := hw8.out.far f1 (by simp; omega)
              have pr : w7.cell? ⟨gr, jj, none⟩ = some (.int .i64 (gEl n par v jj : Nat)) := by
                rw [HO7.out.cellAt jj (by omega)]
                simp [nvs, nints, ivs, hge]
              have pr := hw8.out.far pr (by simp; omega)
              have ps := hw8.out.cell jj
              rw [nvs_get hy1] at ps
              have pf : wr.frozen? ⟨w4.heap.size, jj, none⟩ = false := frozen_of_row _ _ _ _ _ hw8.out.row
              have HM2 := Lib.hid fun W => HMUL.out cc (gEl n par v jj) hcl.out hel W
              have hgl := gmul_lt (a := cc) (b := gEl n par v jj) HM.out hcl.out
              have HSET : Hid (∀ W, Wrote w7 w4.heap.size 3 (nvs (SF jj)).toArray W → Wrote w7 w4.heap.size 3 (nvs (SF (jj + 1))).toArray (W.setCell ⟨w4.heap.size, jj, none⟩ (.int .i64 ((y ^^^ gmul m cc (gEl n par v jj) : Nat) : Int)))) := by
                show ∀ W, _ → _
                intro W hW
                have := hW.set jj (.int .i64 ((y ^^^ gmul m cc (gEl n par v jj) : Nat) : Int))
                rw [nvs_setA, hy2] at this
                exact this
              obtain ⟨x, hx⟩ : ∃ x, x = gmul m cc (gEl n par v jj) := ⟨_, rfl⟩
              rw [← hx] at HM2 hgl HSET
              have X1 : bits .xor .i64 (y : Int) (x : Int) = ((y ^^^ x : Nat) : Int) := xor_i64 _ _ (by have := pow_lt HM.out; omega) (by have := pow_lt HM.out; omega)
              clear hx hy1 hy2 hy3 hge hgl
              go_wp2_with fail
              go_quiet ((go_at_call 27; exact Calls.quiet_of_same (HM2.out _)))
              have hxq : Ext wr (wr.drewN nq) := drewN_ext (ext_refl wr) _
              obtain ⟨W9, hW9⟩ : ∃ W, W = wr.drewN nq := ⟨_, rfl⟩
              rw [← hW9] at hxq ⊢
              have HW9 := Lib.hid (hw8.out.ext hxq)
              have ps := ext_cell hxq ps
              have pf : W9.frozen? ⟨w4.heap.size, jj, none⟩ = false := frozen_of_row _ _ _ _ _ HW9.out.row
              have HWN := Lib.hid (HSET.out _ HW9.out)
              clear hW9 hxq p1 p2 pt pr
              go_wp2_with fail
              go_roundw
              case rel => exact ⟨jj + 1, by omega, by simp, HWN⟩
              case measure => simp [intOf]; omega
            · have hjn' : jj = n := by omega
              subst hjn'
              have HWK : Hid (Wrote W5 w4.heap.size 3 (nvs (SF jj)).toArray wr) := ⟨HS7.out.grown.trans hw8.out.grown, hw8.out.row⟩
              rw [HSN.out] at HWK
              clear f0 f1
              go_wp2_with fail
              go_roundw
              case rel => exact ⟨_, by omega, by simp, HWK⟩
              case measure => simp [intOf]; omega
      · have hkL : k = L.length := by omega
        have HRF : Hid (RInts wr (.slice (some ⟨w4.heap.size, 0, none⟩) n n) (nints (gRow n par q))) := by
          have h := hw.out.row
          rw [hkL, HSUM.out] at h
          exact ints_of_row h (gRow_len HVD.out.hm HVD.out.rows (by have := HNP.out; omega)) (by rw [lim_val]; omega)
        obtain ⟨d0, d1, d2, d3, d4⟩ := HC4.out.ext hxr.out
        have HPW := Lib.hid (HP4.out.ext hxr.out)
        have HRQ := Lib.hid fun W h => HROW.out q hqN W h
        have HSI : Hid (∀ v u W, RInts W v (nints (gRow n par q)) → RInts W u (nints (gRow n par q)) → Calls Tryd.prog 18 #[v, u] W (Ret W (.bool true))) := fun v u W h1 h2 => by
          have := same_ints (nints (gRow n par q)) (nints (gRow n par q)) v u W h1 h2
          rwa [decide_eq_true rfl] at this
        have hgl : (gRow n par q).length ≤ lim := by rw [gRow_len HVD.out.hm HVD.out.rows (by have := HNP.out; omega), lim_val]; omega
        have HGL := Lib.hid hgl
        clear hkL hgl
        go_wp2_with fail
        refine (HRQ.out _ HPW.out).mono ?_
        rintro e w7 ⟨v', rfl, ho7, hx7⟩
        have HI7 := Lib.hid (own_ints ho7 HGL.out)
        have HRG := Lib.hid (RInts.ext HRF.out hx7)
        clear ho7 d0 d1 d2 d3 d4
        go_wp2_with fail
        refine (HSI.out _ _ _ HRG.out HI7.out).mono ?_
        rintro e w8 ⟨rfl, hx8'⟩
        go_wp2_with fail
        go_ret
        exact ⟨rfl, ext_trans hx8.out (ext_trans hxr.out (ext_trans hx7 hx8'))⟩

theorem lawC_any (nm : ByteArray) (f d dm : Int) (par : List (List Int)) (vp vh : Value) (hs : List Bool) (z : Int) (w : World) (hl : Laid w) (hp : RRows w vp par) (hh : RBools w vh hs) (hwf : (Lit.int .u8 z).wf = true) (hd0 : -9223372036854775808 ≤ d) (hd1 : d ≤ 9223372036854775807) :
    Calls Tryd.prog 5 #[vCd nm f d vp dm, vh, .int .u8 z] w (Ret w (.bool true)) := by
  have hz := u8_wf hwf
  cases hg : gdB f d par hs with
  | false => exact lawC_out nm f d dm par vp vh hs w hl hp hh hd0 hd1 z hg
  | true =>
    unfold gdB at hg
    rw [Bool.and_eq_true] at hg
    obtain ⟨m, n, rfl, rfl, hok, hN⟩ := hvB_facts hg.2
    obtain ⟨z', rfl⟩ : ∃ z' : Nat, z = (z' : Int) := ⟨z.toNat, by omega⟩
    exact lawC_in nm m n dm par vp vh hs w hl hp hh z' (by omega) hok hN hg.1

end Go.Proofs.YtgflflpeilfinaaDoor
