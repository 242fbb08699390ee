/- The statement ErasureDecodableCounts: its walk. -/
import Derived.Test.YtgflflpeilfinaaDoorSanA
import Derived.Test.YtgflflpeilfinaaDoorPureB
set_option linter.unusedVariables false
set_option linter.unusedSectionVars false
set_option linter.unusedSimpArgs false
namespace Go.Proofs.YtgflflpeilfinaaDoor
open Go.RowKit

/-- The first five cells of a block hold the code. -/
structure CdAt (w : World) (b : Nat) (nm : ByteArray) (f d dm : Int) (vp : Value) : Prop where
  c0 : w.cell? ⟨b, 0, none⟩ = some (.string nm)
  c1 : w.cell? ⟨b, 1, none⟩ = some (.int .i64 f)
  c2 : w.cell? ⟨b, 2, none⟩ = some (.int .i64 d)
  c3 : w.cell? ⟨b, 3, none⟩ = some vp
  c4 : w.cell? ⟨b, 4, none⟩ = some (.int .i64 dm)
theorem CdAt.new (w : World) (nm : ByteArray) (f d dm : Int) (vp : Value) (t : TypeId) : CdAt (w.alloc (.cells #[.string nm, .int .i64 f, .int .i64 d, vp, .int .i64 dm] t)) w.heap.size nm f d dm vp :=
  ⟨row_cell (row_alloc w _ t _ rfl) 0 rfl, row_cell (row_alloc w _ t _ rfl) 1 rfl, row_cell (row_alloc w _ t _ rfl) 2 rfl, row_cell (row_alloc w _ t _ rfl) 3 rfl, row_cell (row_alloc w _ t _ rfl) 4 rfl⟩
theorem CdAt.ext {w w' : World} {b : Nat} {nm : ByteArray} {f d dm : Int} {vp : Value} (h : CdAt w b nm f d dm vp) (hx : Ext w w') : CdAt w' b nm f d dm vp :=
  ⟨ext_cell hx h.c0, ext_cell hx h.c1, ext_cell hx h.c2, ext_cell hx h.c3, ext_cell hx h.c4⟩

/-- The guard of the statements over a code and a selection. -/
def gdB (f d : Int) (par : List (List Int)) (hs : List Bool) : Bool := smallB d par && hvB f d par hs
theorem hvB_width {f d : Int} {par : List (List Int)} {hs : List Bool} (h : hvB f d par hs = false) : widthI f d par = 0 ∨ (widthI f d par ≠ 0 ∧ (hs.length : Int) ≠ widthI f d par) := by
  unfold hvB at h
  unfold widthI
  cases hok : okB f d par with
  | false => left; simp
  | true =>
    right
    rw [hok, Bool.true_and, decide_eq_false_iff_not] at h
    obtain ⟨m, n, rfl, rfl, hm, hn1, hn2, _⟩ := okB_facts hok
    simp only [if_true]
    exact ⟨by omega, h⟩
theorem hvB_facts {f d : Int} {par : List (List Int)} {hs : List Bool} (h : hvB f d par hs = true) : ∃ m n : Nat, f = m ∧ d = n ∧ okB m n par = true ∧ hs.length = n + par.length := by
  unfold hvB at h
  rw [Bool.and_eq_true] at h
  obtain ⟨m, n, rfl, rfl, _⟩ := okB_facts h.1
  have := of_decide_eq_true h.2
  exact ⟨m, n, rfl, rfl, h.1, by omega⟩

/-- All data units among the first k are present. -/
def datTo (n : Nat) (hs : List Bool) (k : Nat) : Bool := (List.range k).all fun j => hs.getD j false || decide (n ≤ j)
theorem datTo_succ (n : Nat) (hs : List Bool) (k : Nat) : datTo n hs (k + 1) = (datTo n hs k && (hs.getD k false || decide (n ≤ k))) := by
  unfold datTo
  rw [List.range_succ, List.all_append]
  simp

set_option maxHeartbeats 2000000 in
theorem lawD_out (nm : ByteArray) (f d dm : Int) (par : List (List Int)) (vp vh : Value) (hs : List Bool) (w : World) (hl : Laid w) (hp : RRows w vp par) (hh : RBools w vh hs) (hd0 : -9223372036854775808 ≤ d) (hd1 : d ≤ 9223372036854775807) (hg : gdB f d par hs = false) :
    Calls Tryd.prog 7 #[vCd nm f d vp dm, vh] w (Ret w (.bool true)) := by
  have HP := Lib.hid hp
  have HG := Lib.hid hg
  obtain ⟨A, c, rfl, hlen, hvc⟩ := hp.form
  obtain ⟨B, cB, rfl, hlB, -⟩ := hh
  rw [List.length_map] at hlB ⊢
  rw [lim_val] at hlB
  have hx0 : Ext w (w.alloc (.cells #[.string nm, .int .i64 f, .int .i64 d, .slice A par.length c, .int .i64 dm] 24)) := ext_alloc (ext_refl w) _
  have hc0 := CdAt.new w nm f d dm (.slice A par.length c) 24
  obtain ⟨W0, hW0⟩ : ∃ W0, W0 = w.alloc (.cells #[.string nm, .int .i64 f, .int .i64 d, .slice A par.length c, .int .i64 dm] 24) := ⟨_, rfl⟩
  have HW0 := Lib.hid hW0
  rw [← hW0] at hx0 hc0
  obtain ⟨N, hN⟩ : ∃ N : Int, N = widthI f d par := ⟨_, rfl⟩
  have HN := Lib.hid hN
  have HWD : Hid (∀ W, Laid W → RRows W (.slice A par.length c) par → Calls Tryd.prog 21 #[vCd nm f d (.slice A par.length c) dm] W (Ret W (.int .i64 N))) := by
    show ∀ W, _ → _ → _
    intro W h1 h2
    rw [hN]
    exact eraWidth_any nm f d dm par _ W h1 h2 hd0 hd1
  have hcase : smallB d par = false ∨ (smallB d par = true ∧ N = 0) ∨ (smallB d par = true ∧ N ≠ 0 ∧ (hs.length : Int) ≠ N) := by
    unfold gdB at hg
    cases hs' : smallB d par with
    | false => exact .inl rfl
    | true =>
      rw [hs', Bool.true_and] at hg
      rw [hN]
      rcases hvB_width hg with h | h
      · exact .inr (.inl ⟨rfl, h⟩)
      · exact .inr (.inr ⟨rfl, h⟩)
  clear hp hg hN
  rcases hcase with hsm | ⟨hsm, h0⟩ | ⟨hsm, h0, h1⟩
  · have HSM := Lib.hid hsm
    clear hsm hW0
    go_enter Tryd.func7, Tryd.ntmps7
    go_wp2_with fail
    rw [← HW0.out]
    refine (sanity8_any _ (hl.ext hx0)).mono ?_
    rintro e w1 ⟨rfl, hx1⟩
    obtain ⟨d0, d1, d2, d3, d4⟩ := hc0.ext hx1
    have hx2 := ext_trans hx0 hx1
    go_wp2_with fail
    refine (HWD.out _ (hl.ext hx2) (HP.out.ext hx2)).mono ?_
    rintro e w2 ⟨rfl, hx3⟩
    obtain ⟨d0, d1, d2, d3, d4⟩ := (hc0.ext hx1).ext hx3
    have hx4 := ext_trans hx2 hx3
    go_wp2_with fail
    refine (small_any nm f d dm par _ _ (HP.out.ext hx4)).mono ?_
    rintro e w3 ⟨rfl, hx5⟩
    rw [HSM.out]
    go_wp2_with fail
    go_ret
    exact ⟨rfl, ext_trans hx4 hx5⟩
  · have HSM := Lib.hid hsm
    have t1 : (N == 0) = true := by simpa using h0
    clear hsm h0 hW0
    go_enter Tryd.func7, Tryd.ntmps7
    go_wp2_with fail
    rw [← HW0.out]
    refine (sanity8_any _ (hl.ext hx0)).mono ?_
    rintro e w1 ⟨rfl, hx1⟩
    obtain ⟨d0, d1, d2, d3, d4⟩ := hc0.ext hx1
    have hx2 := ext_trans hx0 hx1
    go_wp2_with fail
    refine (HWD.out _ (hl.ext hx2) (HP.out.ext hx2)).mono ?_
    rintro e w2 ⟨rfl, hx3⟩
    obtain ⟨d0, d1, d2, d3, d4⟩ := (hc0.ext hx1).ext hx3
    have hx4 := ext_trans hx2 hx3
    go_wp2_with fail
    refine (small_any nm f d dm par _ _ (HP.out.ext hx4)).mono ?_
    rintro e w3 ⟨rfl, hx5⟩
    rw [HSM.out]
    go_wp2_with fail
    go_ret
    exact ⟨rfl, ext_trans hx4 hx5⟩
  · have HSM := Lib.hid hsm
    have t1 : (N == 0) = false := by simpa using h0
    have t2 : ((hs.length : Int) != N) = true := by simpa using h1
    clear hsm h0 h1 hW0
    go_enter Tryd.func7, Tryd.ntmps7
    go_wp2_with fail
    rw [← HW0.out]
    refine (sanity8_any _ (hl.ext hx0)).mono ?_
    rintro e w1 ⟨rfl, hx1⟩
    obtain ⟨d0, d1, d2, d3, d4⟩ := hc0.ext hx1
    have hx2 := ext_trans hx0 hx1
    go_wp2_with fail
    refine (HWD.out _ (hl.ext hx2) (HP.out.ext hx2)).mono ?_
    rintro e w2 ⟨rfl, hx3⟩
    obtain ⟨d0, d1, d2, d3, d4⟩ := (hc0.ext hx1).ext hx3
    have hx4 := ext_trans hx2 hx3
    go_wp2_with fail
    refine (small_any nm f d dm par _ _ (HP.out.ext hx4)).mono ?_
    rintro e w3 ⟨rfl, hx5⟩
    rw [HSM.out]
    go_wp2_with fail
    go_ret
    exact ⟨rfl, ext_trans hx4 hx5⟩

theorem datTo_full {n : Nat} {hs : List Bool} (h : datTo n hs hs.length = true) (hn : n ≤ hs.length) : ∀ j, j < n → hs.getD j false = true := by
  intro j hj
  unfold datTo at h
  rw [List.all_eq_true] at h
  have := h j (List.mem_range.2 (by omega))
  simp only [Bool.or_eq_true, decide_eq_true_eq] at this
  rcases this with h | h
  · exact h
  · omega

set_option maxRecDepth 100000 in
set_option maxHeartbeats 2000000 in
theorem lawD_in (nm : ByteArray) (m n : Nat) (dm : Int) (par : List (List Int)) (vp vh : Value) (hs : List Bool) (w : World) (hl : Laid w) (hp : RRows w vp par) (hh : RBools w vh hs) (hok : okB m n par = true) (hN : hs.length = n + par.length) (hsm : smallB n par = true) :
    Calls Tryd.prog 7 #[vCd nm m n vp dm, vh] w (Ret w (.bool true)) := by
  have V := Vd.of hok hN
  have hn32 := V.n32
  have hn1 := V.n1
  have HP := Lib.hid hp
  have HH := Lib.hid hh
  have HSM := Lib.hid hsm
  have hK1 := V.len_n
  have hK2 := V.len_pres
  have hfull : datTo n hs hs.length = true → (basisL m n par hs).length = n := fun h => V.data_full (datTo_full h (by omega))
  have HBS := Lib.hid fun W h1 h2 h3 => basis_ok nm m n dm par vp vh hs W h1 h2 h3 hok hN
  have HDC := Lib.hid fun W h1 h2 h3 => decod_ok nm m n dm par vp vh hs W h1 h2 h3 hok hN
  obtain ⟨N, hNe⟩ : ∃ N, N = hs.length := ⟨_, rfl⟩
  have hWI : widthI m n par = (N : Int) := by unfold widthI; rw [hok, hNe, hN]; simp
  have HWD := Lib.hid fun W h1 h2 => eraWidth_any nm m n dm par vp W h1 h2 (by omega) (by omega)
  rw [hWI] at HWD
  obtain ⟨K, hK⟩ : ∃ K, K = (basisL m n par hs).length := ⟨_, rfl⟩
  rw [← hK] at HBS HDC hK1 hK2 hfull
  obtain ⟨A, c, rfl, hlen, hvc⟩ := hp.form
  obtain ⟨B, cB, rfl, -, -⟩ := hh
  rw [List.length_map, ← hNe] at HH HBS HDC ⊢
  have hNle : N ≤ 32 := by omega
  have hnN : n ≤ N := by omega
  have hN1 : 1 ≤ N := by omega
  have hP : (presL hs).length = (presTo hs N).length := by rw [hNe]; rfl
  rw [hP] at hK2
  rw [← hNe] at hfull
  have HNE := Lib.hid hNe
  have HFU := Lib.hid hfull
  have hx0 : Ext w (w.alloc (.cells #[.string nm, .int .i64 m, .int .i64 n, .slice A par.length c, .int .i64 dm] 24)) := ext_alloc (ext_refl w) _
  have hc0 := CdAt.new w nm m n dm (.slice A par.length c) 24
  obtain ⟨W0, hW0⟩ : ∃ W0, W0 = w.alloc (.cells #[.string nm, .int .i64 m, .int .i64 n, .slice A par.length c, .int .i64 dm] 24) := ⟨_, rfl⟩
  have HW0 := Lib.hid hW0
  rw [← hW0] at hx0 hc0
  have t1 : ((N : Int) == 0) = false := by simp; omega
  have t2 : ((N : Int) != (N : Int)) = false := by simp
  clear hp hok hN hsm V hNe hWI hK hP hfull hW0
  go_enter Tryd.func7, Tryd.ntmps7
  go_wp2_with fail
  rw [← HW0.out]
  refine (sanity8_any _ (hl.ext hx0)).mono ?_
  rintro e w1 ⟨rfl, hx1⟩
  have hc1 := hc0.ext hx1
  obtain ⟨d0, d1, d2, d3, d4⟩ := hc1
  have hx2 := ext_trans hx0 hx1
  go_wp2_with fail
  refine (HWD.out _ (hl.ext hx2) (HP.out.ext hx2)).mono ?_
  rintro e w2 ⟨rfl, hx3⟩
  have hc2 := (hc0.ext hx1).ext hx3
  obtain ⟨d0, d1, d2, d3, d4⟩ := hc2
  have hx4 := ext_trans hx2 hx3
  go_wp2_with fail
  refine (small_any nm m n dm par _ _ (HP.out.ext hx4)).mono ?_
  rintro e w3 ⟨rfl, hx5⟩
  rw [HSM.out]
  have hc3 := ((hc0.ext hx1).ext hx3).ext hx5
  obtain ⟨d0, d1, d2, d3, d4⟩ := hc3
  have hx6 := ext_trans hx4 hx5
  have HH3 := Lib.hid (RBools.ext HH.out hx6)
  have HP3 := Lib.hid (HP.out.ext hx6)
  have hl3 := hl.ext hx6
  clear hc0 hx0 hx1 hx2 hx3 hx4 hx5
  go_wp2_with fail
  go_loop [7, 8, 9] (fun a b i => ∃ k : Nat, k ≤ N ∧ i = .int .i64 k ∧ a = .bool (datTo n hs k) ∧ b = .int .i64 ((presTo hs k).length : Nat)) (fun _ _ i => N - (intOf i).toNat)
  case atStart => exact ⟨0, Nat.zero_le _, rfl, rfl, rfl⟩
  case round =>
    obtain ⟨k, hk, rfl, rfl, rfl⟩ := hrel
    have hpl := presTo_len hs k
    by_cases hlt : k < N
    · obtain ⟨b, o, hA, hcl⟩ := HH3.out.get k (by rw [← HNE.out]; exact hlt)
      subst hA
      have hkh : k < hs.length := by rw [← HNE.out]; exact hlt
      have hDT := datTo_succ n hs k
      have hPT := presTo_succ hs k
      rw [show hs.getD k false = hs[k] by simp [hkh]] at hDT hPT
      cases hb : hs[k] with
      | true =>
        rw [hb] at hcl hDT hPT
        have HDT : Hid (datTo n hs (k + 1) = datTo n hs k) := by show _ = _; rw [hDT]; simp
        have HPT : Hid ((presTo hs (k + 1)).length = (presTo hs k).length + 1) := by show _ = _; rw [hPT]; simp
        clear hDT hPT hb
        cases hdk : datTo n hs k with
        | true =>
          have HDK := Lib.hid hdk
          clear hdk
          go_wp2_with fail
          go_round
          case rel => exact ⟨k + 1, by omega, by simp, by rw [HDT.out, HDK.out], by rw [HPT.out]; simp⟩
          case measure => simp [intOf]; omega
        | false =>
          have HDK := Lib.hid hdk
          clear hdk
          go_wp2_with fail
          go_round
          case rel => exact ⟨k + 1, by omega, by simp, by rw [HDT.out, HDK.out], by rw [HPT.out]; simp⟩
          case measure => simp [intOf]; omega
      | false =>
        rw [hb] at hcl hDT hPT
        have HPT : Hid ((presTo hs (k + 1)).length = (presTo hs k).length) := by show _ = _; rw [hPT]; simp
        cases hdk : datTo n hs k with
        | true =>
          have HDT : Hid (datTo n hs (k + 1) = decide (n ≤ k)) := by show _ = _; rw [hDT, hdk]; simp
          by_cases hnk : n ≤ k
          · have t3 : decide (n ≤ k) = true := by simpa using hnk
            have HT3 := Lib.hid t3
            clear hDT hPT hb hdk
            go_wp2_with fail
            go_round
            case rel => exact ⟨k + 1, by omega, by simp, by rw [HDT.out, HT3.out], by rw [HPT.out]⟩
            case measure => simp [intOf]; omega
          · have t3 : decide (n ≤ k) = false := by simpa using hnk
            have HT3 := Lib.hid t3
            clear hDT hPT hb hdk
            go_wp2_with fail
            go_round
            case rel => exact ⟨k + 1, by omega, by simp, by rw [HDT.out, HT3.out], by rw [HPT.out]⟩
            case measure => simp [intOf]; omega
        | false =>
          have HDT : Hid (datTo n hs (k + 1) = false) := by show _ = _; rw [hDT, hdk]; simp
          clear hDT hPT hb hdk
          go_wp2_with fail
          go_round
          case rel => exact ⟨k + 1, by omega, by simp, by rw [HDT.out], by rw [HPT.out]⟩
          case measure => simp [intOf]; omega
    · have hkN : N = k := by omega
      subst hkN
      obtain ⟨M, hM⟩ : ∃ M, M = (presTo hs N).length := ⟨_, rfl⟩
      rw [← hM] at hK2 ⊢
      have hM32 : M ≤ 32 := by omega
      have t6 : decide (K ≤ M) = true := by simpa using hK2
      clear hM
      have fin : ∀ D : Bool, D = datTo n hs N → (D = true → K = n) := fun D h1 h2 => HFU.out (by rw [← h1, h2])
      obtain ⟨D, hD⟩ : ∃ D, D = datTo n hs N := ⟨_, rfl⟩
      have HF := Lib.hid (fin D hD)
      rw [← hD]
      clear fin hD
      go_wp2_with fail
      refine (HBS.out _ hl3 HP3.out HH3.out).mono ?_
      rintro e w4 ⟨v', rfl, ho, hx7⟩
      obtain ⟨A2, c2, rfl, -⟩ := own_seg ho (by omega)
      have e0 := ext_cell hx7 d0
      have e1 := ext_cell hx7 d1
      have e2 := ext_cell hx7 d2
      have e3 := ext_cell hx7 d3
      have e4 := ext_cell hx7 d4
      clear ho
      go_wp2_with fail
      refine (HDC.out _ (hl3.ext hx7) (HP3.out.ext hx7) (RBools.ext HH3.out hx7)).mono ?_
      rintro e w5 ⟨rfl, hx8⟩
      have f2 := ext_cell hx8 e2
      have hxe := ext_trans hx6 (ext_trans hx7 hx8)
      by_cases hKn : K = n
      · have t4 : decide (K = n) = true := by simpa using hKn
        have t5 : ((K : Int) == (n : Int)) = true := by rw [beq_iff_eq]; omega
        have t7 : decide (M < n) = false := by simp; omega
        rw [t4]
        clear hKn
        cases D with
        | true =>
          go_wp2_with fail
          go_ret
          exact ⟨rfl, hxe⟩
        | false =>
          go_wp2_with fail
          go_ret
          exact ⟨rfl, hxe⟩
      · have t4 : decide (K = n) = false := by simpa using hKn
        have t5 : ((K : Int) == (n : Int)) = false := by simp; omega
        cases D with
        | true => exact absurd (HF.out rfl) hKn
        | false =>
          rw [t4]
          clear hKn HF
          by_cases hMn : M < n
          · have t7 : decide (M < n) = true := by simpa using hMn
            clear hMn
            go_wp2_with fail
            go_ret
            exact ⟨rfl, hxe⟩
          · have t7 : decide (M < n) = false := by simpa using hMn
            clear hMn
            go_wp2_with fail
            go_ret
            exact ⟨rfl, hxe⟩

theorem lawD_any (nm : ByteArray) (f d dm : Int) (par : List (List Int)) (vp vh : Value) (hs : List Bool) (w : World) (hl : Laid w) (hp : RRows w vp par) (hh : RBools w vh hs) (hd0 : -9223372036854775808 ≤ d) (hd1 : d ≤ 9223372036854775807) :
    Calls Tryd.prog 7 #[vCd nm f d vp dm, vh] w (Ret w (.bool true)) := by
  cases hg : gdB f d par hs with
  | false => exact lawD_out nm f d dm par vp vh hs w hl hp hh hd0 hd1 hg
  | true =>
    unfold gdB at hg
    rw [Bool.and_eq_true] at hg
    obtain ⟨m, n, rfl, rfl, hok, hN⟩ := hvB_facts hg.2
    exact lawD_in nm m n dm par vp vh hs w hl hp hh hok hN hg.1

end Go.Proofs.YtgflflpeilfinaaDoor
