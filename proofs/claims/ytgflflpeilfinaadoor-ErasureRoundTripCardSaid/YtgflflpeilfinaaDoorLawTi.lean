/- The statement ErasureRoundTrip: its walk, where the code and the data are small. -/
import Derived.Test.YtgflflpeilfinaaDoorLawT
set_option linter.unusedVariables false
set_option linter.unusedSimpArgs false
set_option linter.unusedSectionVars false
namespace Go.Proofs.YtgflflpeilfinaaDoor
open Go.RowKit
attribute [local go_sem] OpGives_value OpGives_enter

set_option maxRecDepth 100000 in
set_option maxHeartbeats 4000000 in
theorem lawT_in (nm : ByteArray) (f d dm : Int) (par : List (List Int)) (vp vu : Value) (us : List ByteArray) (vh : Value) (hs : List Bool) (noise : ByteArray) (w : World) (hl : Laid w) (hp : RRows w vp par) (hu : RStrs w vu us) (hsz : ∀ u ∈ us, u.size ≤ lim) (hh : RBools w vh hs) (hd0 : -9223372036854775808 ≤ d) (hd1 : d ≤ 9223372036854775807)
    (hsm : smallB d par = true) (hfw : fewB us = true) (heq : (hs.length : Int) = widthI f d par) (h64 : noise.size ≤ 64) :
    Calls Tryd.prog 10 #[vIn nm f d vp dm vu vh (.string noise)] w (Ret w (.bool true)) := by
  have hd12 : d ≤ 12 ∧ par.length ≤ 8 := by
    unfold smallB at hsm
    simp only [Bool.and_eq_true, decide_eq_true_eq] at hsm
    exact ⟨hsm.1, hsm.2.1⟩
  have hus24 : us.length ≤ 24 := by
    unfold fewB at hfw
    simp only [Bool.and_eq_true, decide_eq_true_eq] at hfw
    exact hfw.1
  have HP := Lib.hid hp
  have HU := Lib.hid hu
  have HH := Lib.hid hh
  have HFW := Lib.hid fun v W h => few_any us v W h hsz
  have HWD := Lib.hid fun W h1 h2 => eraWidth_any nm f d dm par vp W h1 h2 hd0 hd1
  have HSZ := Lib.hid hsz
  cases hen : encB f d par us with
  | false =>
    have HEN := Lib.hid fun W h1 h2 h3 => encode_err nm f d dm par vp vu us W h1 h2 hd0 hd1 h3 hsz hen
    obtain ⟨A, c, rfl, hlen, hvc⟩ := hp.form
    obtain ⟨B, cB, rfl, -, -⟩ := hh
    obtain ⟨D, cD, rfl⟩ := hu.form
    rw [List.length_map] at HH ⊢
    have hx0 : Ext w (w.alloc (.cells #[.string nm, .int .i64 f, .int .i64 d, .slice A par.length c, .int .i64 dm, .slice D us.length cD, .slice B hs.length cB, .string noise] 65)) := ext_alloc (ext_refl w) _
    have hc0 := InAt.new w nm f d dm (.slice A par.length c) (.slice D us.length cD) (.slice B hs.length cB) (.string noise) 65
    obtain ⟨W0, hW0⟩ : ∃ W0, W0 = w.alloc (.cells #[.string nm, .int .i64 f, .int .i64 d, .slice A par.length c, .int .i64 dm, .slice D us.length cD, .slice B hs.length cB, .string noise] 65) := ⟨_, rfl⟩
    have HW0 := Lib.hid hW0
    rw [← hW0] at hx0 hc0
    obtain ⟨N, hN⟩ : ∃ N, N = widthI f d par := ⟨_, rfl⟩
    rw [← hN] at HWD heq
    have HSM := Lib.hid hsm
    have HFF := Lib.hid hfw
    have t1 : ((hs.length : Int) != N) = false := by simpa using heq
    clear hp hu hsz hW0 hN hsm hfw heq hen
    go_enter Tryd.func10, Tryd.ntmps10
    go_wp2_with fail
    rw [← HW0.out]
    refine (sanity8_any _ (hl.ext hx0)).mono ?_
    rintro e w1 ⟨rfl, hx1⟩
    have hx2 := ext_trans hx0 hx1
    have hxc : Ext w1 w1 := ext_refl w1
    have HC1 := Lib.hid (hc0.ext hx1)
    go_wp2_with fail
    refine wp_steady (fun W => Ext w1 W) (by kernel_rfl) (by kernel_rfl) (ext_drew hxc) ?_
    repeat (first
      | (refine wpSt_step (fun K hK => ?_)
         go_simp
         refine hK _ ?_
         clear hK K)
      | (refine wpSt_step (fun K hK => ?_)
         go_simp
         apply Exists.intro
         apply And.intro
         focus
           intro W hW
           obtain ⟨⟨d0, d1, d2, d3, d4⟩, d5, d6, d7⟩ := HC1.out.ext hW
           unfold OpAt
           go_simp
           first
             | rfl
             | (refine (small_any nm f d dm par _ _ (HP.out.ext (ext_trans hx2 hW))).mono ?_
                rintro e w3 ⟨rfl, hx5⟩
                rw [HSM.out]
                exact ⟨rfl, ext_trans hW hx5⟩)
             | (refine (HFW.out _ _ (RStrs.ext HU.out (ext_trans hx2 hW))).mono ?_
                rintro e w3 ⟨rfl, hx5⟩
                rw [HFF.out]
                exact ⟨rfl, ext_trans hW hx5⟩)
             | (refine (HWD.out _ (hl.ext (ext_trans hx2 hW)) (HP.out.ext (ext_trans hx2 hW))).mono ?_
                rintro e w3 ⟨rfl, hx5⟩
                exact ⟨rfl, ext_trans hW hx5⟩)
         refine hK _ ?_
         clear hK K))
    refine wpSt_nil ?_
    intro w3 hx3
    have HC3 := Lib.hid (HC1.out.ext hx3)
    have hx4 := Lib.hid (ext_trans hx2 hx3)
    clear hx0 hx1 hx2 hx3 hxc hc0
    obtain ⟨⟨d0, d1, d2, d3, d4⟩, d5, d6, d7⟩ := HC3.out
    go_wp2_with fail
    refine (HEN.out _ (hl.ext hx4.out) (HP.out.ext hx4.out) (RStrs.ext HU.out hx4.out)).mono ?_
    rintro e w5 ⟨rfl, hx5⟩
    go_wp2_with fail
    go_ret
    exact ⟨rfl, ext_trans hx4.out hx5⟩
  | true =>
    have hok : okB f d par = true := by unfold encB at hen; rw [Bool.and_eq_true] at hen; exact hen.1
    obtain ⟨m, n, rfl, rfl, hm, hn1, hn2, -⟩ := okB_facts hok
    have hWI : widthI m n par = ((n + par.length : Nat) : Int) := by unfold widthI; rw [hok]; simp
    have hN : hs.length = n + par.length := by rw [hWI] at heq; omega
    have V := Vd.of hok hN
    have DD := Dt.of hen
    obtain ⟨sz, hsz0⟩ : ∃ sz, sz = (us[0]?.getD ByteArray.empty).size := ⟨_, rfl⟩
    rw [← hsz0] at DD
    obtain ⟨hun, hval⟩ := trip_facts V DD noise
    obtain ⟨L, hL⟩ : ∃ L, L = encL m par us := ⟨_, rfl⟩
    rw [← hL] at hun hval
    have hLl : L.length = n + par.length := by rw [hL]; exact DD.len_enc
    have hLz : ∀ u ∈ L, u.size ≤ 64 := by
      intro u hu'
      obtain ⟨i, hi, rfl⟩ := List.getElem_of_mem hu'
      have h1 := DD.sz_enc (u := i) (by rw [← hLl]; exact hi)
      rw [← hL] at h1
      have e : L.getD i ByteArray.empty = L[i] := by simp [hi]
      rw [e] at h1
      rw [h1, hsz0]
      unfold fewB at hfw
      simp only [Bool.and_eq_true, decide_eq_true_eq, List.all_eq_true] at hfw
      have h0 : 0 < us.length := by rw [DD.len]; exact DD.n1
      have := hfw.2 us[0] (List.getElem_mem h0)
      rw [List.getElem?_eq_getElem h0]
      exact this
    obtain ⟨U, hU⟩ : ∃ U, U = noisy L hs noise (n + par.length) := ⟨_, rfl⟩
    rw [← hU] at hun hval
    have hUl : U.length = n + par.length := by rw [hU]; simp [noisy]
    have hUz : ∀ u ∈ U, u.size ≤ lim := by
      intro u hu'
      rw [hU] at hu'
      unfold noisy at hu'
      obtain ⟨i, hi, rfl⟩ := List.mem_map.1 hu'
      have hi' : i < L.length := by rw [hLl]; exact List.mem_range.1 hi
      rw [lim_val]
      split
      · have e : L.getD i ByteArray.empty = L[i] := by simp [hi']
        rw [e]
        have := hLz _ (List.getElem_mem hi'); omega
      · omega
    have hfit : fitB m n par U hs = true := by
      unfold fitB
      rw [hok, decide_eq_true (by rw [hUl]; simp), decide_eq_true (by rw [hN]; simp), hun]
      rfl
    have HEN := Lib.hid fun W h1 h2 h3 => encode_ok nm m n dm par vp vu us W h1 h2 h3 hsz hen
    rw [← hL] at HEN
    have HRB : Hid (∀ u, u < n + par.length → ∀ W, Laid W → RRows W vp par → RBools W vh hs → Calls Tryd.prog 29 #[vCd nm m n vp dm, vh, .int .i64 u] W (Ret W (.bool (recB m n par hs u)))) :=
      fun u hu W h1 h2 h3 => recov_ok nm m n dm u par vp vh hs W h1 h2 h3 hok hN (by omega)
    have HRC : Hid (∀ u, u < n + par.length → ∀ vU W, Laid W → RRows W vp par → RStrs W vU U → RBools W vh hs → Calls Tryd.prog 36 #[vCd nm m n vp dm, vU, vh, .int .i64 u] W (RcvPost (recB m n par hs u) (valR m n par U hs u) W)) :=
      fun u hu vU W h1 h2 h3 h4 => recover_ok nm m n dm u par vp vU vh U hs W h1 h2 h3 h4 hUz hfit (by omega)
    have HDC : Hid (∀ vU W, Laid W → RRows W vp par → RStrs W vU U → RBools W vh hs → Calls Tryd.prog 38 #[vCd nm m n vp dm, vU, vh] W (DecPost (allR m n par hs) (valsTo m n par U hs (n + par.length)) W)) :=
      fun vU W h1 h2 h3 h4 => decode_ok nm m n dm par vp vU vh U hs W h1 h2 h3 h4 hUz hfit
    have HDB : Hid (∀ W, Laid W → RRows W vp par → RBools W vh hs → Calls Tryd.prog 30 #[vCd nm m n vp dm, vh] W (Ret W (.bool (allR m n par hs)))) := fun W h1 h2 h3 => by
      have := decod_ok nm m n dm par vp vh hs W h1 h2 h3 hok hN
      have e : allR m n par hs = decide ((basisL m n par hs).length = n) := by
        rw [Bool.eq_iff_iff, decide_eq_true_eq, ← V.rec_all]
        unfold allR
        rw [List.all_eq_true]
        exact ⟨fun h u hu => h u (List.mem_range.2 hu), fun h u hu => h u (List.mem_range.1 hu)⟩
      rwa [← e] at this
    have HVLU := Lib.hid hval
    have HLOST := Lib.hid fun u hu h => lost_pres V (u := u) hu h
    have HVS : Hid (allR m n par hs = true → valsTo m n par U hs (n + par.length) = L) := by
      show _ → _ = _
      intro h
      unfold allR at h
      rw [List.all_eq_true] at h
      apply List.ext_getElem
      · simp [valsTo, hLl]
      · intro i h1 h2
        have hi : i < n + par.length := by rw [← hLl]; exact h2
        simp only [valsTo, List.getElem_map, List.getElem_range]
        rw [hval i hi (h i (List.mem_range.2 hi))]
        simp [h2]
    obtain ⟨A, c, rfl, hlen, hvc⟩ := hp.form
    obtain ⟨B, cB, rfl, -, -⟩ := hh
    obtain ⟨D, cD, rfl⟩ := hu.form
    rw [List.length_map] at HH HRB HRC HDC HDB ⊢
    obtain ⟨N, hNe⟩ : ∃ N, N = n + par.length := ⟨_, rfl⟩
    rw [hWI, ← hNe] at HWD
    rw [← hNe] at HRB HRC HDC HVLU HLOST HVS hn2 hLl hUl
    have HUE : Hid (U = noisy L hs noise N) := by show _ = _; rw [hU, hNe]
    rw [← hNe] at hN
    have HALL : Hid (allR m n par hs = (List.range N).all (recB m n par hs)) := by show _ = _; rw [hNe]; rfl
    have HLN := Lib.hid hLl
    have HHN := Lib.hid hN
    have HLE : Hid (L = encL m par us) := hL
    have hx0 : Ext w (w.alloc (.cells #[.string nm, .int .i64 m, .int .i64 n, .slice A par.length c, .int .i64 dm, .slice D us.length cD, .slice B hs.length cB, .string noise] 65)) := ext_alloc (ext_refl w) _
    have hc0 := InAt.new w nm m n dm (.slice A par.length c) (.slice D us.length cD) (.slice B hs.length cB) (.string noise) 65
    rw [hN] at HH HRB HRC HDC HDB hx0 hc0 ⊢
    obtain ⟨W0, hW0⟩ : ∃ W0, W0 = w.alloc (.cells #[.string nm, .int .i64 m, .int .i64 n, .slice A par.length c, .int .i64 dm, .slice D us.length cD, .slice B N cB, .string noise] 65) := ⟨_, rfl⟩
    have HW0 := Lib.hid hW0
    rw [← hW0] at hx0 hc0
    have HSM := Lib.hid hsm
    have HFF := Lib.hid hfw
    have t1 : ((N : Int) != (N : Int)) = false := by simp
    clear hp hu hsz hW0 hsm hfw heq hen hok hWI V DD hsz0 hun hval hL hLz hU hUz hfit hNe hN hm hUl
    go_enter Tryd.func10, Tryd.ntmps10
    go_wp2_with fail
    rw [← HW0.out]
    refine (sanity8_any _ (hl.ext hx0)).mono ?_
    rintro e w1 ⟨rfl, hx1⟩
    have hx2 := ext_trans hx0 hx1
    have hxc : Ext w1 w1 := ext_refl w1
    have HC1 := Lib.hid (hc0.ext hx1)
    go_wp2_with fail
    refine wp_steady (fun W => Ext w1 W) (by kernel_rfl) (by kernel_rfl) (ext_drew hxc) ?_
    repeat (first
      | (refine wpSt_step (fun K hK => ?_)
         go_simp
         refine hK _ ?_
         clear hK K)
      | (refine wpSt_step (fun K hK => ?_)
         go_simp
         apply Exists.intro
         apply And.intro
         focus
           intro W hW
           obtain ⟨⟨d0, d1, d2, d3, d4⟩, d5, d6, d7⟩ := HC1.out.ext hW
           unfold OpAt
           go_simp
           first
             | rfl
             | (refine (small_any nm m n dm par _ _ (HP.out.ext (ext_trans hx2 hW))).mono ?_
                rintro e w3 ⟨rfl, hx5⟩
                rw [HSM.out]
                exact ⟨rfl, ext_trans hW hx5⟩)
             | (refine (HFW.out _ _ (RStrs.ext HU.out (ext_trans hx2 hW))).mono ?_
                rintro e w3 ⟨rfl, hx5⟩
                rw [HFF.out]
                exact ⟨rfl, ext_trans hW hx5⟩)
             | (refine (HWD.out _ (hl.ext (ext_trans hx2 hW)) (HP.out.ext (ext_trans hx2 hW))).mono ?_
                rintro e w3 ⟨rfl, hx5⟩
                exact ⟨rfl, ext_trans hW hx5⟩)
         refine hK _ ?_
         clear hK K))
    refine wpSt_nil ?_
    intro w3 hx3
    have HC3 := Lib.hid (HC1.out.ext hx3)
    have hx4 := Lib.hid (ext_trans hx2 hx3)
    clear hx0 hx1 hx2 hx3 hxc hc0
    obtain ⟨⟨d0, d1, d2, d3, d4⟩, d5, d6, d7⟩ := HC3.out
    go_wp2_with fail
    refine (HEN.out _ (hl.ext hx4.out) (HP.out.ext hx4.out) (RStrs.ext HU.out hx4.out)).mono ?_
    rintro e w5 ⟨vL, rfl, hoL, hx5⟩
    have HVL := Lib.hid (own_strs' hoL (by rw [HLN.out, lim_val]; omega))
    obtain ⟨AL1, cL, rfl⟩ := HVL.out.form
    rw [HLN.out] at HVL ⊢
    have HC5 := Lib.hid (HC3.out.ext hx5)
    have hx6 := Lib.hid (ext_trans hx4.out hx5)
    clear hoL d0 d1 d2 d3 d4 d5 d6 d7 hx5
    go_wp2_with fail
    go_loopw [6, 7] (fun v iv wr => ∃ k : Nat, k ≤ N ∧ iv = .int .i64 k ∧ Hid (wr.ownsRow w5.heap.size 9 1 v k ((noisy L hs noise k).map .string)) ∧ Ext w5 wr) (fun _ iv _ => N - (intOf iv).toNat)
    case atStart => exact ⟨0, Nat.zero_le _, rfl, own_nil' _ _ _ _, ext_refl _⟩
    case round =>
      obtain ⟨k, hk, rfl, ho, hx⟩ := hrel
      by_cases hlt : k < N
      · have hkh : k < hs.length := by rw [HHN.out]; exact hlt
        have hkL : k < L.length := by rw [HLN.out]; exact hlt
        obtain ⟨bh, oh, hB, hcl⟩ := (RBools.ext HH.out (ext_trans hx6.out hx)).get k hkh
        obtain ⟨bl, ol, hA, hcL⟩ := (RStrs.ext HVL.out hx).get k hkL
        subst hB hA
        obtain ⟨⟨d0, d1, d2, d3, d4⟩, d5, d6, d7⟩ := HC5.out.ext hx
        have hns := noisy_succ L hs noise k
        rw [show hs.getD k false = hs[k] by simp [hkh], show L.getD k ByteArray.empty = L[k] by simp [hkL]] at hns
        have hsz := hx.size
        have i1 : (0 : Int) ≤ (k : Int) := by omega
        have i2 : (k : Int) < (N : Int) := by omega
        obtain ⟨y, hy⟩ : ∃ y, y = L[k] := ⟨_, rfl⟩
        rw [← hy] at hcL hns
        cases hb : hs[k] with
        | false =>
          rw [hb] at hcl hns
          have HNS : Hid (noisy L hs noise (k + 1) = noisy L hs noise k ++ [noise]) := hns
          have HO1 := Lib.hid (ho.out.alloc (.cells #[.string noise] 9))
          clear hns hb hy
          go_wp2_with (at_builtin; refine wpList_app rfl _ _ 25 rfl w5.heap.size 9 _ 1 16 Tryd.underlying25 info_str rfl (by omega) _ k _ rfl HO1.out _ 1 1 [.string noise] rfl (by simp) (seg_new _ _ _) (by simp [Value.oneCell']) (by simp only [maxLen]; omega) (by omega) (by simp; omega) ?_; intro v7 w7 ho7 hg7 hat7)
          have HO7 : Hid (w7.ownsRow w5.heap.size 9 1 v7 (k + 1) ((noisy L hs noise (k + 1)).map .string)) := by
            show World.ownsRow _ _ _ _ _ _ _
            rw [HNS.out, List.map_append]
            exact ho7
          have hx7 : Ext w5 w7 := ext_grown (ext_alloc hx _) hg7 (fun i hi => own_base' HO1.out i hi)
          clear ho7 hg7 hat7
          go_wp2_with fail
          go_roundw
          case rel => exact ⟨k + 1, by omega, by simp, HO7, hx7⟩
          case measure => simp [intOf]; omega
        | true =>
          rw [hb] at hcl hns
          have HNS : Hid (noisy L hs noise (k + 1) = noisy L hs noise k ++ [y]) := hns
          have HO1 := Lib.hid (ho.out.alloc (.cells #[.string y] 9))
          clear hns hb hy
          go_wp2_with (at_builtin; refine wpList_app rfl _ _ 25 rfl w5.heap.size 9 _ 1 16 Tryd.underlying25 info_str rfl (by omega) _ k _ rfl HO1.out _ 1 1 [.string y] rfl (by simp) (seg_new _ _ _) (by simp [Value.oneCell']) (by simp only [maxLen]; omega) (by omega) (by simp; omega) ?_; intro v7 w7 ho7 hg7 hat7)
          have HO7 : Hid (w7.ownsRow w5.heap.size 9 1 v7 (k + 1) ((noisy L hs noise (k + 1)).map .string)) := by
            show World.ownsRow _ _ _ _ _ _ _
            rw [HNS.out, List.map_append]
            exact ho7
          have hx7 : Ext w5 w7 := ext_grown (ext_alloc hx _) hg7 (fun i hi => own_base' HO1.out i hi)
          clear ho7 hg7 hat7
          go_wp2_with fail
          go_roundw
          case rel => exact ⟨k + 1, by omega, by simp, HO7, hx7⟩
          case measure => simp [intOf]; omega
      · obtain rfl : k = N := by omega
        have HVU : Hid (RStrs wr u6 U) := by rw [HUE.out]; exact own_strs' ho.out (by rw [lim_val]; omega)
        have HCW := Lib.hid (HC5.out.ext hx)
        have hxW := Lib.hid (ext_trans hx6.out hx)
        have HLW := Lib.hid (RStrs.ext HVL.out hx)
        obtain ⟨bU, cU, hUe⟩ := HVU.out.form
        subst hUe
        obtain ⟨W6, hW6⟩ : ∃ W6, W6 = wr := ⟨_, rfl⟩
        have HW6 := Lib.hid hW6
        clear ho hx
        go_wp2_with fail
        rw [← HW6.out] at HVU HCW hxW HLW ⊢
        clear hW6
        go_loopw [9, 10] (fun av iv wr => ∃ i : Nat, i ≤ k ∧ iv = .int .i64 i ∧ av = .bool ((List.range i).all (recB m n par hs)) ∧ Ext W6 wr) (fun _ iv _ => k - (intOf iv).toNat)
        case atStart => exact ⟨0, Nat.zero_le _, rfl, rfl, ext_refl _⟩
        case round =>
          obtain ⟨i, hi, rfl, rfl, hx⟩ := hrel
          by_cases hik : i < k
          · have hih : i < hs.length := by rw [HHN.out]; exact hik
            have hiL : i < L.length := by rw [HLN.out]; exact hik
            have hxw := Lib.hid (ext_trans hxW.out hx)
            obtain ⟨⟨d0, d1, d2, d3, d4⟩, d5, d6, d7⟩ := HCW.out.ext hx
            have hR := fun W h1 h2 h3 => HRB.out i hik W h1 h2 h3
            have hC := fun vU W h1 h2 h3 h4 => HRC.out i hik vU W h1 h2 h3 h4
            have hall : (List.range (i + 1)).all (recB m n par hs) = ((List.range i).all (recB m n par hs) && recB m n par hs i) := by
              rw [List.range_succ, List.all_append]; simp
            obtain ⟨q, hq⟩ : ∃ q, q = (List.range i).all (recB m n par hs) := ⟨_, rfl⟩
            obtain ⟨z, hz⟩ : ∃ z, z = recB m n par hs i := ⟨_, rfl⟩
            obtain ⟨val, hvl⟩ : ∃ v, v = valR m n par U hs i := ⟨_, rfl⟩
            have hv1 := HVLU.out i hik
            have hv2 := HLOST.out i hik
            rw [← hz, ← hvl] at hv1
            rw [← hz] at hv2
            rw [← hz] at hR
            rw [← hz, ← hvl] at hC
            rw [← hq, ← hz] at hall
            rw [← hq]
            have HR := Lib.hid hR
            have HC := Lib.hid hC
            have HALLI := Lib.hid hall
            have HV1 := Lib.hid hv1
            have HV2 := Lib.hid hv2
            clear hR hC hall hv1 hv2 hq hz hvl
            go_wp2_with fail
            refine (HR.out _ (hl.ext hxw.out) (HP.out.ext hxw.out) (RBools.ext HH.out hxw.out)).mono ?_
            rintro e w7 ⟨rfl, hx7⟩
            have hxw7 := Lib.hid (ext_trans hxw.out hx7)
            have hx8 := Lib.hid (ext_trans hx hx7)
            clear d0 d1 d2 d3 d4 d5 d6 d7 hx hx7 hxw
            obtain ⟨⟨d0, d1, d2, d3, d4⟩, d5, d6, d7⟩ := HCW.out.ext hx8.out
            cases q <;> cases z
            all_goals
              go_wp2_with fail
              refine (HC.out _ _ (hl.ext hxw7.out) (HP.out.ext hxw7.out) (RStrs.ext HVU.out hx8.out) (RBools.ext HH.out hxw7.out)).mono ?_
              rintro e w9 ⟨he, hx9⟩
              have hx10 := Lib.hid (ext_trans hx8.out hx9)
              have hxw9 := Lib.hid (ext_trans hxw7.out hx9)
              clear d0 d1 d2 d3 d4 d5 d6 d7 hx9
            all_goals
              obtain ⟨bh, oh, hB, hcl⟩ := (RBools.ext HH.out hxw9.out).get i hih
              obtain ⟨bl, ol, hA, hcL⟩ := (RStrs.ext HLW.out hx10.out).get i hiL
              subst hB hA
              obtain ⟨⟨d0, d1, d2, d3, d4⟩, d5, d6, d7⟩ := HCW.out.ext hx10.out
              have i1 : (0 : Int) ≤ (i : Int) := by omega
              have i2 : (i : Int) < (k : Int) := by omega
            · obtain rfl : e = .returned (.tuple #[.string ⟨#[]⟩, .int .i64 11]) := he
              have hb := HV2.out (by first | rfl | trivial)
              rw [show hs.getD i false = hs[i] by simp [hih]] at hb
              rw [hb] at hcl
              have HAN := Lib.hid HALLI.out.symm
              clear hb
              go_wp2_with fail
              go_roundw
              case rel => exact ⟨i + 1, by omega, by simp, by rw [← HAN.out]; rfl, hx10.out⟩
              case measure => simp [intOf]; omega
            · have hb := HV1.out (by first | rfl | trivial)
              rw [show L.getD i ByteArray.empty = L[i] by simp [hiL]] at hb
              rw [← hb] at hcL
              obtain rfl : e = .returned (.tuple #[.string val, .int .i64 0]) := he
              have HAN := Lib.hid HALLI.out.symm
              clear hb
              go_wp2_with fail
              go_roundw
              case rel => exact ⟨i + 1, by omega, by simp, by rw [← HAN.out]; rfl, hx10.out⟩
              case measure => simp [intOf]; omega
            · obtain rfl : e = .returned (.tuple #[.string ⟨#[]⟩, .int .i64 11]) := he
              have hb := HV2.out (by first | rfl | trivial)
              rw [show hs.getD i false = hs[i] by simp [hih]] at hb
              rw [hb] at hcl
              have HAN := Lib.hid HALLI.out.symm
              clear hb
              go_wp2_with fail
              go_roundw
              case rel => exact ⟨i + 1, by omega, by simp, by rw [← HAN.out]; rfl, hx10.out⟩
              case measure => simp [intOf]; omega
            · have hb := HV1.out (by first | rfl | trivial)
              rw [show L.getD i ByteArray.empty = L[i] by simp [hiL]] at hb
              rw [← hb] at hcL
              obtain rfl : e = .returned (.tuple #[.string val, .int .i64 0]) := he
              have HAN := Lib.hid HALLI.out.symm
              clear hb
              go_wp2_with fail
              go_roundw
              case rel => exact ⟨i + 1, by omega, by simp, by rw [← HAN.out]; rfl, hx10.out⟩
              case measure => simp [intOf]; omega
          · obtain rfl : i = k := by omega
            have hxw := Lib.hid (ext_trans hxW.out hx)
            obtain ⟨⟨d0, d1, d2, d3, d4⟩, d5, d6, d7⟩ := HCW.out.ext hx
            rw [← HALL.out]
            have hDC := HDC.out
            have hDB := HDB.out
            have hVS := HVS.out
            obtain ⟨z, hz⟩ : ∃ z, z = allR m n par hs := ⟨_, rfl⟩
            rw [← hz] at hDC hDB hVS ⊢
            have HDC' := Lib.hid hDC
            have HDB' := Lib.hid hDB
            have HVS' := Lib.hid hVS
            have HST : Hid (∀ v u W, RStrs W v L → RStrs W u L → Calls Tryd.prog 23 #[v, u] W (Ret W (.bool true))) := fun v u W h1 h2 => by
              have := same_texts L L v u W h1 h2
              rwa [decide_eq_true rfl] at this
            have hx1' := Lib.hid hx
            clear hz hDC hDB hVS hx
            cases z with
            | false =>
              go_wp2_with fail
              refine (HDC'.out _ _ (hl.ext hxw.out) (HP.out.ext hxw.out) (RStrs.ext HVU.out hx1'.out) (RBools.ext HH.out hxw.out)).mono ?_
              rintro e w7 ⟨-, hno, hx7⟩
              obtain rfl := hno (by first | rfl | trivial)
              have hxw7 := Lib.hid (ext_trans hxw.out hx7)
              have HC7 := Lib.hid ((HCW.out.ext hx1'.out).ext hx7)
              clear d0 d1 d2 d3 d4 d5 d6 d7 hx7 hno
              obtain ⟨⟨d0, d1, d2, d3, d4⟩, d5, d6, d7⟩ := HC7.out
              go_wp2_with fail
              refine (HDB'.out _ (hl.ext hxw7.out) (HP.out.ext hxw7.out) (RBools.ext HH.out hxw7.out)).mono ?_
              rintro e w8 ⟨rfl, hx8⟩
              go_wp2_with fail
              go_ret
              exact ⟨rfl, ext_trans hxw7.out hx8⟩
            | true =>
              go_wp2_with fail
              refine (HDC'.out _ _ (hl.ext hxw.out) (HP.out.ext hxw.out) (RStrs.ext HVU.out hx1'.out) (RBools.ext HH.out hxw.out)).mono ?_
              rintro e w7 ⟨hyes, -, hx7⟩
              obtain ⟨vd, rfl, hvd⟩ := hyes (by first | rfl | trivial)
              rw [HVS'.out (by first | rfl | trivial)] at hvd
              have HVD := Lib.hid hvd
              obtain ⟨bd, cd, rfl⟩ := hvd.form
              rw [HLN.out] at HVD ⊢
              have hxw7 := Lib.hid (ext_trans hxw.out hx7)
              have HC7 := Lib.hid ((HCW.out.ext hx1'.out).ext hx7)
              have HL7 := Lib.hid (RStrs.ext (RStrs.ext HLW.out hx1'.out) hx7)
              clear d0 d1 d2 d3 d4 d5 d6 d7 hx7 hyes hvd
              obtain ⟨⟨d0, d1, d2, d3, d4⟩, d5, d6, d7⟩ := HC7.out
              go_wp2_with fail
              refine (HDB'.out _ (hl.ext hxw7.out) (HP.out.ext hxw7.out) (RBools.ext HH.out hxw7.out)).mono ?_
              rintro e w8 ⟨rfl, hx8⟩
              have hxw8 := Lib.hid (ext_trans hxw7.out hx8)
              clear d0 d1 d2 d3 d4 d5 d6 d7
              go_wp2_with fail
              refine (HST.out _ _ _ (RStrs.ext HVD.out hx8) (RStrs.ext HL7.out hx8)).mono ?_
              rintro e w9 ⟨rfl, hx9⟩
              go_wp2_with fail
              go_ret
              exact ⟨rfl, ext_trans hxw8.out hx9⟩

theorem lawT_any (nm : ByteArray) (f d dm : Int) (par : List (List Int)) (vp vu : Value) (us : List ByteArray) (vh : Value) (hs : List Bool) (noise : ByteArray) (w : World) (hl : Laid w) (hp : RRows w vp par) (hu : RStrs w vu us) (hsz : ∀ u ∈ us, u.size ≤ lim) (hh : RBools w vh hs) (hd0 : -9223372036854775808 ≤ d) (hd1 : d ≤ 9223372036854775807) :
    Calls Tryd.prog 10 #[vIn nm f d vp dm vu vh (.string noise)] w (Ret w (.bool true)) := by
  cases h1 : smallB d par with
  | false => exact lawT_out nm f d dm par vp vu us vh hs noise w hl hp hu hsz hh hd0 hd1 (.inl h1)
  | true =>
    cases h2 : fewB us with
    | false => exact lawT_out nm f d dm par vp vu us vh hs noise w hl hp hu hsz hh hd0 hd1 (.inr (.inl ⟨h1, h2⟩))
    | true =>
      by_cases h3 : (hs.length : Int) = widthI f d par
      · rcases Nat.lt_or_ge 64 noise.size with h4 | h4
        · exact lawT_out nm f d dm par vp vu us vh hs noise w hl hp hu hsz hh hd0 hd1 (.inr (.inr (.inr ⟨h1, h2, h3, h4⟩)))
        · exact lawT_in nm f d dm par vp vu us vh hs noise w hl hp hu hsz hh hd0 hd1 h1 h2 h3 h4
      · exact lawT_out nm f d dm par vp vu us vh hs noise w hl hp hu hsz hh hd0 hd1 (.inr (.inr (.inl ⟨h1, h2, h3⟩)))

end Go.Proofs.YtgflflpeilfinaaDoor
