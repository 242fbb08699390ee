/- The walks of the reference of layer 8: Recover, Decode. -/
import Derived.Test.YtgflflpeilfinaaDoorR8h
set_option linter.unusedVariables false
set_option linter.unusedSimpArgs false
set_option linter.unusedSectionVars false
namespace Go.Proofs.YtgflflpeilfinaaDoor
open Go.RowKit

set_option maxHeartbeats 1000000 in
theorem r8recover_arg (nm : ByteArray) (f d dm unit : Int) (par : List (List Int)) (vp vu vh : Value) (us : List ByteArray) (hs : List Bool) (w : World) (hp : RRows w vp par) (hu : RStrs w vu us) (hh : RBools w vh hs) (hsz : ∀ u ∈ us, u.size ≤ lim) (hd1 : d ≤ 12) (hb : fitB f d par us hs = false) :
    Calls Tryd.prog 37 #[vCd nm f d vp dm, vu, vh, .int .i64 unit] w (Ret w (.tuple #[.string ⟨#[]⟩, .int .i64 1])) := by
  have HF := Lib.hid fun W h2 h3 h4 => r8fit_any nm f d dm par vp vu vh us hs W h2 h3 h4 hsz hd1
  rw [hb] at HF
  have HP := Lib.hid hp
  have HU := Lib.hid hu
  have HH := Lib.hid hh
  obtain ⟨A, c, rfl, hlen, hvc⟩ := hp.form
  have hx0 : Ext w (w.alloc (.cells #[.string nm, .int .i64 f, .int .i64 d, .slice A par.length c, .int .i64 dm] 24)) := ext_alloc (ext_refl w) _
  clear hp hu hh hsz hb
  go_enter Tryd.func37, Tryd.ntmps37
  go_wp2_with fail
  refine (HF.out _ (HP.out.ext hx0) (RStrs.ext HU.out hx0) (RBools.ext HH.out hx0)).mono ?_
  rintro e w1 ⟨rfl, hx1⟩
  go_wp2_with fail
  go_ret2
  exact ⟨rfl, ext_trans hx0 hx1⟩
set_option maxHeartbeats 1000000 in
theorem r8recover_out (nm : ByteArray) (f d dm unit : Int) (par : List (List Int)) (vp vu vh : Value) (us : List ByteArray) (hs : List Bool) (w : World) (hp : RRows w vp par) (hu : RStrs w vu us) (hh : RBools w vh hs) (hsz : ∀ u ∈ us, u.size ≤ lim) (hd1 : d ≤ 12) (hb : fitB f d par us hs = true)
    (hout : unit < 0 ∨ (hs.length : Int) ≤ unit) :
    Calls Tryd.prog 37 #[vCd nm f d vp dm, vu, vh, .int .i64 unit] w (Ret w (.tuple #[.string ⟨#[]⟩, .int .i64 1])) := by
  have HF := Lib.hid fun W h2 h3 h4 => r8fit_any nm f d dm par vp vu vh us hs W h2 h3 h4 hsz hd1
  rw [hb] at HF
  obtain ⟨m, n, rfl, rfl, hok, h1, h2, h3⟩ := fitB_facts hb
  have HC : Hid (∀ W, RRows W vp par → RBools W vh hs → Calls Tryd.prog 32 #[vCd nm m n vp dm, vh, .int .i64 unit] W (Ret W (.tuple #[.slice none 0 0, .int .i64 1]))) := fun W g1 g2 =>
    r8comb_err nm m n dm unit par vp vh W g1 fun W' hx => r8coef_out nm m n dm unit par vp vh hs W' (g1.ext hx) (RBools.ext g2 hx) (by omega) hok h2 hout
  have HP := Lib.hid hp
  have HU := Lib.hid hu
  have HH := Lib.hid hh
  obtain ⟨A, c, rfl, hlen, hvc⟩ := hp.form
  have hx0 : Ext w (w.alloc (.cells #[.string nm, .int .i64 m, .int .i64 n, .slice A par.length c, .int .i64 dm] 24)) := ext_alloc (ext_refl w) _
  have hc0 := CdAt.new w nm m n dm (.slice A par.length c) 24
  clear hp hu hh hsz hb hok h1 h2 h3 hout
  go_enter Tryd.func37, Tryd.ntmps37
  go_wp2_with fail
  refine (HF.out _ (HP.out.ext hx0) (RStrs.ext HU.out hx0) (RBools.ext HH.out hx0)).mono ?_
  rintro e w1 ⟨rfl, hx1⟩
  have hx2 := ext_trans hx0 hx1
  obtain ⟨d0, d1, d2, d3, d4⟩ := hc0.ext hx1
  go_wp2_with fail
  refine (HC.out _ (HP.out.ext hx2) (RBools.ext HH.out hx2)).mono ?_
  rintro e w2 ⟨rfl, hx3⟩
  go_wp2_with fail
  go_ret2
  exact ⟨rfl, ext_trans hx2 hx3⟩

set_option maxRecDepth 100000 in
set_option maxHeartbeats 4000000 in
theorem r8recover_ok (nm : ByteArray) (m n : Nat) (dm : Int) (u : Nat) (par : List (List Int)) (vp vu vh : Value) (us : List ByteArray) (hs : List Bool) (w : World) (hp : RRows w vp par) (hu : RStrs w vu us) (hh : RBools w vh hs) (hsz : ∀ u ∈ us, u.size ≤ lim) (hd1 : n ≤ 12) (hb : fitB m n par us hs = true) (hul : u < hs.length) :
    Calls Tryd.prog 37 #[vCd nm m n vp dm, vu, vh, .int .i64 u] w (RcvPost (recB m n par hs u) (valR m n par us hs u) w) := by
  obtain ⟨m', n', em, en, hok, h1, h2, h3⟩ := fitB_facts hb
  obtain rfl : m = m' := by omega
  obtain rfl : n = n' := by omega
  have V := Vd.of hok h2
  have hn32 := V.n32
  have HF := Lib.hid fun W h2 h3 h4 => r8fit_any nm m n dm par vp vu vh us hs W h2 h3 h4 hsz (by omega)
  rw [hb] at HF
  have HC := Lib.hid fun W h2' h3 => r8comb_ok nm m n dm u par vp vh hs W h2' h3 hd1 hok h2 hul
  have HSU : Hid (recB m n par hs u = true → ∀ vc vs W, RInts W vc ((coefs (cmbT m n par hs u)).map fun (c : Nat) => (c : Int)) → RStrs W vs (picks us (cmbT m n par hs u)) → Calls Tryd.prog 44 #[.int .i64 m, vc, vs] W (Ret W (.tuple #[.string (valR m n par us hs u), .int .i64 0]))) := by
    show _ → ∀ vc vs W, _ → _ → _
    intro hr vc vs W g1 g2
    have hsz' := V.sz h1 hsz h3 (by omega) hr
    have hok' := V.tmOk h1 h3 (u := u) (by omega)
    have hne := V.tm_ne (u := u) (by omega) hr
    exact r5combine_ok m V.hm (coefs (cmbT m n par hs u)) (picks us (cmbT m n par hs u)) (szU us hs) (fun c hc => by
      obtain ⟨t, ht, rfl⟩ := List.mem_map.1 hc
      obtain ⟨u, c, rfl, _, h, _⟩ := hok' t ht
      simpa using h) (by unfold coefs; simpa using hne) (by simp [coefs, picks]) (fun u hu => by
      obtain ⟨t, ht, rfl⟩ := List.mem_map.1 hu
      obtain ⟨u, c, rfl, _, _, h⟩ := hok' t ht
      simpa using h) hsz'.1 hsz'.2 vc vs W g1 g2
  have HOK := Lib.hid (V.tmOk h1 h3 (u := u) (by omega))
  have HTL := Lib.hid (V.tm_len (u := u))
  have HP := Lib.hid hp
  have HU := Lib.hid hu
  have HH := Lib.hid hh
  obtain ⟨A, c, rfl, hlen, hvc⟩ := hp.form
  obtain ⟨B, cB, rfl⟩ := hu.form
  obtain ⟨N, hNe⟩ : ∃ N, N = us.length := ⟨_, rfl⟩
  have HN := Lib.hid hNe
  have hN32 : N ≤ 32 := by omega
  rw [← hNe] at HU HF ⊢
  have hx0 : Ext w (w.alloc (.cells #[.string nm, .int .i64 m, .int .i64 n, .slice A par.length c, .int .i64 dm] 24)) := ext_alloc (ext_refl w) _
  have hc0 := CdAt.new w nm m n dm (.slice A par.length c) 24
  obtain ⟨z, hz⟩ : ∃ z, z = recB m n par hs u := ⟨_, rfl⟩
  obtain ⟨L, hL⟩ : ∃ L, L = cmbT m n par hs u := ⟨_, rfl⟩
  obtain ⟨val, hval⟩ : ∃ v, v = valR m n par us hs u := ⟨_, rfl⟩
  rw [← hz, ← hL] at HC
  rw [← hz, ← hL, ← hval] at HSU
  rw [← hL] at HOK HTL
  rw [← hz, ← hval]
  clear hp hu hh hsz hb hok h1 h2 h3 V em en hul hz hL hval hNe
  go_enter Tryd.func37, Tryd.ntmps37
  go_wp2_with fail
  refine (HF.out _ (HP.out.ext hx0) (RStrs.ext HU.out hx0) (RBools.ext HH.out hx0)).mono ?_
  rintro e w1 ⟨rfl, hx1⟩
  have hx2 := ext_trans hx0 hx1
  obtain ⟨d0, d1, d2, d3, d4⟩ := hc0.ext hx1
  go_wp2_with fail
  refine (HC.out _ (HP.out.ext hx2) (RBools.ext HH.out hx2)).mono ?_
  rintro e w2 hpost
  have hx4 := Lib.hid (ext_trans hx2 hpost.2.2)
  have HC2 := Lib.hid ((hc0.ext hx1).ext hpost.2.2)
  clear d0 d1 d2 d3 d4
  cases z with
  | false =>
    obtain rfl := hpost.2.1 rfl
    clear hpost hx0 hx1 hx2 hc0
    go_wp2_with fail
    go_ret2
    exact ⟨rfl, hx4.out⟩
  | true =>
    obtain ⟨v', rfl, ho⟩ := hpost.1 rfl
    have hT := own_tm ho (by have := HTL.out; rw [lim_val]; omega)
    have HT := Lib.hid hT
    obtain ⟨D, cD, rfl, -, -⟩ := hT
    have HU2 := Lib.hid (RStrs.ext HU.out hx4.out)
    have hL32 : L.length ≤ 32 := HTL.out
    clear hpost ho hx0 hx1 hx2 hc0
    go_wp2_with fail
    go_loopw [13, 14, 15] (fun cv sv iv wr => ∃ k : Nat, k ≤ L.length ∧ iv = .int .i64 k ∧ Hid (wr.ownsRow w2.heap.size 3 1 cv k (nvs (coefs (L.take k)))) ∧ Hid (wr.ownsRow w2.heap.size 9 1 sv k ((picks us (L.take k)).map .string)) ∧ Ext w2 wr) (fun _ _ iv _ => L.length - (intOf iv).toNat)
    case atStart => exact ⟨0, Nat.zero_le _, rfl, own_nil' _ _ _ _, own_nil' _ _ _ _, ext_refl _⟩
    case round =>
      obtain ⟨k, hk, rfl, ho1, ho2, hx⟩ := hrel
      by_cases hlt : k < L.length
      · obtain ⟨bl, ol, hA, hl1, hl2⟩ := HT.out.get k hlt
        subst hA
        obtain ⟨y, cc, ht, hyu, hcc, -⟩ := HOK.out _ (List.getElem_mem hlt)
        obtain ⟨bu, ou, hB, hcu⟩ := HU2.out.get y hyu
        subst hB
        obtain ⟨x, hxe⟩ : ∃ x, x = us[y] := ⟨_, rfl⟩
        rw [← hxe] at hcu
        rw [ht] at hl1 hl2
        have q1 : w2.cell? ⟨bl, ol + k * 2, none⟩ = some (.int .i64 (y : Int)) := hl1
        have hl2 := ext_cell hx hl2
        have hyN : y < N := by rw [HN.out]; exact hyu
        have hT1 : Hid (nvs (coefs (L.take (k + 1))) = nvs (coefs (L.take k)) ++ [.int .i64 (cc : Int)]) := by
          show _ = _
          rw [List.take_succ_eq_append_getElem hlt, ht]
          simp [coefs, nvs, nints, ivs]
        have hT2 : Hid ((picks us (L.take (k + 1))).map Value.string = (picks us (L.take k)).map Value.string ++ [.string x]) := by
          show _ = _
          rw [List.take_succ_eq_append_getElem hlt, ht, hxe]
          simp [picks, hyu]
        have hsz := hx.size
        have HO1 := Lib.hid (ho1.out.alloc (.cells #[.int .i64 (cc : Int)] 3))
        have HO2 := Lib.hid ho2.out
        have i1 : (0 : Int) ≤ (k : Int) := by omega
        have i2 : (k : Int) < (L.length : Int) := by omega
        have i3 : (0 : Int) ≤ (y : Int) := by omega
        have i4 : (y : Int) < (N : Int) := by omega
        clear hxe ht
        go_upto_region 13 with (at_builtin; refine wpList_app rfl _ _ 29 rfl w2.heap.size 3 _ 1 8 Tryd.underlying29 info_int rfl (by omega) _ k _ rfl HO1.out _ 1 1 [.int .i64 (cc : Int)] rfl (by simp) (seg_new _ _ _) (by simp [Value.oneCell']) (by simp only [maxLen]; omega) (by omega) (by simp; omega) ?_; intro v7 w7 ho7 hg7 hat7)
        have HO2a := Lib.hid (own_keep (own_ext HO2.out (ext_alloc (ext_refl wr) (.cells #[.int .i64 (cc : Int)] 3))) hg7 (own_types (own_ext HO2.out (ext_alloc (ext_refl wr) (.cells #[.int .i64 (cc : Int)] 3))) HO1.out (by decide)))
        have hx7 : Ext w2 w7 := ext_grown (ext_alloc hx _) hg7 (fun i hi => own_base' HO1.out i hi)
        have HO7 : Hid (w7.ownsRow w2.heap.size 3 1 v7 (k + 1) (nvs (coefs (L.take (k + 1))))) := by
          show World.ownsRow _ _ _ _ _ _ _
          rw [hT1.out]; exact ho7
        have hsz7 := hx7.size
        have p1 := ext_cell hx7 q1
        have p2 := ext_cell hx7 hcu
        have HO3 := Lib.hid (HO2a.out.alloc (.cells #[.string x] 9))
        clear ho7 hg7 hat7 hl1 hl2
        go_wp2_with (at_builtin; refine wpList_app rfl _ _ 25 rfl w2.heap.size 9 _ 1 16 Tryd.underlying25 info_str rfl (by omega) _ k _ rfl HO3.out _ 1 1 [.string x] rfl (by simp) (seg_new _ _ _) (by simp [Value.oneCell']) (by simp only [maxLen]; omega) (by omega) (by simp; omega) ?_; intro v9 w9 ho9 hg9 hat9)
        have HO9a := Lib.hid (own_keep (own_ext HO7.out (ext_alloc (ext_refl w7) (.cells #[.string x] 9))) hg9 (own_types (own_ext HO7.out (ext_alloc (ext_refl w7) (.cells #[.string x] 9))) HO3.out (by decide)))
        have hx9 : Ext w2 w9 := ext_grown (ext_alloc hx7 _) hg9 (fun i hi => own_base' HO3.out i hi)
        have HO9 : Hid (w9.ownsRow w2.heap.size 9 1 v9 (k + 1) ((picks us (L.take (k + 1))).map .string)) := by
          show World.ownsRow _ _ _ _ _ _ _
          rw [hT2.out]; exact ho9
        clear ho9 hg9 hat9
        go_wp2_with fail
        go_roundw
        case rel => exact ⟨k + 1, by omega, by simp, HO9a.out, HO9.out, hx9⟩
        case measure => simp [intOf]; omega
      · have hkL : k = L.length := by omega
        have HV1 : Hid (RInts wr u13 ((coefs L).map fun (c : Nat) => (c : Int))) := by
          have := ho1.out
          rw [hkL, List.take_length] at this
          exact own_ints this (by unfold coefs; rw [List.length_map, lim_val]; omega)
        have HV2 : Hid (RStrs wr u14 (picks us L)) := by
          have := ho2.out
          rw [hkL, List.take_length] at this
          refine own_sl this ?_
          unfold picks
          rw [List.length_map, List.length_map, lim_val]; omega
        obtain ⟨d0, d1, d2, d3, d4⟩ := HC2.out.ext hx
        have HS2 := Lib.hid (HSU.out (by first | rfl | trivial) u13 u14 wr HV1.out HV2.out)
        clear hkL ho1 ho2
        go_wp2_with fail
        refine HS2.out.mono ?_
        rintro e w5 ⟨rfl, hx5⟩
        go_wp2_with fail
        go_ret2
        exact ⟨rfl, ext_trans hx4.out (ext_trans hx hx5)⟩

set_option maxHeartbeats 1000000 in
theorem r8decode_arg (nm : ByteArray) (f d dm : Int) (par : List (List Int)) (vp vu vh : Value) (us : List ByteArray) (hs : List Bool) (w : World) (hp : RRows w vp par) (hu : RStrs w vu us) (hh : RBools w vh hs) (hsz : ∀ u ∈ us, u.size ≤ lim) (hd1 : d ≤ 12) (hb : fitB f d par us hs = false) :
    Calls Tryd.prog 39 #[vCd nm f d vp dm, vu, vh] w (Ret w (.tuple #[.slice none 0 0, .int .i64 1])) := by
  have HF := Lib.hid fun W h2 h3 h4 => r8fit_any nm f d dm par vp vu vh us hs W h2 h3 h4 hsz hd1
  rw [hb] at HF
  have HP := Lib.hid hp
  have HU := Lib.hid hu
  have HH := Lib.hid hh
  obtain ⟨A, c, rfl, hlen, hvc⟩ := hp.form
  have hx0 : Ext w (w.alloc (.cells #[.string nm, .int .i64 f, .int .i64 d, .slice A par.length c, .int .i64 dm] 24)) := ext_alloc (ext_refl w) _
  clear hp hu hh hsz hb
  go_enter Tryd.func39, Tryd.ntmps39
  go_wp2_with fail
  refine (HF.out _ (HP.out.ext hx0) (RStrs.ext HU.out hx0) (RBools.ext HH.out hx0)).mono ?_
  rintro e w1 ⟨rfl, hx1⟩
  go_wp2_with fail
  go_ret2
  exact ⟨rfl, ext_trans hx0 hx1⟩

set_option maxRecDepth 100000 in
set_option maxHeartbeats 2000000 in
theorem r8decode_ok (nm : ByteArray) (m n : Nat) (dm : Int) (par : List (List Int)) (vp vu vh : Value) (us : List ByteArray) (hs : List Bool) (w : World) (hp : RRows w vp par) (hu : RStrs w vu us) (hh : RBools w vh hs) (hsz : ∀ u ∈ us, u.size ≤ lim) (hd1 : n ≤ 12) (hb : fitB m n par us hs = true) :
    Calls Tryd.prog 39 #[vCd nm m n vp dm, vu, vh] w (DecPost (allR m n par hs) (valsTo m n par us hs (n + par.length)) w) := by
  obtain ⟨m', n', em, en, hok, h1, h2, h3⟩ := fitB_facts hb
  obtain rfl : m = m' := by omega
  obtain rfl : n = n' := by omega
  have V := Vd.of hok h2
  have hn32 := V.n32
  have HF := Lib.hid fun W h2 h3 h4 => r8fit_any nm m n dm par vp vu vh us hs W h2 h3 h4 hsz (by omega)
  rw [hb] at HF
  have HRC : Hid (∀ u, u < n + par.length → ∀ W, RRows W vp par → RStrs W vu us → RBools W vh hs → Calls Tryd.prog 37 #[vCd nm m n vp dm, vu, vh, .int .i64 u] W (RcvPost (recB m n par hs u) (valR m n par us hs u) W)) :=
    fun u hu' W g1 g2 g3 => r8recover_ok nm m n dm u par vp vu vh us hs W g1 g2 g3 hsz hd1 hb (by omega)
  have HP := Lib.hid hp
  have HU := Lib.hid hu
  have HH := Lib.hid hh
  obtain ⟨A, c, rfl, hlen, hvc⟩ := hp.form
  obtain ⟨B, cB, rfl⟩ := hu.form
  obtain ⟨N, hN⟩ : ∃ N, N = n + par.length := ⟨_, rfl⟩
  rw [h1, ← hN] at HU HF HRC ⊢
  rw [← hN] at hn32
  have HALL : Hid (allR m n par hs = (List.range N).all (recB m n par hs)) := by show _ = _; rw [hN]; rfl
  have hx0 : Ext w (w.alloc (.cells #[.string nm, .int .i64 m, .int .i64 n, .slice A par.length c, .int .i64 dm] 24)) := ext_alloc (ext_refl w) _
  have hc0 := CdAt.new w nm m n dm (.slice A par.length c) 24
  obtain ⟨W0, hW0⟩ : ∃ W0, W0 = w.alloc (.cells #[.string nm, .int .i64 m, .int .i64 n, .slice A par.length c, .int .i64 dm] 24) := ⟨_, rfl⟩
  have HW0 := Lib.hid hW0
  rw [← hW0] at hx0 hc0
  clear hp hu hh hsz hb hok h1 h2 h3 V em en hW0 hN
  go_enter Tryd.func39, Tryd.ntmps39
  go_wp2_with fail
  rw [← HW0.out]
  refine (HF.out _ (HP.out.ext hx0) (RStrs.ext HU.out hx0) (RBools.ext HH.out hx0)).mono ?_
  rintro e w2 ⟨rfl, hx1⟩
  have hx4 := Lib.hid (ext_trans hx0 hx1)
  have HC2 := Lib.hid (hc0.ext hx1)
  clear hc0 hx0 hx1
  go_wp2_with fail
  go_loopw [9, 10] (fun v i wr => ∃ k : Nat, k ≤ N ∧ i = .int .i64 k ∧ Hid (∀ j, j < k → recB m n par hs j = true) ∧ Hid (wr.ownsRow w2.heap.size 9 1 v k ((valsTo m n par us hs k).map .string)) ∧ Ext w2 wr) (fun _ i _ => N - (intOf i).toNat)
  case atStart => exact ⟨0, Nat.zero_le _, rfl, fun j h => absurd h (by omega), own_nil' _ _ _ _, ext_refl _⟩
  case round =>
    obtain ⟨k, hk, rfl, hall, ho, hx⟩ := hrel
    by_cases hlt : k < N
    · have hxw := Lib.hid (ext_trans hx4.out hx)
      have hT := HRC.out k hlt wr (HP.out.ext hxw.out) (RStrs.ext HU.out hxw.out) (RBools.ext HH.out hxw.out)
      have HVT := Lib.hid (valsTo_succ m n par us hs k)
      obtain ⟨z, hz⟩ : ∃ z, z = recB m n par hs k := ⟨_, rfl⟩
      obtain ⟨val, hval⟩ : ∃ v, v = valR m n par us hs k := ⟨_, rfl⟩
      rw [← hz, ← hval] at hT
      rw [← hval] at HVT
      have HT := Lib.hid hT
      have HZ := Lib.hid hz
      obtain ⟨d0, d1, d2, d3, d4⟩ := HC2.out.ext hx
      clear hT hz hval
      go_wp2_with fail
      refine HT.out.mono ?_
      rintro e w3 ⟨he, hx6⟩
      have hx5 := ext_trans hx hx6
      clear d0 d1 d2 d3 d4
      cases z with
      | false =>
        obtain rfl : e = .returned (.tuple #[.string ⟨#[]⟩, .int .i64 11]) := he
        have HLO : Hid (allR m n par hs = false) := by
          show _ = _
          rw [HALL.out, List.all_eq_false]
          exact ⟨k, List.mem_range.2 hlt, by rw [← HZ.out]; decide⟩
        go_wp2_with fail
        go_ret2
        exact DecPost.lost HLO.out rfl (ext_trans hx4.out hx5)
      | true =>
        obtain rfl : e = .returned (.tuple #[.string val, .int .i64 0]) := he
        have HALK : Hid (∀ j, j < k + 1 → recB m n par hs j = true) := by
          show ∀ j, _ → _
          intro j hj
          rcases Nat.lt_or_ge j k with h | h
          · exact hall.out j h
          · obtain rfl : j = k := by omega
            exact HZ.out.symm
        have HO4 := Lib.hid (own_ext ho.out hx6)
        have hx8 := hx5
        go_wp2_with (at_builtin; refine wpList_app rfl _ _ 25 rfl w2.heap.size 9 _ 1 16 Tryd.underlying25 info_str rfl (by omega) _ k _ rfl (HO4.out.alloc _) _ 1 1 [.string val] rfl (by simp) (seg_new _ _ _) (by simp [Value.oneCell']) (by simp only [maxLen]; omega) (by omega) (by have := hx8.size; simp; omega) ?_; intro v7 w7 ho7 hg7 hat7)
        have HO7 : Hid (w7.ownsRow w2.heap.size 9 1 v7 (k + 1) ((valsTo m n par us hs (k + 1)).map .string)) := by
          show World.ownsRow _ _ _ _ _ _ _
          rw [HVT.out, List.map_append]
          simpa using ho7
        have hx9 : Ext w2 w7 := ext_grown (ext_alloc hx8 _) hg7 (fun i hi => own_base' HO4.out i hi)
        clear ho7 hg7 hat7
        go_wp2_with fail
        go_roundw
        case rel => exact ⟨k + 1, by omega, by simp, HALK, HO7, hx9⟩
        case measure => simp [intOf]; omega
    · have hkN : k = N := by omega
      have HF1 : Hid (allR m n par hs = true) := by
        show _ = _
        rw [HALL.out, List.all_eq_true]
        intro j hj
        exact hall.out j (by rw [hkN]; exact List.mem_range.1 hj)
      have HF2 : Hid (RStrs wr u9 (valsTo m n par us hs N)) := by
        have := own_strs' ho.out (by rw [lim_val]; omega)
        rw [hkN] at this
        exact this
      clear hkN
      go_wp2_with fail
      go_ret2
      exact DecPost.found HF1.out HF2.out (ext_trans hx4.out hx)

end Go.Proofs.YtgflflpeilfinaaDoor
