/- The statement ErasureEncodeMatchesSpec: its walk. -/
import Derived.Test.YtgflflpeilfinaaDoorSanA
import Derived.Test.YtgflflpeilfinaaDoorLawD
set_option linter.unusedVariables false
set_option linter.unusedSimpArgs false
set_option linter.unusedSectionVars false
namespace Go.Proofs.YtgflflpeilfinaaDoor
open Go.RowKit

theorem own_len {w : World} {base : Nat} {e : TypeId} {n : Nat} {v : Value} {xs : List Value} (h : w.ownsRow base e 1 v n xs) : n = xs.length := by have := h.1; omega
theorem own_ints' {w : World} {base n : Nat} {v : Value} {L : List Int} (h : w.ownsRow base 3 1 v n (ivs L)) (hl : n ≤ lim) : RInts w v L :=
  own_sl h (by have := own_len h; show (ivs L).length ≤ lim; omega)
theorem own_strs' {w : World} {base n : Nat} {v : Value} {L : List ByteArray} (h : w.ownsRow base 9 1 v n (L.map .string)) (hl : n ≤ lim) : RStrs w v L :=
  own_sl h (by have := own_len h; omega)

/-- A generator's answer: three numbers, a list of numbers, an error. -/
def GenPost (a b c : Int) (L : List Int) (x : Int) (w : World) (e : Ending) (w' : World) : Prop :=
  ∃ v', e = .returned (.tuple #[.agg #[.int .i64 a, .int .i64 b, .int .i64 c, v'], .int .i64 x]) ∧ RInts w' v' L ∧ Ext w w'
/-- A list of units and an error. -/
def EncPost (L : List ByteArray) (x : Int) (w : World) (e : Ending) (w' : World) : Prop :=
  ∃ v', e = .returned (.tuple #[v', .int .i64 x]) ∧ RStrs w' v' L ∧ Ext w w'

theorem gens (nm : ByteArray) (f d dm : Int) (par : List (List Int)) (vp : Value) (hd0 : -9223372036854775808 ≤ d) (hd1 : d ≤ 12) :
    ∃ a b c L x, (∀ w, Laid w → RRows w vp par → Calls Tryd.prog 14 #[vCd nm f d vp dm] w (GenPost a b c L x w)) ∧
      ∀ w, RRows w vp par → Calls Tryd.prog 15 #[vCd nm f d vp dm] w (GenPost a b c L x w) := by
  cases hok : okB f d par with
  | false =>
    refine ⟨0, 0, 0, [], 1, fun w hl hp => ?_, fun w hp => ?_⟩
    · refine (eragen_err nm f d dm par vp w hl hp hd0 (by omega) hok).mono ?_
      rintro e w' ⟨rfl, hx⟩
      exact ⟨_, rfl, ⟨none, 0, rfl, by simp, .inl rfl⟩, hx⟩
    · refine (r8gen_err nm f d dm par vp w hp hd1 hok).mono ?_
      rintro e w' ⟨rfl, hx⟩
      exact ⟨_, rfl, ⟨none, 0, rfl, by simp, .inl rfl⟩, hx⟩
  | true =>
    obtain ⟨m, n, rfl, rfl, hm, hn1, hn2, -⟩ := okB_facts hok
    have hl32 : (n + par.length) * n ≤ lim := by
      have : (n + par.length) * n ≤ 32 * 32 := Nat.mul_le_mul hn2 (by omega)
      rw [lim_val]; omega
    refine ⟨m, (n + par.length : Nat), n, genL n par, 0, fun w hl hp => ?_, fun w hp => ?_⟩
    · refine (eragen_ok nm m n dm par vp w hl hp hok).mono ?_
      rintro e w' ⟨v', rfl, ho, hx⟩
      exact ⟨_, rfl, own_ints' ho hl32, hx⟩
    · refine (r8gen_ok nm m n dm par vp w hp (by omega) hok).mono ?_
      rintro e w' ⟨v', rfl, ho, hx⟩
      exact ⟨_, rfl, own_ints' ho hl32, hx⟩

theorem encs (nm : ByteArray) (f d dm : Int) (par : List (List Int)) (vp vu : Value) (data : List ByteArray) (hsz : ∀ u ∈ data, u.size ≤ lim) (hdl : data.length ≤ 1000000) (hpl : par.length ≤ 8) (hd0 : -9223372036854775808 ≤ d) (hd1 : d ≤ 12) :
    ∃ L x, (∀ w, Laid w → RRows w vp par → RStrs w vu data → Calls Tryd.prog 16 #[vCd nm f d vp dm, vu] w (EncPost L x w)) ∧
      ∀ w, RRows w vp par → RStrs w vu data → Calls Tryd.prog 17 #[vCd nm f d vp dm, vu] w (EncPost L x w) := by
  cases he : encB f d par data with
  | false =>
    refine ⟨[], 1, fun w hl hp hu => ?_, fun w hp hu => ?_⟩
    · refine (encode_err nm f d dm par vp vu data w hl hp hd0 (by omega) hu hsz he).mono ?_
      rintro e w' ⟨rfl, hx⟩
      exact ⟨_, rfl, ⟨none, 0, rfl, by simp, .inl rfl⟩, hx⟩
    · refine (r8enc_err nm f d dm par vp vu data w hp hd1 hu hsz hdl he).mono ?_
      rintro e w' ⟨rfl, hx⟩
      exact ⟨_, rfl, ⟨none, 0, rfl, by simp, .inl rfl⟩, hx⟩
  | true =>
    have hok : okB f d par = true := by unfold encB at he; rw [Bool.and_eq_true] at he; exact he.1
    obtain ⟨m, n, rfl, rfl, hm, hn1, hn2, -⟩ := okB_facts hok
    have hl32 : (encL m par data).length ≤ lim := by unfold encL; rw [List.length_append, List.length_map, lim_val]; omega
    refine ⟨encL m par data, 0, fun w hl hp hu => ?_, fun w hp hu => ?_⟩
    · refine (encode_ok nm m n dm par vp vu data w hl hp hu hsz he).mono ?_
      rintro e w' ⟨v', rfl, ho, hx⟩
      exact ⟨_, rfl, own_strs' ho hl32, hx⟩
    · refine (r8enc_ok nm m n dm par vp vu data w hp (by omega) hu hsz he).mono ?_
      rintro e w' ⟨v', rfl, ho, hx⟩
      exact ⟨_, rfl, own_strs' ho hl32, hx⟩

theorem RInts.form {w : World} {v : Value} {L : List Int} (h : RInts w v L) : ∃ A c, v = .slice A L.length c := by
  obtain ⟨A, c, rfl, -, -⟩ := h
  exact ⟨A, c, by rw [List.length_map]⟩
theorem RStrs.form {w : World} {v : Value} {L : List ByteArray} (h : RStrs w v L) : ∃ A c, v = .slice A L.length c := by
  obtain ⟨A, c, rfl, -, -⟩ := h
  exact ⟨A, c, by rw [List.length_map]⟩
/-- The first four cells of a block hold a matrix. -/
structure MxAt (w : World) (b : Nat) (x y z : Int) (v : Value) : Prop where
  c0 : w.cell? ⟨b, 0, none⟩ = some (.int .i64 x)
  c1 : w.cell? ⟨b, 1, none⟩ = some (.int .i64 y)
  c2 : w.cell? ⟨b, 2, none⟩ = some (.int .i64 z)
  c3 : w.cell? ⟨b, 3, none⟩ = some v
theorem MxAt.new (w : World) (x y z : Int) (v : Value) (t : TypeId) : MxAt (w.alloc (.cells #[.int .i64 x, .int .i64 y, .int .i64 z, v] t)) w.heap.size x y z v :=
  ⟨row_cell (row_alloc w _ t _ rfl) 0 rfl, row_cell (row_alloc w _ t _ rfl) 1 rfl, row_cell (row_alloc w _ t _ rfl) 2 rfl, row_cell (row_alloc w _ t _ rfl) 3 rfl⟩
theorem MxAt.ext {w w' : World} {b : Nat} {x y z : Int} {v : Value} (h : MxAt w b x y z v) (hx : Ext w w') : MxAt w' b x y z v :=
  ⟨ext_cell hx h.c0, ext_cell hx h.c1, ext_cell hx h.c2, ext_cell hx h.c3⟩

set_option maxRecDepth 100000 in
set_option maxHeartbeats 4000000 in
theorem lawE_any (nm : ByteArray) (f d dm : Int) (par : List (List Int)) (vp vu : Value) (data : List ByteArray) (w : World) (hl : Laid w) (hp : RRows w vp par) (hu : RStrs w vu data) (hsz : ∀ u ∈ data, u.size ≤ lim) (hd0 : -9223372036854775808 ≤ d) (hd1 : d ≤ 9223372036854775807) :
    Calls Tryd.prog 3 #[vCd nm f d vp dm, vu] w (Ret w (.bool true)) := by
  have HP := Lib.hid hp
  have HU := Lib.hid hu
  have HFW := Lib.hid fun v W h => few_any data v W h hsz
  have hcase : (smallB d par = false ∨ smallB d par = true ∧ fewB data = false) ∨ smallB d par = true ∧ fewB data = true := by
    cases smallB d par <;> cases fewB data <;> simp
  have HSZ := Lib.hid hsz
  obtain ⟨A, c, rfl, hlen, hvc⟩ := hp.form
  obtain ⟨B, cB, rfl⟩ := hu.form
  have hx0 : Ext w (w.alloc (.cells #[.string nm, .int .i64 f, .int .i64 d, .slice A par.length c, .int .i64 dm] 24)) := ext_alloc (ext_refl w) _
  have hc0 := CdAt.new w nm f d dm (.slice A par.length c) 24
  obtain ⟨W0, hW0⟩ : ∃ W0, W0 = w.alloc (.cells #[.string nm, .int .i64 f, .int .i64 d, .slice A par.length c, .int .i64 dm] 24) := ⟨_, rfl⟩
  have HW0 := Lib.hid hW0
  rw [← hW0] at hx0 hc0
  clear hp hu hW0 hsz
  rcases hcase with hcase | ⟨hsm, hfw⟩
  · rcases hcase with hsm | ⟨hsm, hfw⟩
    · have HSM := Lib.hid hsm
      clear hsm
      go_enter Tryd.func3, Tryd.ntmps3
      go_wp2_with fail
      rw [← HW0.out]
      refine (sanity8_any _ (hl.ext hx0)).mono ?_
      rintro e w1 ⟨rfl, hx1⟩
      obtain ⟨d0, d1, d2, d3, d4⟩ := hc0.ext hx1
      have hx2 := ext_trans hx0 hx1
      go_wp2_with fail
      refine (small_any nm f d dm par _ _ (HP.out.ext hx2)).mono ?_
      rintro e w3 ⟨rfl, hx5⟩
      rw [HSM.out]
      go_wp2_with fail
      go_ret
      exact ⟨rfl, ext_trans hx2 hx5⟩
    · have HSM := Lib.hid hsm
      have HFF := Lib.hid hfw
      clear hsm hfw
      go_enter Tryd.func3, Tryd.ntmps3
      go_wp2_with fail
      rw [← HW0.out]
      refine (sanity8_any _ (hl.ext hx0)).mono ?_
      rintro e w1 ⟨rfl, hx1⟩
      obtain ⟨d0, d1, d2, d3, d4⟩ := hc0.ext hx1
      have hx2 := ext_trans hx0 hx1
      go_wp2_with fail
      refine (small_any nm f d dm par _ _ (HP.out.ext hx2)).mono ?_
      rintro e w3 ⟨rfl, hx5⟩
      rw [HSM.out]
      have hx6 := ext_trans hx2 hx5
      go_wp2_with fail
      refine (HFW.out _ _ (RStrs.ext HU.out hx6)).mono ?_
      rintro e w4 ⟨rfl, hx7⟩
      rw [HFF.out]
      go_wp2_with fail
      go_ret
      exact ⟨rfl, ext_trans hx6 hx7⟩
  · have hd12 : d ≤ 12 ∧ par.length ≤ 8 := by
      unfold smallB at hsm
      simp only [Bool.and_eq_true, decide_eq_true_eq] at hsm
      exact ⟨hsm.1, hsm.2.1⟩
    have hdl : data.length ≤ 24 := by
      unfold fewB at hfw
      simp only [Bool.and_eq_true, decide_eq_true_eq] at hfw
      exact hfw.1
    have HSM := Lib.hid hsm
    have HFF := Lib.hid hfw
    obtain ⟨a, b, cc, L, x, hg1, hg2⟩ := gens nm f d dm par (.slice A par.length c) hd0 hd12.1
    obtain ⟨T, y, he1, he2⟩ := encs nm f d dm par (.slice A par.length c) (.slice B data.length cB) data HSZ.out (by omega) hd12.2 hd0 hd12.1
    have HG1 := Lib.hid hg1
    have HG2 := Lib.hid hg2
    have HE1 := Lib.hid he1
    have HE2 := Lib.hid he2
    have HV1 := Lib.hid fun W h1 h2 => eraValid_any nm f d dm par (.slice A par.length c) W h1 h2 hd0 hd1
    have HV2 := Lib.hid fun W h2 => r8valid_any nm f d dm par (.slice A par.length c) W h2 hd12.1
    have HW1 := Lib.hid fun W h1 h2 => eraWidth_any nm f d dm par (.slice A par.length c) W h1 h2 hd0 hd1
    have HW2 := Lib.hid fun W h2 => r8width_any nm f d dm par (.slice A par.length c) W h2 hd12.1
    have HSI : Hid (∀ v u W, RInts W v L → RInts W u L → Calls Tryd.prog 18 #[v, u] W (Ret W (.bool true))) := fun v u W h1 h2 => by
      have := same_ints L L v u W h1 h2
      rwa [decide_eq_true rfl] at this
    have HST : Hid (∀ v u W, RStrs W v T → RStrs W u T → Calls Tryd.prog 23 #[v, u] W (Ret W (.bool true))) := fun v u W h1 h2 => by
      have := same_texts T T v u W h1 h2
      rwa [decide_eq_true rfl] at this
    obtain ⟨Wd, hWd⟩ : ∃ Wd, Wd = widthI f d par := ⟨_, rfl⟩
    rw [← hWd] at HW1 HW2
    obtain ⟨Ok, hOk⟩ : ∃ Ok, Ok = okB f d par := ⟨_, rfl⟩
    rw [← hOk] at HV1 HV2
    have e1 : (a != a) = false := by simp
    have e2 : (b != b) = false := by simp
    have e3 : (cc != cc) = false := by simp
    have e4 : (x != x) = false := by simp
    have e5 : (y == y) = true := by simp
    have e6 : (Wd == Wd) = true := by simp
    have e7 : (Ok == Ok) = true := by simp
    clear hsm hfw hg1 hg2 he1 he2 hWd hOk
    go_enter Tryd.func3, Tryd.ntmps3
    go_wp2_with fail
    rw [← HW0.out]
    refine (sanity8_any _ (hl.ext hx0)).mono ?_
    rintro e w1 ⟨rfl, hx1⟩
    obtain ⟨d0, d1, d2, d3, d4⟩ := hc0.ext hx1
    have hx2 := ext_trans hx0 hx1
    go_wp2_with fail
    refine (small_any nm f d dm par _ _ (HP.out.ext hx2)).mono ?_
    rintro e w3 ⟨rfl, hx5⟩
    rw [HSM.out]
    have hx6 := ext_trans hx2 hx5
    go_wp2_with fail
    refine (HFW.out _ _ (RStrs.ext HU.out hx6)).mono ?_
    rintro e w4 ⟨rfl, hx7⟩
    rw [HFF.out]
    have HC4 := Lib.hid (((hc0.ext hx1).ext hx5).ext hx7)
    have hx8 := Lib.hid (ext_trans hx6 hx7)
    clear d0 d1 d2 d3 d4 hx0 hx1 hx2 hx5 hx6 hx7 hc0
    obtain ⟨d0, d1, d2, d3, d4⟩ := HC4.out
    go_wp2_with fail
    refine (HG1.out _ (hl.ext hx8.out) (HP.out.ext hx8.out)).mono ?_
    rintro e w5 ⟨v1, rfl, hv1, hx9⟩
    have HC5 := Lib.hid (HC4.out.ext hx9)
    have hx10 := Lib.hid (ext_trans hx8.out hx9)
    obtain ⟨A1, c1, rfl⟩ := hv1.form
    obtain ⟨W5, hW5⟩ : ∃ W, W = w5.alloc (.cells #[.int .i64 a, .int .i64 b, .int .i64 cc, .slice A1 L.length c1] 31) := ⟨_, rfl⟩
    have HW5 := Lib.hid hW5
    have hy5 : Ext w5 W5 := by rw [hW5]; exact ext_alloc (ext_refl w5) _
    have HM5 : Hid (MxAt W5 w5.heap.size a b cc (.slice A1 L.length c1)) := by show MxAt _ _ _ _ _ _; rw [hW5]; exact MxAt.new _ _ _ _ _ _
    have HV5 := Lib.hid (RInts.ext hv1 hy5)
    have HC5' := Lib.hid (HC5.out.ext hy5)
    have hx11 := Lib.hid (ext_trans hx10.out hy5)
    clear d0 d1 d2 d3 d4 hx9 hv1 hy5 hW5 HC4 hx8 hx10
    obtain ⟨d0, d1, d2, d3, d4⟩ : CdAt (w5.alloc (.cells #[.int .i64 a, .int .i64 b, .int .i64 cc, .slice A1 L.length c1] 31)) w.heap.size nm f d dm (.slice A par.length c) := HC5.out.ext (ext_alloc (ext_refl w5) _)
    go_wp2_with fail
    rw [← HW5.out]
    refine (HG2.out _ (HP.out.ext hx11.out)).mono ?_
    rintro e w6 ⟨v2, rfl, hv2, hx12⟩
    have HC6 := Lib.hid (HC5'.out.ext hx12)
    obtain ⟨A2, c2, rfl⟩ := hv2.form
    obtain ⟨W6, hW6⟩ : ∃ W, W = w6.alloc (.cells #[.int .i64 a, .int .i64 b, .int .i64 cc, .slice A2 L.length c2] 31) := ⟨_, rfl⟩
    have HW6 := Lib.hid hW6
    have hy6 : Ext w6 W6 := by rw [hW6]; exact ext_alloc (ext_refl w6) _
    have HM6 : Hid (MxAt W6 w6.heap.size a b cc (.slice A2 L.length c2)) := by show MxAt _ _ _ _ _ _; rw [hW6]; exact MxAt.new _ _ _ _ _ _
    have hz6 := ext_trans hx12 hy6
    have HM5' := Lib.hid (HM5.out.ext hz6)
    have HV5' := Lib.hid (RInts.ext HV5.out hz6)
    have HV6 := Lib.hid (RInts.ext hv2 hy6)
    have HC6' := Lib.hid (HC6.out.ext hy6)
    have hx13 := Lib.hid (ext_trans hx11.out hz6)
    clear d0 d1 d2 d3 d4 hx12 hv2 hy6 hz6 hW6 HM5 HV5 HC5 HC5' hx11
    obtain ⟨d0, d1, d2, d3, d4⟩ : CdAt (w6.alloc (.cells #[.int .i64 a, .int .i64 b, .int .i64 cc, .slice A2 L.length c2] 31)) w.heap.size nm f d dm (.slice A par.length c) := HC6.out.ext (ext_alloc (ext_refl w6) _)
    go_wp2_with fail
    rw [← HW6.out]
    refine (HE1.out _ (hl.ext hx13.out) (HP.out.ext hx13.out) (RStrs.ext HU.out hx13.out)).mono ?_
    rintro e w7 ⟨v3, rfl, hv3, hx14⟩
    have HC7 := Lib.hid (HC6'.out.ext hx14)
    have hx15 := Lib.hid (ext_trans hx13.out hx14)
    have HV7 := Lib.hid hv3
    obtain ⟨A3, c3, rfl⟩ := hv3.form
    have hxm := Lib.hid hx14
    clear d0 d1 d2 d3 d4 hx14 hv3 HC6 HC6' hx13
    obtain ⟨d0, d1, d2, d3, d4⟩ := HC7.out
    go_wp2_with fail
    refine (HE2.out _ (HP.out.ext hx15.out) (RStrs.ext HU.out hx15.out)).mono ?_
    rintro e w8 ⟨v4, rfl, hv4, hx16⟩
    have hxn := ext_trans hxm.out hx16
    have HC8 := Lib.hid (HC7.out.ext hx16)
    have hx17 := Lib.hid (ext_trans hx15.out hx16)
    have HV8 := Lib.hid hv4
    have HV7' := Lib.hid (RStrs.ext HV7.out hx16)
    have HI1 := Lib.hid (RInts.ext HV5'.out hxn)
    have HI2 := Lib.hid (RInts.ext HV6.out hxn)
    obtain ⟨m0, m1, m2, m3⟩ := HM5'.out.ext hxn
    obtain ⟨q0, q1, q2, q3⟩ := HM6.out.ext hxn
    obtain ⟨A4, c4, rfl⟩ := hv4.form
    clear d0 d1 d2 d3 d4 hx16 hv4 HC7 hx15 hxm hxn HM5' HM6 HV5' HV6 HV7
    go_wp2_with fail
    refine (HSI.out _ _ _ HI1.out HI2.out).mono ?_
    rintro e w9 ⟨rfl, hx18⟩
    have HC9 := Lib.hid (HC8.out.ext hx18)
    have hx19 := Lib.hid (ext_trans hx17.out hx18)
    have HT1 := Lib.hid (RStrs.ext HV7'.out hx18)
    have HT2 := Lib.hid (RStrs.ext HV8.out hx18)
    obtain ⟨p0, p1, p2, p3, p4⟩ := HC9.out
    have hxc : Ext w9 w9 := ext_refl w9
    clear m0 m1 m2 m3 q0 q1 q2 q3 hx18 hx17 HC8 HV7' HV8 HI1 HI2
    go_wp2_with fail
    go_region_held3 (fun w' => w'.cell? ⟨w.heap.size, 0, none⟩ = some (.string nm) ∧ w'.cell? ⟨w.heap.size, 1, none⟩ = some (.int .i64 f) ∧ w'.cell? ⟨w.heap.size, 2, none⟩ = some (.int .i64 d) ∧ w'.cell? ⟨w.heap.size, 3, none⟩ = some (.slice A par.length c) ∧ w'.cell? ⟨w.heap.size, 4, none⟩ = some (.int .i64 dm)) ((refine (fun (h : Ext w9 _) => ⟨ext_cell h p0, ext_cell h p1, ext_cell h p2, ext_cell h p3, ext_cell h p4⟩) ?_; first | exact hxc | exact ext_drew hxc))
      (first
        | (go_at_call 19
           with_reducible refine (HV1.out _ (hl.ext (ext_trans hx19.out (by first | exact hxc | exact ext_drew hxc))) (HP.out.ext (ext_trans hx19.out (by first | exact hxc | exact ext_drew hxc)))).mono ?_
           rintro e wa ⟨rfl, hxa⟩
           replace hxc : Ext w9 wa := by first | exact ext_trans hxc hxa | exact ext_trans (ext_drew hxc) hxa)
        | (go_at_call 20
           with_reducible refine (HV2.out _ (HP.out.ext (ext_trans hx19.out (by first | exact hxc | exact ext_drew hxc)))).mono ?_
           rintro e wa ⟨rfl, hxa⟩
           replace hxc : Ext w9 wa := by first | exact ext_trans hxc hxa | exact ext_trans (ext_drew hxc) hxa)
        | (go_at_call 21
           with_reducible refine (HW1.out _ (hl.ext (ext_trans hx19.out (by first | exact hxc | exact ext_drew hxc))) (HP.out.ext (ext_trans hx19.out (by first | exact hxc | exact ext_drew hxc)))).mono ?_
           rintro e wa ⟨rfl, hxa⟩
           replace hxc : Ext w9 wa := by first | exact ext_trans hxc hxa | exact ext_trans (ext_drew hxc) hxa)
        | (go_at_call 22
           with_reducible refine (HW2.out _ (HP.out.ext (ext_trans hx19.out (by first | exact hxc | exact ext_drew hxc)))).mono ?_
           rintro e wa ⟨rfl, hxa⟩
           replace hxc : Ext w9 wa := by first | exact ext_trans hxc hxa | exact ext_trans (ext_drew hxc) hxa)
        | (go_at_call 23
           with_reducible refine (HST.out _ _ _ (RStrs.ext HT1.out (by first | exact hxc | exact ext_drew hxc)) (RStrs.ext HT2.out (by first | exact hxc | exact ext_drew hxc))).mono ?_
           rintro e wa ⟨rfl, hxa⟩
           replace hxc : Ext w9 wa := by first | exact ext_trans hxc hxa | exact ext_trans (ext_drew hxc) hxa))
    all_goals
      go_wp2_with fail
      go_ret
      exact ⟨rfl, ext_trans hx19.out hxc⟩

end Go.Proofs.YtgflflpeilfinaaDoor
