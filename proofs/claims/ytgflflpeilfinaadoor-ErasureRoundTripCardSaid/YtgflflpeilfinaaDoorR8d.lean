/- The walks of the reference of layer 8: coefficients, Combination, Recoverable, Decodable. -/
import Derived.Test.YtgflflpeilfinaaDoorR8b
import Derived.Test.YtgflflpeilfinaaDoorDecW
set_option linter.unusedVariables false
set_option linter.unusedSimpArgs false
set_option linter.unusedSectionVars false
namespace Go.Proofs.YtgflflpeilfinaaDoor
open Go.RowKit

def CoPost (z : Bool) (b x : List Nat) (w : World) (e : Ending) (w' : World) : Prop :=
  (z = true → ∃ v1 v2, e = .returned (.tuple #[v1, v2, .int .i64 0]) ∧ RInts w' v1 (nints b) ∧ RInts w' v2 (nints x)) ∧ (z = false → e = .returned (.tuple #[.slice none 0 0, .slice none 0 0, .int .i64 11])) ∧ Ext w w'
theorem CoPost.lost {z : Bool} {b x : List Nat} {w w' : World} {e : Ending} (hz : z = false) (he : e = .returned (.tuple #[.slice none 0 0, .slice none 0 0, .int .i64 11])) (hx : Ext w w') : CoPost z b x w e w' :=
  ⟨(fun h => absurd (hz.symm.trans h) (by decide)), fun _ => he, hx⟩
theorem CoPost.found {z : Bool} {b x : List Nat} {w w' : World} {v1 v2 : Value} (hz : z = true) (h1 : RInts w' v1 (nints b)) (h2 : RInts w' v2 (nints x)) (hx : Ext w w') : CoPost z b x w (.returned (.tuple #[v1, v2, .int .i64 0])) w' :=
  ⟨fun _ => ⟨v1, v2, rfl, h1, h2⟩, (fun h => absurd (hz.symm.trans h) (by decide)), hx⟩

set_option maxHeartbeats 1000000 in
theorem r8coef_err (nm : ByteArray) (f d dm unit : Int) (par : List (List Int)) (vp vh : Value) (w : World) (hp : RRows w vp par)
    (hC : ∀ W, Ext w W → Calls Tryd.prog 31 #[vCd nm f d vp dm, vh] W (Ret W (.tuple #[.slice none 0 0, .int .i64 1]))) :
    Calls Tryd.prog 58 #[vCd nm f d vp dm, vh, .int .i64 unit] w (Ret w (.tuple #[.slice none 0 0, .slice none 0 0, .int .i64 1])) := by
  have HC := Lib.hid hC
  obtain ⟨A, c, rfl, hlen, hvc⟩ := hp.form
  have hx0 : Ext w (w.alloc (.cells #[.string nm, .int .i64 f, .int .i64 d, .slice A par.length c, .int .i64 dm] 24)) := ext_alloc (ext_refl w) _
  clear hp hC
  go_enter Tryd.func58, Tryd.ntmps58
  go_wp2_with fail
  refine (HC.out _ hx0).mono ?_
  rintro e w1 ⟨rfl, hx1⟩
  go_wp2_with fail
  exact bodyPost_ret (v := .tuple #[.slice none 0 0, .slice none 0 0, .int .i64 1]) (by simp [results, Tryd.results58, go_sem]) rfl ⟨rfl, ext_trans hx0 hx1⟩

set_option maxHeartbeats 1000000 in
theorem r8coef_out (nm : ByteArray) (m n : Nat) (dm unit : Int) (par : List (List Int)) (vp vh : Value) (hs : List Bool) (w : World) (hp : RRows w vp par) (hh : RBools w vh hs) (hd1 : n ≤ 12) (hok : okB m n par = true) (hN : hs.length = n + par.length) (hu : unit < 0 ∨ (hs.length : Int) ≤ unit) :
    Calls Tryd.prog 58 #[vCd nm m n vp dm, vh, .int .i64 unit] w (Ret w (.tuple #[.slice none 0 0, .slice none 0 0, .int .i64 1])) := by
  have HB := Lib.hid fun W h1 h2 => r8basis_ok nm m n dm par vp vh hs W h1 h2 hd1 hok hN
  have HP := Lib.hid hp
  have HH := Lib.hid hh
  obtain ⟨A, c, rfl, hlen, hvc⟩ := hp.form
  obtain ⟨B, cB, rfl, hlB, -⟩ := hh
  rw [List.length_map] at HH HB ⊢
  have hx0 : Ext w (w.alloc (.cells #[.string nm, .int .i64 m, .int .i64 n, .slice A par.length c, .int .i64 dm] 24)) := ext_alloc (ext_refl w) _
  clear hp hok hN hlB
  rcases hu with hu | hu
  · have t1 : decide (unit < 0) = true := by simpa using hu
    clear hu
    go_enter Tryd.func58, Tryd.ntmps58
    go_wp2_with fail
    refine (HB.out _ (HP.out.ext hx0) (RBools.ext HH.out hx0)).mono ?_
    rintro e w1 ⟨v', rfl, ho, hx1⟩
    clear ho
    go_wp2_with fail
    exact bodyPost_ret (v := .tuple #[.slice none 0 0, .slice none 0 0, .int .i64 1]) (by simp [results, Tryd.results58, go_sem]) rfl ⟨rfl, ext_trans hx0 hx1⟩
  · have t1 : decide (unit < 0) = false := by simp; omega
    have t2 : decide ((hs.length : Int) ≤ unit) = true := by simpa using hu
    clear hu
    go_enter Tryd.func58, Tryd.ntmps58
    go_wp2_with fail
    refine (HB.out _ (HP.out.ext hx0) (RBools.ext HH.out hx0)).mono ?_
    rintro e w1 ⟨v', rfl, ho, hx1⟩
    clear ho
    go_wp2_with fail
    exact bodyPost_ret (v := .tuple #[.slice none 0 0, .slice none 0 0, .int .i64 1]) (by simp [results, Tryd.results58, go_sem]) rfl ⟨rfl, ext_trans hx0 hx1⟩

set_option maxRecDepth 100000 in
set_option maxHeartbeats 4000000 in
theorem r8coef_ok (nm : ByteArray) (m n : Nat) (dm : Int) (u : Nat) (par : List (List Int)) (vp vh : Value) (hs : List Bool) (w : World) (hp : RRows w vp par) (hh : RBools w vh hs) (hd1 : n ≤ 12) (hok : okB m n par = true) (hN : hs.length = n + par.length) (hu : u < hs.length) :
    Calls Tryd.prog 58 #[vCd nm m n vp dm, vh, .int .i64 u] w (CoPost (recB m n par hs u) (basisL m n par hs) (exL m n par (basisL m n par hs) u) w) := by
  have V := Vd.of hok hN
  have hn32 := V.n32
  have hn1 := V.n1
  have HP := Lib.hid hp
  have HH := Lib.hid hh
  have HB := Lib.hid fun W h1 h2 => r8basis_ok nm m n dm par vp vh hs W h1 h2 hd1 hok hN
  have hrw : ∀ row ∈ par, row.length = n := fun r h => (V.rows r h).1
  have HROW : Hid (∀ u, u < n + par.length → ∀ W, RRows W vp par → Calls Tryd.prog 26 #[vCd nm m n vp dm, .int .i64 u] W fun e w' => ∃ v', e = .returned v' ∧ w'.ownsRow W.heap.size 3 1 v' n (nvs (gRow n par u)) ∧ Ext W w') := fun u hu W h => by
    have h1 := r8row_any nm m dm n par vp u W h (by omega) hrw hu (by omega)
    rwa [← gRow_ints V.hm V.rows hu] at h1
  obtain ⟨b, hbe⟩ : ∃ b, b = basisL m n par hs := ⟨_, rfl⟩
  have HEX := Lib.hid fun vr vt W h1 h2 => ex_any V.bs (by omega) (by omega) (u := u) (by omega) vr vt W h1 h2
  have hzr : exOk m n par b u = recB m n par hs u := by rw [hbe]; exact V.ex_rec (by omega)
  have HBL : Hid (∀ k (h : k < b.length), b[k] < n + par.length) := fun k h => V.base_lt (by rw [← hbe]; exact List.getElem_mem h)
  have hbl : b.length ≤ n := by rw [hbe]; exact V.len_n
  rw [← hbe] at HB HEX ⊢
  rw [hzr] at HEX
  obtain ⟨z, hz⟩ : ∃ z, z = recB m n par hs u := ⟨_, rfl⟩
  obtain ⟨X, hX⟩ : ∃ X, X = exL m n par b u := ⟨_, rfl⟩
  have hXl : X.length = b.length := by rw [hX]; simp [exL]
  rw [← hz, ← hX] at HEX ⊢
  have HXL := Lib.hid hXl
  have HUW := Lib.hid fun W h => HROW.out u (by omega) W h
  obtain ⟨K, hKe⟩ : ∃ K, K = b.length := ⟨_, rfl⟩
  have HK := Lib.hid hKe
  rw [← hKe] at HB hbl
  obtain ⟨A, c, rfl, hlen, hvc⟩ := hp.form
  obtain ⟨B, cB, rfl, hlB, -⟩ := hh
  rw [List.length_map] at HH HB ⊢
  have hx0 : Ext w (w.alloc (.cells #[.string nm, .int .i64 m, .int .i64 n, .slice A par.length c, .int .i64 dm] 24)) := ext_alloc (ext_refl w) _
  have hc0 := CdAt.new w nm m n dm (.slice A par.length c) 24
  obtain ⟨W0, hW0⟩ : ∃ W0, W0 = w.alloc (.cells #[.string nm, .int .i64 m, .int .i64 n, .slice A par.length c, .int .i64 dm] 24) := ⟨_, rfl⟩
  have HW0 := Lib.hid hW0
  rw [← hW0] at hx0 hc0
  have t1 : decide ((u : Int) < 0) = false := by simp
  have t2 : decide (hs.length ≤ u) = false := by simp; omega
  clear hp hok hN hlB V hrw hbe hzr hz hX hXl hKe hW0 hu
  go_enter Tryd.func58, Tryd.ntmps58
  go_wp2_with fail
  rw [← HW0.out]
  refine (HB.out _ (HP.out.ext hx0) (RBools.ext HH.out hx0)).mono ?_
  rintro e w2 ⟨vb, rfl, hob, hx1⟩
  have hx2 := Lib.hid (ext_trans hx0 hx1)
  have HC2 := Lib.hid (hc0.ext hx1)
  have HP2 := Lib.hid (HP.out.ext hx2.out)
  have hnvl : (nvs b).length ≤ lim := by rw [nvs_len, ← HK.out, lim_val]; omega
  have HVB : Hid (RInts w2 vb (nints b)) := own_sl hob hnvl
  obtain ⟨Ab, cb, rfl, -⟩ := own_seg hob (by omega)
  clear hob hx0 hx1 hc0 hnvl
  go_wp2_with fail
  go_loopw [11, 12] (fun rv iv wr => ∃ (k : Nat) (vs : List Value), k ≤ K ∧ iv = .int .i64 k ∧ Hid (RowsV w2.heap.size wr rv n vs ((b.take k).map (gRow n par))) ∧ Ext w2 wr) (fun _ iv _ => K - (intOf iv).toNat)
  case atStart => exact ⟨0, [], Nat.zero_le _, rfl, RowsV.nil _ _ _, ext_refl _⟩
  case round =>
    obtain ⟨k, vs, hk, rfl, hr, hx⟩ := hrel
    have hlk : ((b.take k).map (gRow n par)).length = k := by rw [List.length_map, List.length_take, ← HK.out]; omega
    obtain ⟨Ar, cr, rfl, -⟩ := own_seg hr.out.hd (by omega)
    rw [hlk] at hr ⊢
    by_cases hlt : k < K
    · have hkb : k < b.length := by rw [← HK.out]; exact hlt
      obtain ⟨bb, ob, hA, hcb⟩ := HVB.out.get k (by simp [nints]; exact hkb)
      subst hA
      obtain ⟨y, hy⟩ : ∃ y, y = b[k] := ⟨_, rfl⟩
      have hcb2 : w2.cell? ⟨bb, ob + k, none⟩ = some (.int .i64 (y : Nat)) := by rw [hcb, hy]; simp [nints]
      have HRy := Lib.hid fun W h => HROW.out y (by rw [hy]; exact HBL.out k hkb) W h
      have HTK : Hid (b.take (k + 1) = b.take k ++ [y]) := by show _ = _; rw [List.take_succ_eq_append_getElem hkb, hy]
      obtain ⟨d0, d1, d2, d3, d4⟩ := HC2.out
      obtain ⟨i0, hi0, hz0, hz1, hz2⟩ := info_parts info_ints
      have hxc : Ext w2 wr := hx
      have hsz := hx.size
      have i1 : (0 : Int) ≤ (k : Int) := by omega
      have i2 : (k : Int) < (K : Int) := by omega
      have hhd := hr.out.hd
      rw [hlk] at hhd
      have HHD := Lib.hid hhd
      clear hcb hy hhd
      go_wp2_with fail
      go_region_held3 (fun w' => w'.cell? ⟨w.heap.size, 0, none⟩ = some (.string nm) ∧ w'.cell? ⟨w.heap.size, 1, none⟩ = some (.int .i64 m) ∧ w'.cell? ⟨w.heap.size, 2, none⟩ = some (.int .i64 n) ∧ w'.cell? ⟨w.heap.size, 3, none⟩ = some (.slice A par.length c) ∧ w'.cell? ⟨w.heap.size, 4, none⟩ = some (.int .i64 dm) ∧ w'.cell? ⟨bb, ob + k, none⟩ = some (.int .i64 (y : Nat)))
        ((refine (fun (h : Ext w2 _) => ⟨ext_cell h d0, ext_cell h d1, ext_cell h d2, ext_cell h d3, ext_cell h d4, ext_cell h hcb2⟩) ?_; first | exact hx9.out | (repeat (first | exact hxc | exact hxa' | (with_reducible refine ext_alloc ?_ _) | (with_reducible refine ext_drew ?_)))))
        (first
          | (go_at_call 26
             with_reducible refine (HRy.out _ (HP2.out.ext (by repeat (first | exact hxc | (with_reducible refine ext_alloc ?_ _) | (with_reducible refine ext_drew ?_))))).mono ?_
             rintro e wa ⟨vu, rfl, hou, hxa⟩
             obtain ⟨gu, cu, rfl⟩ := own_some hou (by omega)
             have hxra : Ext wr wa := (ext_trans (by repeat (first | exact ext_refl _ | (with_reducible refine ext_alloc ?_ _) | (with_reducible refine ext_drew ?_))) hxa)
             have hxa' : Ext w2 wa := ext_trans hxc hxra
             have HOU := Lib.hid (own_le (by have h1 := hxc.size; have h2 := hxra.size; have h3 := hxa.size; (try simp at h3 ⊢); omega : w2.heap.size ≤ _) hou)
             clear hou)
          | (refine step_append_lies _ (by rfl) _ _ _ (by rfl) w2.heap.size 29 i0 _ 1 24 Tryd.underlying22 hi0 hz0 hz1 hz2 rfl (by omega) (.slice Ar k cr) k vs (by rfl) (own_ext HHD.out (ext_trans hxra (by repeat (first | exact ext_refl _ | (with_reducible refine ext_alloc ?_ _) | (with_reducible refine ext_drew ?_))))) ⟨wa.heap.size, 0, none⟩ 1 1 [.slice (some ⟨gu, 0, none⟩) n cu] (by rfl) rfl (World.news_of_block (cs := #[.slice (some ⟨gu, 0, none⟩) n cu]) (by repeat (first | ((with_reducible refine row_alloc _ _ _ _ ?_); (first | (with_reducible rfl) | (simp; done))) | (with_reducible refine row_alloc_old ?_ _) | (with_reducible refine row_drew ?_)))) (by simp [Value.oneCell']) (by omega) (by simp only [maxLen]; omega) (by omega) (by have := hxa'.size; (try simp); omega) _ rfl ?_
             intro g9 c9 w9 ho9 hg9 hat9 hlt9
             have hx9 := Lib.hid (ext_grown (ext_trans hxa' (by repeat (first | exact ext_refl _ | (with_reducible refine ext_alloc ?_ _) | (with_reducible refine ext_drew ?_)))) hg9 (fun i hi => own_base' HHD.out i hi))))
      all_goals
        have HR9 : Hid (RowsV w2.heap.size w9 (.slice (some ⟨g9, 0, none⟩) (k + 1) c9) n (vs ++ [.slice (some ⟨gu, 0, none⟩) n cu]) ((b.take (k + 1)).map (gRow n par))) := by
          have := (hr.out.ext hxra).push (r := gRow n par y) HOU.out (by repeat (first | exact ext_refl _ | (with_reducible refine ext_alloc ?_ _) | (with_reducible refine ext_drew ?_))) (by rw [hlk]; exact ho9) hg9
          show RowsV _ _ _ _ _ _
          rw [HTK.out, List.map_append]
          exact this
        clear ho9 hg9 hat9
        go_wp2_with fail
        go_roundw
        case rel => exact ⟨k + 1, _, by omega, by simp, HR9, hx9.out⟩
        case measure => simp [intOf]; omega
    · obtain rfl : k = K := by omega
      have hbt : b.take k = b := by rw [HK.out]; exact List.take_length
      have HRR : Hid (RowsO w2.heap.size wr (.slice Ar k cr) n (b.map (gRow n par))) := by
        have := hr.out.toO
        rwa [hbt] at this
      obtain ⟨d0, d1, d2, d3, d4⟩ := HC2.out
      have hxc : Ext w2 wr := hx
      have hbl32 : (b.map (gRow n par)).length ≤ 32 := by rw [List.length_map, ← HK.out]; omega
      have HVB' := Lib.hid fun W (h : Ext w2 W) => RInts.ext HVB.out h
      clear hbt hlk
      cases z with
      | true =>
        go_wp2_with fail
        go_region_held3 (fun w' => w'.cell? ⟨w.heap.size, 0, none⟩ = some (.string nm) ∧ w'.cell? ⟨w.heap.size, 1, none⟩ = some (.int .i64 m) ∧ w'.cell? ⟨w.heap.size, 2, none⟩ = some (.int .i64 n) ∧ w'.cell? ⟨w.heap.size, 3, none⟩ = some (.slice A par.length c) ∧ w'.cell? ⟨w.heap.size, 4, none⟩ = some (.int .i64 dm))
          ((refine (fun (h : Ext w2 _) => ⟨ext_cell h d0, ext_cell h d1, ext_cell h d2, ext_cell h d3, ext_cell h d4⟩) ?_; first | exact hxc | exact ext_drew hxc))
          (first
            | (go_at_call 26
               with_reducible refine (HUW.out _ (HP2.out.ext (by first | exact hxc | exact ext_drew hxc))).mono ?_
               rintro e wa ⟨vt, rfl, hot, hxa⟩
               have HOT := Lib.hid (own_ints hot (by have := own_len hot; rw [nvs_len] at this; rw [← this, lim_val]; omega))
               obtain ⟨gt, ct, rfl⟩ := own_some hot (by omega)
               have hra : Ext wr wa := by first | exact hxa | exact ext_trans (ext_drew (ext_refl _)) hxa
               clear hot
               replace hxc : Ext w2 wa := by first | exact ext_trans hxc hxa | exact ext_trans (ext_drew hxc) hxa)
            | (go_at_call 57
               with_reducible refine (HEX.out _ _ _ ((HRR.out.ext (by first | exact hra | exact ext_drew hra)).reads (by rw [lim_val]; omega) (by rw [lim_val]; omega)) (by first | exact HOT.out | exact RInts.ext HOT.out (ext_drew (ext_refl _)))).mono ?_
               rintro e wb ⟨hyes, hno, hxb⟩
               obtain ⟨vx, rfl, hvx⟩ := hyes rfl
               have HVX := Lib.hid hvx
               obtain ⟨gx, cx, rfl⟩ := hvx.form
               clear hyes hno
               replace hxc : Ext w2 wb := by first | exact ext_trans hxc hxb | exact ext_trans (ext_drew hxc) hxb))
        all_goals
          have HVF := Lib.hid (HVB'.out _ hxc)
          go_wp2_with fail
          refine bodyPost_ret (by simp [results, Tryd.results58, go_sem]; try rfl) rfl ?_
          exact CoPost.found rfl HVF.out HVX.out (ext_trans hx2.out hxc)
      | false =>
        go_wp2_with fail
        go_region_held3 (fun w' => w'.cell? ⟨w.heap.size, 0, none⟩ = some (.string nm) ∧ w'.cell? ⟨w.heap.size, 1, none⟩ = some (.int .i64 m) ∧ w'.cell? ⟨w.heap.size, 2, none⟩ = some (.int .i64 n) ∧ w'.cell? ⟨w.heap.size, 3, none⟩ = some (.slice A par.length c) ∧ w'.cell? ⟨w.heap.size, 4, none⟩ = some (.int .i64 dm))
          ((refine (fun (h : Ext w2 _) => ⟨ext_cell h d0, ext_cell h d1, ext_cell h d2, ext_cell h d3, ext_cell h d4⟩) ?_; first | exact hxc | exact ext_drew hxc))
          (first
            | (go_at_call 26
               with_reducible refine (HUW.out _ (HP2.out.ext (by first | exact hxc | exact ext_drew hxc))).mono ?_
               rintro e wa ⟨vt, rfl, hot, hxa⟩
               have HOT := Lib.hid (own_ints hot (by have := own_len hot; rw [nvs_len] at this; rw [← this, lim_val]; omega))
               obtain ⟨gt, ct, rfl⟩ := own_some hot (by omega)
               have hra : Ext wr wa := by first | exact hxa | exact ext_trans (ext_drew (ext_refl _)) hxa
               clear hot
               replace hxc : Ext w2 wa := by first | exact ext_trans hxc hxa | exact ext_trans (ext_drew hxc) hxa)
            | (go_at_call 57
               with_reducible refine (HEX.out _ _ _ ((HRR.out.ext (by first | exact hra | exact ext_drew hra)).reads (by rw [lim_val]; omega) (by rw [lim_val]; omega)) (by first | exact HOT.out | exact RInts.ext HOT.out (ext_drew (ext_refl _)))).mono ?_
               rintro e wb ⟨hyes, hno, hxb⟩
               obtain rfl := hno rfl
               clear hyes hno
               replace hxc : Ext w2 wb := by first | exact ext_trans hxc hxb | exact ext_trans (ext_drew hxc) hxb))
        all_goals
          go_wp2_with fail
          refine bodyPost_ret (v := .tuple #[.slice none 0 0, .slice none 0 0, .int .i64 11]) (by simp [results, Tryd.results58, go_sem]) rfl ?_
          exact CoPost.lost rfl rfl (ext_trans hx2.out hxc)

end Go.Proofs.YtgflflpeilfinaaDoor
