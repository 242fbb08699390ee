/- The walks of the reference of layer 8: Combination, Recoverable, Decodable. -/
import Derived.Test.YtgflflpeilfinaaDoorR8d
set_option linter.unusedVariables false
set_option linter.unusedSimpArgs false
set_option linter.unusedSectionVars false
namespace Go.Proofs.YtgflflpeilfinaaDoor
open Go.RowKit

theorem termsTo_congr {b x y : List Nat} {k : Nat} (h : ∀ j, j < k → ate x j = ate y j) : termsTo b x k = termsTo b y k := by
  induction k with
  | zero => rfl
  | succ k ih =>
    rw [termsTo_succ, termsTo_succ, h k (by omega), ih fun j hj => h j (by omega)]
theorem Vd.ex_terms {m n : Nat} {par : List (List Int)} {hs : List Bool} (V : Vd m n par hs) {u : Nat} (hu : u < n + par.length) (hr : recB m n par hs u = true) :
    termsTo (basisL m n par hs) (exL m n par (basisL m n par hs) u) (basisL m n par hs).length = cmbT m n par hs u := by
  unfold cmbT
  rw [V.ex_coef hu hr]
  refine termsTo_congr fun j hj => ?_
  rw [ate_get (by simpa using hj)]
  simp

set_option maxHeartbeats 1000000 in
theorem r8comb_err (nm : ByteArray) (f d dm unit : Int) (par : List (List Int)) (vp vh : Value) (w : World) (hp : RRows w vp par)
    (hC : ∀ W, Ext w W → Calls Tryd.prog 58 #[vCd nm f d vp dm, vh, .int .i64 unit] W (Ret W (.tuple #[.slice none 0 0, .slice none 0 0, .int .i64 1]))) :
    Calls Tryd.prog 32 #[vCd nm f d vp dm, vh, .int .i64 unit] w (Ret w (.tuple #[.slice none 0 0, .int .i64 1])) := by
  have HC := Lib.hid hC
  obtain ⟨A, c, rfl, hlen, hvc⟩ := hp.form
  have hx0 : Ext w (w.alloc (.cells #[.string nm, .int .i64 f, .int .i64 d, .slice A par.length c, .int .i64 dm] 24)) := ext_alloc (ext_refl w) _
  clear hp hC
  go_enter Tryd.func32, Tryd.ntmps32
  go_wp2_with fail
  refine (HC.out _ hx0).mono ?_
  rintro e w1 ⟨rfl, hx1⟩
  go_wp2_with fail
  go_ret2
  exact ⟨rfl, ext_trans hx0 hx1⟩

set_option maxRecDepth 100000 in
set_option maxHeartbeats 4000000 in
theorem r8comb_ok (nm : ByteArray) (m n : Nat) (dm : Int) (u : Nat) (par : List (List Int)) (vp vh : Value) (hs : List Bool) (w : World) (hp : RRows w vp par) (hh : RBools w vh hs) (hd1 : n ≤ 12) (hok : okB m n par = true) (hN : hs.length = n + par.length) (hu : u < hs.length) :
    Calls Tryd.prog 32 #[vCd nm m n vp dm, vh, .int .i64 u] w (TermsPost (recB m n par hs u) (cmbT m n par hs u) w) := by
  have V := Vd.of hok hN
  have hn32 := V.n32
  have HP := Lib.hid hp
  have HH := Lib.hid hh
  have hco := fun W h1 h2 => r8coef_ok nm m n dm u par vp vh hs W h1 h2 hd1 hok hN hu
  have htm := V.ex_terms (u := u) (by omega)
  have hbl : (basisL m n par hs).length ≤ n := V.len_n
  obtain ⟨z, hz⟩ : ∃ z, z = recB m n par hs u := ⟨_, rfl⟩
  obtain ⟨b, hb⟩ : ∃ b, b = basisL m n par hs := ⟨_, rfl⟩
  rw [← hb] at hco htm hbl
  obtain ⟨X, hX⟩ : ∃ X, X = exL m n par b u := ⟨_, rfl⟩
  have hXl : X.length = b.length := by rw [hX]; simp [exL]
  rw [← hz, ← hX] at hco
  rw [← hz, ← hX] at htm
  rw [← hz]
  have HCO := Lib.hid hco
  have HTM := Lib.hid htm
  obtain ⟨K, hK⟩ : ∃ K, K = b.length := ⟨_, rfl⟩
  have HK := Lib.hid hK
  have HXL := Lib.hid hXl
  rw [← hK] at hbl
  obtain ⟨A, c, rfl, hlen, hvc⟩ := hp.form
  obtain ⟨B, cB, rfl, hlB, -⟩ := hh
  rw [List.length_map] at HH HCO ⊢
  have hx0 : Ext w (w.alloc (.cells #[.string nm, .int .i64 m, .int .i64 n, .slice A par.length c, .int .i64 dm] 24)) := ext_alloc (ext_refl w) _
  clear hp hok hN hlB V hco htm hz hb hX hXl hK hu
  go_enter Tryd.func32, Tryd.ntmps32
  go_wp2_with fail
  refine (HCO.out _ (HP.out.ext hx0) (RBools.ext HH.out hx0)).mono ?_
  rintro e w2 ⟨hyes, hno, hx1⟩
  have hx2 := Lib.hid (ext_trans hx0 hx1)
  cases z with
  | false =>
    obtain rfl := hno rfl
    clear hyes hno hx1
    go_wp2_with fail
    go_ret2
    exact TermsPost.lost rfl rfl hx2.out
  | true =>
    obtain ⟨v1, v2, rfl, hv1, hv2⟩ := hyes rfl
    have HV1 := Lib.hid hv1
    have HV2 := Lib.hid hv2
    obtain ⟨A1, c1, rfl⟩ := hv1.form
    obtain ⟨A2, c2, rfl⟩ := hv2.form
    rw [show (nints b).length = K by simp [nints, HK.out]] at HV1 ⊢
    rw [show (nints X).length = K by simp [nints, HXL.out, HK.out]] at HV2 ⊢
    clear hyes hno hx1 hv1 hv2
    have hszB := hx2.out.size
    go_wp2_with fail
    go_loopw [11, 12] (fun v iv wr => ∃ k : Nat, k ≤ K ∧ iv = .int .i64 k ∧ Hid (wr.ownsRow w2.heap.size 49 2 v (termsTo b X k).length ((termsTo b X k).flatMap tmVals)) ∧ Ext w2 wr) (fun _ iv _ => K - (intOf iv).toNat)
    case atStart => exact ⟨0, Nat.zero_le _, rfl, own_nil' _ _ _ _, ext_refl _⟩
    case round =>
      obtain ⟨k, hk, rfl, ho, hx⟩ := hrel
      by_cases hlt : k < K
      · have hkb : k < b.length := by rw [← HK.out]; exact hlt
        have hkX : k < X.length := by rw [HXL.out]; exact hkb
        obtain ⟨b1, o1, hA1, q1⟩ := HV1.out.get k (by simpa [nints] using hkb)
        obtain ⟨b2, o2, hA2, q2⟩ := HV2.out.get k (by simpa [nints] using hkX)
        subst hA1 hA2
        obtain ⟨y, hy⟩ : ∃ y, y = b[k] := ⟨_, rfl⟩
        obtain ⟨x, hxe⟩ : ∃ x, x = X[k] := ⟨_, rfl⟩
        have q1 : w2.cell? ⟨b1, o1 + k, none⟩ = some (.int .i64 (y : Nat)) := by rw [q1, hy]; simp [nints]
        have q2 : w2.cell? ⟨b2, o2 + k, none⟩ = some (.int .i64 (x : Nat)) := by rw [q2, hxe]; simp [nints]
        have hax : ate X k = x := by rw [hxe, ate_get hkX]
        have hpl := termsTo_len b X k
        have HTS := termsTo_succ b X k
        rw [hax] at HTS
        have p2 := ext_cell hx q2
        by_cases hx0 : x = 0
        · have HTN : Hid (termsTo b X (k + 1) = termsTo b X k) := by show _ = _; rw [HTS, if_neg (by simpa using hx0)]
          rw [hx0] at p2
          have HON : Hid (wr.ownsRow w2.heap.size 49 2 u11 (termsTo b X (k + 1)).length ((termsTo b X (k + 1)).flatMap tmVals)) := by
            show World.ownsRow _ _ _ _ _ _ _
            rw [HTN.out]; exact ho.out
          clear HTS hax hxe hx0 hy
          go_wp2_with fail
          go_roundw
          case rel => exact ⟨k + 1, by omega, by simp, HON.out, hx⟩
          case measure => simp [intOf]; omega
        · have t2' : ((x : Int) != 0) = true := by simpa using hx0
          have HTN : Hid (termsTo b X (k + 1) = termsTo b X k ++ [(((y : Nat) : Int), ((x : Nat) : Int))]) := by
            show _ = _
            rw [HTS, if_pos hx0, hy, show b.getD k 0 = b[k] by simp [hkb]]
          obtain ⟨A3, c3, rfl, -⟩ := own_seg ho.out (by omega)
          obtain ⟨i0, hi0, hz0, hz1, hz2⟩ := info_parts info_term
          have hsz := hx.size
          have p1 := ext_cell hx q1
          have i1 : (0 : Int) ≤ (k : Int) := by omega
          have i2 : (k : Int) < (K : Int) := by omega
          clear HTS hax hxe hx0 hy
          go_wp2_with fail
          go_region_held3 (fun w' => w'.cell? ⟨b1, o1 + k, none⟩ = some (.int .i64 (y : Nat)) ∧ w'.cell? ⟨b2, o2 + k, none⟩ = some (.int .i64 (x : Nat)))
            ((refine (fun (h : Ext w2 _) => ⟨ext_cell h q1, ext_cell h q2⟩) ?_; first | exact hx9.out | (repeat (first | exact hx | (with_reducible refine ext_alloc ?_ _) | (with_reducible refine ext_drew ?_)))))
            (first
              | (refine step_append_lies _ (by rfl) _ _ _ (by rfl) w2.heap.size 49 i0 _ 2 16 Tryd.underlying45 hi0 hz0 hz1 hz2 rfl (by omega) (.slice A3 (termsTo b X k).length c3) (termsTo b X k).length ((termsTo b X k).flatMap tmVals) (by rfl) (own_ext ho.out (by repeat (first | exact ext_refl _ | (with_reducible refine ext_alloc ?_ _) | (with_reducible refine ext_drew ?_)))) ⟨wr.heap.size, 0, none⟩ 1 1 [.int .i64 (y : Int), .int .i64 (x : Int)] (by rfl) rfl (World.news_of_block (cs := #[.int .i64 (y : Int), .int .i64 (x : Int)]) (by repeat (first | ((with_reducible refine row_alloc _ _ _ _ ?_); (first | (with_reducible rfl) | (simp; done))) | (with_reducible refine row_alloc_old ?_ _) | (with_reducible refine row_drew ?_)))) (by simp [Value.oneCell']) (by omega) (by simp only [maxLen]; omega) (by omega) (by (try simp); omega) _ rfl ?_
                 intro g9 c9 w9 ho9 hg9 hat9 hlt9
                 have hx9 := Lib.hid (ext_grown (ext_trans hx (by repeat (first | exact ext_refl _ | (with_reducible refine ext_alloc ?_ _) | (with_reducible refine ext_drew ?_)))) hg9 (fun i hi => own_base' ho.out i hi))))
          all_goals
            have HON : Hid (w9.ownsRow w2.heap.size 49 2 (.slice (some ⟨g9, 0, none⟩) ((termsTo b X k).length + 1) c9) (termsTo b X (k + 1)).length ((termsTo b X (k + 1)).flatMap tmVals)) := by
              show World.ownsRow _ _ _ _ _ _ _
              rw [HTN.out, List.flatMap_append, List.length_append]
              simpa [tmVals] using ho9
            clear ho9 hg9 hat9
            go_wp2_with fail
            go_roundw
            case rel => exact ⟨k + 1, by omega, by simp, HON, hx9.out⟩
            case measure => simp [intOf]; omega
      · obtain rfl : k = K := by omega
        have HOF : Hid (wr.ownsRow w.heap.size 49 2 u11 (cmbT m n par hs u).length ((cmbT m n par hs u).flatMap tmVals)) := by
          have h := own_le hszB ho.out
          have e : termsTo b X k = cmbT m n par hs u := by rw [HK.out]; exact HTM.out (by first | rfl | trivial)
          rw [e] at h
          exact h
        go_wp2_with fail
        go_ret2
        exact TermsPost.found rfl HOF.out (ext_trans hx2.out hx)

set_option maxHeartbeats 1000000 in
theorem r8rec_err (nm : ByteArray) (f d dm unit : Int) (par : List (List Int)) (vp vh : Value) (w : World) (hp : RRows w vp par)
    (hC : ∀ W, Ext w W → Calls Tryd.prog 32 #[vCd nm f d vp dm, vh, .int .i64 unit] W (Ret W (.tuple #[.slice none 0 0, .int .i64 1]))) :
    Calls Tryd.prog 34 #[vCd nm f d vp dm, vh, .int .i64 unit] w (Ret w (.bool false)) := by
  have HC := Lib.hid hC
  obtain ⟨A, c, rfl, hlen, hvc⟩ := hp.form
  have hx0 : Ext w (w.alloc (.cells #[.string nm, .int .i64 f, .int .i64 d, .slice A par.length c, .int .i64 dm] 24)) := ext_alloc (ext_refl w) _
  clear hp hC
  go_enter Tryd.func34, Tryd.ntmps34
  go_wp2_with fail
  refine (HC.out _ hx0).mono ?_
  rintro e w1 ⟨rfl, hx1⟩
  go_wp2_with fail
  go_ret
  exact ⟨rfl, ext_trans hx0 hx1⟩
set_option maxHeartbeats 1000000 in
theorem r8rec_ok (nm : ByteArray) (m n : Nat) (dm : Int) (u : Nat) (par : List (List Int)) (vp vh : Value) (hs : List Bool) (w : World) (hp : RRows w vp par) (hh : RBools w vh hs) (hd1 : n ≤ 12) (hok : okB m n par = true) (hN : hs.length = n + par.length) (hu : u < hs.length) :
    Calls Tryd.prog 34 #[vCd nm m n vp dm, vh, .int .i64 u] w (Ret w (.bool (recB m n par hs u))) := by
  have HC := Lib.hid fun W h1 h2 => r8comb_ok nm m n dm u par vp vh hs W h1 h2 hd1 hok hN hu
  have HP := Lib.hid hp
  have HH := Lib.hid hh
  obtain ⟨z, hz⟩ : ∃ z, z = recB m n par hs u := ⟨_, rfl⟩
  rw [← hz] at HC ⊢
  obtain ⟨A, c, rfl, hlen, hvc⟩ := hp.form
  have hx0 : Ext w (w.alloc (.cells #[.string nm, .int .i64 m, .int .i64 n, .slice A par.length c, .int .i64 dm] 24)) := ext_alloc (ext_refl w) _
  clear hp hok hN hu hz hh
  go_enter Tryd.func34, Tryd.ntmps34
  go_wp2_with fail
  refine (HC.out _ (HP.out.ext hx0) (RBools.ext HH.out hx0)).mono ?_
  rintro e w1 ⟨hyes, hno, hx1⟩
  cases z with
  | false =>
    obtain rfl := hno rfl
    clear hyes hno
    go_wp2_with fail
    go_ret
    exact ⟨rfl, ext_trans hx0 hx1⟩
  | true =>
    obtain ⟨v', rfl, ho⟩ := hyes rfl
    clear hyes hno ho
    go_wp2_with fail
    go_ret
    exact ⟨rfl, ext_trans hx0 hx1⟩
set_option maxHeartbeats 1000000 in
theorem r8dec_err (nm : ByteArray) (f d dm : Int) (par : List (List Int)) (vp vh : Value) (hs : List Bool) (w : World) (hp : RRows w vp par) (hh : RBools w vh hs) (hd1 : d ≤ 12) (hb : hvB f d par hs = false) :
    Calls Tryd.prog 35 #[vCd nm f d vp dm, vh] w (Ret w (.bool false)) := by
  have HP := Lib.hid hp
  obtain ⟨A, c, rfl, hlen, hvc⟩ := hp.form
  obtain ⟨B, cB, rfl, -, -⟩ := hh
  rw [List.length_map]
  have hx0 : Ext w (w.alloc (.cells #[.string nm, .int .i64 f, .int .i64 d, .slice A par.length c, .int .i64 dm] 24)) := ext_alloc (ext_refl w) _
  have HW := Lib.hid fun W h => r8width_any nm f d dm par (.slice A par.length c) W h hd1
  have hc := hvB_width hb
  obtain ⟨N, hN⟩ : ∃ N, N = widthI f d par := ⟨_, rfl⟩
  rw [← hN] at HW hc
  clear hp hb hN
  rcases hc with h0 | ⟨h0, h1⟩
  · have t1 : (N == 0) = true := by simpa using h0
    clear h0
    go_enter Tryd.func35, Tryd.ntmps35
    go_wp2_with fail
    refine (HW.out _ (HP.out.ext hx0)).mono ?_
    rintro e w1 ⟨rfl, hx1⟩
    go_wp2_with fail
    go_ret
    exact ⟨rfl, ext_trans hx0 hx1⟩
  · have t1 : (N == 0) = false := by simpa using h0
    have t2 : ((hs.length : Int) != N) = true := by simpa using h1
    clear h0 h1
    go_enter Tryd.func35, Tryd.ntmps35
    go_wp2_with fail
    refine (HW.out _ (HP.out.ext hx0)).mono ?_
    rintro e w1 ⟨rfl, hx1⟩
    go_wp2_with fail
    go_ret
    exact ⟨rfl, ext_trans hx0 hx1⟩
set_option maxRecDepth 100000 in
set_option maxHeartbeats 2000000 in
theorem r8dec_ok (nm : ByteArray) (m n : Nat) (dm : Int) (par : List (List Int)) (vp vh : Value) (hs : List Bool) (w : World) (hp : RRows w vp par) (hh : RBools w vh hs) (hd1 : n ≤ 12) (hok : okB m n par = true) (hN : hs.length = n + par.length) :
    Calls Tryd.prog 35 #[vCd nm m n vp dm, vh] w (Ret w (.bool (allR m n par hs))) := by
  have V := Vd.of hok hN
  have hn32 := V.n32
  have hn1 := V.n1
  have HC : Hid (∀ u, u < n + par.length → ∀ W, RRows W vp par → RBools W vh hs → Calls Tryd.prog 34 #[vCd nm m n vp dm, vh, .int .i64 u] W (Ret W (.bool (recB m n par hs u)))) :=
    fun u hu W h1 h2 => r8rec_ok nm m n dm u par vp vh hs W h1 h2 hd1 hok hN (by omega)
  have HP := Lib.hid hp
  have HH := Lib.hid hh
  have HWD := Lib.hid fun W h => r8width_any nm m n dm par vp W h (by omega)
  have hWI : widthI m n par = ((n + par.length : Nat) : Int) := by unfold widthI; rw [hok]; simp
  rw [hWI] at HWD
  obtain ⟨A, c, rfl, hlen, hvc⟩ := hp.form
  obtain ⟨B, cB, rfl, hlB, -⟩ := hh
  obtain ⟨N, hNe⟩ : ∃ N, N = n + par.length := ⟨_, rfl⟩
  rw [List.length_map, hN, ← hNe] at HH HC ⊢
  rw [← hNe] at HWD hn32
  have HALL : Hid (allR m n par hs = (List.range N).all (recB m n par hs)) := by show _ = _; rw [hNe]; rfl
  have hx0 : Ext w (w.alloc (.cells #[.string nm, .int .i64 m, .int .i64 n, .slice A par.length c, .int .i64 dm] 24)) := ext_alloc (ext_refl w) _
  have hc0 := CdAt.new w nm m n dm (.slice A par.length c) 24
  obtain ⟨W0, hW0⟩ : ∃ W0, W0 = w.alloc (.cells #[.string nm, .int .i64 m, .int .i64 n, .slice A par.length c, .int .i64 dm] 24) := ⟨_, rfl⟩
  have HW0 := Lib.hid hW0
  rw [← hW0] at hx0 hc0
  have t1 : ((N : Int) == 0) = false := by rw [beq_eq_false_iff_ne]; omega
  have t2 : ((N : Int) != (N : Int)) = false := by simp
  clear hp hok hN V hWI hNe hW0 hlB
  go_enter Tryd.func35, Tryd.ntmps35
  go_wp2_with fail
  rw [← HW0.out]
  refine (HWD.out _ (HP.out.ext hx0)).mono ?_
  rintro e w1 ⟨rfl, hx1⟩
  have hx2 := Lib.hid (ext_trans hx0 hx1)
  have HC1 := Lib.hid (hc0.ext hx1)
  clear hx0 hx1 hc0
  go_wp2_with fail
  go_loopw [6] (fun iv wr => ∃ k : Nat, k ≤ N ∧ iv = .int .i64 k ∧ Hid (∀ j, j < k → recB m n par hs j = true) ∧ Ext w1 wr) (fun iv _ => N - (intOf iv).toNat)
  case atStart => exact ⟨0, Nat.zero_le _, rfl, fun j h => absurd h (by omega), ext_refl _⟩
  case round =>
    obtain ⟨k, hk, rfl, hall, hx⟩ := hrel
    by_cases hlt : k < N
    · have hxw := Lib.hid (ext_trans hx2.out hx)
      have hR := HC.out k hlt wr (HP.out.ext hxw.out) (RBools.ext HH.out hxw.out)
      obtain ⟨z, hz⟩ : ∃ z, z = recB m n par hs k := ⟨_, rfl⟩
      rw [← hz] at hR
      have HR := Lib.hid hR
      have HZ := Lib.hid hz
      obtain ⟨d0, d1, d2, d3, d4⟩ := HC1.out.ext hx
      clear hR hz
      go_wp2_with fail
      refine HR.out.mono ?_
      rintro e w3 ⟨rfl, hx3⟩
      have hx5 := ext_trans hx hx3
      clear d0 d1 d2 d3 d4
      cases z with
      | false =>
        have HLO : Hid (allR m n par hs = false) := by
          show _ = _
          rw [HALL.out, List.all_eq_false]
          exact ⟨k, List.mem_range.2 hlt, by rw [← HZ.out]; decide⟩
        go_wp2_with fail
        go_ret
        exact ⟨ret_bool HLO.out.symm, ext_trans hx2.out hx5⟩
      | true =>
        have HALK : Hid (∀ j, j < k + 1 → recB m n par hs j = true) := by
          show ∀ j, _ → _
          intro j hj
          rcases Nat.lt_or_ge j k with h | h
          · exact hall.out j h
          · obtain rfl : j = k := by omega
            exact HZ.out.symm
        go_wp2_with fail
        go_roundw
        case rel => exact ⟨k + 1, by omega, by simp, HALK, hx5⟩
        case measure => simp [intOf]; omega
    · have hkN : k = N := by omega
      have HF1 : Hid (allR m n par hs = true) := by
        show _ = _
        rw [HALL.out, List.all_eq_true]
        intro j hj
        exact hall.out j (by rw [hkN]; exact List.mem_range.1 hj)
      clear hkN
      go_wp2_with fail
      go_ret
      exact ⟨ret_bool HF1.out.symm, ext_trans hx2.out hx⟩

end Go.Proofs.YtgflflpeilfinaaDoor
