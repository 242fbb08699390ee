/- The walks of the reference of layer 8: fit, Recover, Decode. -/
import Derived.Test.YtgflflpeilfinaaDoorR8g
set_option linter.unusedVariables false
set_option linter.unusedSimpArgs false
set_option linter.unusedSectionVars false
namespace Go.Proofs.YtgflflpeilfinaaDoor
open Go.RowKit

/-- The size of the first unit; -1 if there is none. -/
def szI (l : List ByteArray) : Int := match l with | [] => -1 | u :: _ => u.size
theorem szI_nil_iff (l : List ByteArray) : szI l < 0 ↔ l = [] := by
  cases l with
  | nil => simp [szI]
  | cons u l => simp [szI]
theorem uniB_nil (f : Int) : uniB f [] = true := rfl
theorem uniB_one (f : Int) (u : ByteArray) : uniB f [u] = (decide (f = 8) || decide (u.size % 2 = 0)) := by simp [uniB, uniOne]
theorem uniB_snoc (f : Int) (l : List ByteArray) (u : ByteArray) (hl : l ≠ []) : uniB f (l ++ [u]) = (uniB f l && uniOne f (l[0]?.getD ByteArray.empty).size u) := by
  cases l with
  | nil => exact absurd rfl hl
  | cons a l => simp [uniB, List.all_append, Bool.and_assoc]

theorem uniB_pre (f : Int) (l r : List ByteArray) (h : uniB f (l ++ r) = true) : uniB f l = true := by
  cases l with
  | nil => rfl
  | cons a l =>
    unfold uniB at h ⊢
    rw [List.cons_append, List.all_cons, List.all_append] at h
    simp only [List.getElem?_cons_zero, Option.getD_some, Bool.and_eq_true] at h ⊢
    rw [List.all_cons]
    simp only [Bool.and_eq_true]
    exact ⟨h.1, h.2.1⟩
theorem puTo_pre (us : List ByteArray) (hs : List Bool) (k j : Nat) : ∃ r, puTo us hs (k + j) = puTo us hs k ++ r := by
  induction j with
  | zero => exact ⟨[], by simp⟩
  | succ j ih =>
    obtain ⟨r, hr⟩ := ih
    rw [← Nat.add_assoc, puTo_succ, hr]
    split
    · exact ⟨r ++ [us.getD (k + j) ByteArray.empty], by rw [List.append_assoc]⟩
    · exact ⟨r, rfl⟩
theorem uniB_bad {f : Int} {us : List ByteArray} {hs : List Bool} {k n : Nat} (hk : k ≤ n) (h : uniB f (puTo us hs k) = false) : uniB f (puTo us hs n) = false := by
  obtain ⟨r, hr⟩ := puTo_pre us hs k (n - k)
  rw [show k + (n - k) = n by omega] at hr
  cases h' : uniB f (puTo us hs n) with
  | false => rfl
  | true => rw [hr] at h'; rw [uniB_pre f _ _ h'] at h; cases h

set_option maxHeartbeats 1000000 in
theorem r8fit_len (nm : ByteArray) (f d dm : Int) (par : List (List Int)) (vp vu vh : Value) (us : List ByteArray) (hs : List Bool) (w : World) (hp : RRows w vp par) (hu : RStrs w vu us) (hh : RBools w vh hs) (hd1 : d ≤ 12)
    (hb : widthI f d par = 0 ∨ (widthI f d par ≠ 0 ∧ (hs.length : Int) ≠ widthI f d par) ∨ (widthI f d par ≠ 0 ∧ (hs.length : Int) = widthI f d par ∧ (us.length : Int) ≠ widthI f d par)) :
    Calls Tryd.prog 61 #[vCd nm f d vp dm, vu, vh] w (Ret w (.bool false)) := by
  have HP := Lib.hid hp
  obtain ⟨A, c, rfl, hlen, hvc⟩ := hp.form
  obtain ⟨B, cB, rfl, -, -⟩ := hh
  obtain ⟨D, cD, rfl⟩ := hu.form
  rw [List.length_map]
  have hx0 : Ext w (w.alloc (.cells #[.string nm, .int .i64 f, .int .i64 d, .slice A par.length c, .int .i64 dm] 24)) := ext_alloc (ext_refl w) _
  have HW := Lib.hid fun W h => r8width_any nm f d dm par (.slice A par.length c) W h hd1
  obtain ⟨N, hN⟩ : ∃ N, N = widthI f d par := ⟨_, rfl⟩
  rw [← hN] at HW hb
  clear hp hN hu
  rcases hb with h0 | ⟨h0, h1⟩ | ⟨h0, h1, h2⟩
  · have t1 : (N == 0) = true := by simpa using h0
    clear h0
    go_enter Tryd.func61, Tryd.ntmps61
    go_wp2_with fail
    refine (HW.out _ (HP.out.ext hx0)).mono ?_
    rintro e w1 ⟨rfl, hx1⟩
    go_wp2_with fail
    go_ret
    exact ⟨rfl, ext_trans hx0 hx1⟩
  · have t1 : (N == 0) = false := by simpa using h0
    have t2 : ((hs.length : Int) != N) = true := by simpa using h1
    clear h0 h1
    go_enter Tryd.func61, Tryd.ntmps61
    go_wp2_with fail
    refine (HW.out _ (HP.out.ext hx0)).mono ?_
    rintro e w1 ⟨rfl, hx1⟩
    go_wp2_with fail
    go_ret
    exact ⟨rfl, ext_trans hx0 hx1⟩
  · have t1 : (N == 0) = false := by simpa using h0
    have t2 : ((hs.length : Int) != N) = false := by simpa using h1
    have t3 : ((us.length : Int) != N) = true := by simpa using h2
    clear h0 h1 h2
    go_enter Tryd.func61, Tryd.ntmps61
    go_wp2_with fail
    refine (HW.out _ (HP.out.ext hx0)).mono ?_
    rintro e w1 ⟨rfl, hx1⟩
    go_wp2_with fail
    go_ret
    exact ⟨rfl, ext_trans hx0 hx1⟩

set_option maxRecDepth 100000 in
set_option maxHeartbeats 4000000 in
theorem r8fit_ok (nm : ByteArray) (m n : Nat) (dm : Int) (par : List (List Int)) (vp vu vh : Value) (us : List ByteArray) (hs : List Bool) (w : World) (hp : RRows w vp par) (hu : RStrs w vu us) (hh : RBools w vh hs) (hsz : ∀ u ∈ us, u.size ≤ lim) (hd1 : n ≤ 12)
    (hok : okB m n par = true) (hN : hs.length = n + par.length) (hU : us.length = n + par.length) :
    Calls Tryd.prog 61 #[vCd nm m n vp dm, vu, vh] w (Ret w (.bool (uniB m (puTo us hs hs.length)))) := by
  have V := Vd.of hok hN
  have hn32 := V.n32
  have hn1 := V.n1
  have HM := Lib.hid V.hm
  have HSZ := Lib.hid hsz
  have HP := Lib.hid hp
  have HH := Lib.hid hh
  have HU := Lib.hid hu
  have HWD := Lib.hid fun W h => r8width_any nm m n dm par vp W h (by omega)
  have hWI : widthI m n par = ((n + par.length : Nat) : Int) := by unfold widthI; rw [hok]; simp
  rw [hWI] at HWD
  obtain ⟨A, c, rfl, hlen, hvc⟩ := hp.form
  obtain ⟨B, cB, rfl, hlB, -⟩ := hh
  obtain ⟨D, cD, rfl⟩ := hu.form
  obtain ⟨N, hNe⟩ : ∃ N, N = n + par.length := ⟨_, rfl⟩
  rw [List.length_map, hN, ← hNe] at HH ⊢
  rw [hU, ← hNe] at HU ⊢
  rw [← hNe] at HWD hn32
  have HHL : Hid (hs.length = N) := by show _ = _; omega
  have HUL : Hid (us.length = N) := by show _ = _; omega
  have hx0 : Ext w (w.alloc (.cells #[.string nm, .int .i64 m, .int .i64 n, .slice A par.length c, .int .i64 dm] 24)) := ext_alloc (ext_refl w) _
  have hc0 := CdAt.new w nm m n dm (.slice A par.length c) 24
  obtain ⟨W0, hW0⟩ : ∃ W0, W0 = w.alloc (.cells #[.string nm, .int .i64 m, .int .i64 n, .slice A par.length c, .int .i64 dm] 24) := ⟨_, rfl⟩
  have HW0 := Lib.hid hW0
  rw [← hW0] at hx0 hc0
  have t1 : ((N : Int) == 0) = false := by rw [beq_eq_false_iff_ne]; omega
  have t2 : ((N : Int) != (N : Int)) = false := by simp
  clear hp hok hN hU V hWI hNe hW0 hlB hsz hu
  go_enter Tryd.func61, Tryd.ntmps61
  go_wp2_with fail
  rw [← HW0.out]
  refine (HWD.out _ (HP.out.ext hx0)).mono ?_
  rintro e w1 ⟨rfl, hx1⟩
  have hx2 := Lib.hid (ext_trans hx0 hx1)
  have HC1 := Lib.hid (hc0.ext hx1)
  have HH1 := Lib.hid (RBools.ext HH.out hx2.out)
  have HU1 := Lib.hid (RStrs.ext HU.out hx2.out)
  clear hx0 hx1 hc0
  go_wp2_with fail
  go_loopw [8, 9] (fun sv iv wr => ∃ k : Nat, k ≤ N ∧ iv = .int .i64 k ∧ sv = .int .i64 (szI (puTo us hs k)) ∧ Hid (uniB m (puTo us hs k) = true) ∧ Ext w1 wr) (fun _ iv _ => N - (intOf iv).toNat)
  case atStart => exact ⟨0, Nat.zero_le _, rfl, rfl, rfl, ext_refl _⟩
  case round =>
    obtain ⟨k, hk, rfl, rfl, hun, hx⟩ := hrel
    by_cases hlt : k < N
    · have hkh : k < hs.length := by rw [HHL.out]; exact hlt
      have hku : k < us.length := by rw [HUL.out]; exact hlt
      obtain ⟨bh, oh, hB, hcl⟩ := (RBools.ext HH1.out hx).get k hkh
      obtain ⟨bu, ou, hD, hcu⟩ := (RStrs.ext HU1.out hx).get k hku
      subst hB hD
      have hps := puTo_succ us hs k
      have hgd : hs.getD k false = hs[k] := by simp [hkh]
      have hgu : us.getD k ByteArray.empty = us[k] := by simp [hku]
      have i1 : (0 : Int) ≤ (k : Int) := by omega
      have i2 : (k : Int) < (N : Int) := by omega
      rw [hgd, hgu] at hps
      cases hb : hs[k] with
      | false =>
        rw [hb] at hcl hps
        have HPN : Hid (puTo us hs (k + 1) = puTo us hs k) := by show _ = _; rw [hps]; rfl
        have HUN : Hid (uniB m (puTo us hs (k + 1)) = true) := by show _ = _; rw [HPN.out]; exact hun.out
        have hsz' : szI (puTo us hs k) = szI (puTo us hs (k + 1)) := by rw [HPN.out]
        rw [hsz']
        clear hps hgd hgu hb hsz'
        go_wp2_with fail
        go_roundw
        case rel => exact ⟨k + 1, by omega, by simp, rfl, HUN, hx⟩
        case measure => simp [intOf]; omega
      | true =>
        rw [hb] at hcl hps
        obtain ⟨u, hue⟩ : ∃ u, u = us[k] := ⟨_, rfl⟩
        rw [← hue] at hcu hps
        have hul : u.size ≤ 140737488355328 := by have := HSZ.out u (by rw [hue]; exact List.getElem_mem _); rwa [lim_val] at this
        have HPN : Hid (puTo us hs (k + 1) = puTo us hs k ++ [u]) := by show _ = _; rw [hps]; rfl
        obtain ⟨d0, d1, d2, d3, d4⟩ := HC1.out.ext hx
        obtain ⟨P, hP⟩ : ∃ P, P = puTo us hs k := ⟨_, rfl⟩
        rw [← hP] at HPN hun ⊢
        have HBAD : Hid (uniB m (P ++ [u]) = false → uniB m (puTo us hs hs.length) = false) := by
          show _ → _
          intro h
          rw [← HPN.out] at h
          exact uniB_bad (by rw [HHL.out]; omega) h
        clear hps hgd hgu hb hue hP
        have HM8 := HM.out
        cases P with
        | nil =>
          rw [List.nil_append, uniB_one] at HBAD
          rw [List.nil_append] at HPN
          have hszn : szI (puTo us hs (k + 1)) = (u.size : Int) := by rw [HPN.out]; rfl
          have t4 : ((u.size : Int) != (u.size : Int)) = false := by simp
          rw [show szI [] = -1 from rfl]
          rcases HM8 with hm8 | hm16
          · have t5 : ((m : Int) == 16) = false := by rw [hm8]; rfl
            have HUN : Hid (uniB m (puTo us hs (k + 1)) = true) := by show _ = _; rw [HPN.out, uniB_one, hm8]; rfl
            clear hm8
            go_wp2_with fail
            go_roundw
            case rel => exact ⟨k + 1, by omega, by simp, by rw [hszn], HUN, hx⟩
            case measure => simp [intOf]; omega
          · have t5 : ((m : Int) == 16) = true := by rw [hm16]; rfl
            by_cases hev : u.size % 2 = 0
            · have t6 : ((u.size : Int) % 2 == 1) = false := by rw [beq_eq_false_iff_ne]; omega
              have HUN : Hid (uniB m (puTo us hs (k + 1)) = true) := by show _ = _; rw [HPN.out, uniB_one, decide_eq_true hev, Bool.or_true]
              clear hm16 hev
              go_wp2_with fail
              go_roundw
              case rel => exact ⟨k + 1, by omega, by simp, by rw [hszn], HUN, hx⟩
              case measure => simp [intOf]; omega
            · have t6 : ((u.size : Int) % 2 == 1) = true := by rw [beq_iff_eq]; omega
              have HF : Hid (uniB m (puTo us hs hs.length) = false) := HBAD.out (by
                rw [decide_eq_false hev, Bool.or_false, hm16]; rfl)
              clear hm16 hev
              go_wp2_with fail
              go_ret
              exact ⟨ret_bool (by rw [← HHL.out]; exact HF.out.symm), ext_trans hx2.out hx⟩
        | cons p P =>
          have hszn : szI (puTo us hs (k + 1)) = (p.size : Int) := by rw [HPN.out]; rfl
          have hpe : m = 8 ∨ p.size % 2 = 0 := by
            have h := hun.out
            simp only [uniB, List.all_cons, uniOne, Bool.and_eq_true, Bool.or_eq_true, decide_eq_true_eq] at h
            exact h.1.2.imp (fun h => by omega) id
          have hgrow : uniB m (p :: P ++ [u]) = uniOne m p.size u := by
            rw [uniB_snoc m (p :: P) u (by simp), hun.out, Bool.true_and]
            rfl
          rw [hgrow] at HBAD
          rw [show szI (p :: P) = (p.size : Int) from rfl]
          by_cases hsz : u.size = p.size
          · have t4 : ((u.size : Int) != (p.size : Int)) = false := by simp [hsz]
            have HUN : Hid (uniB m (puTo us hs (k + 1)) = true) := by
              show _ = _
              rw [HPN.out, hgrow]
              unfold uniOne
              rw [decide_eq_true hsz, Bool.true_and]
              rcases hpe with h | h
              · rw [h]; rfl
              · rw [hsz, decide_eq_true h, Bool.or_true]
            rcases hpe with h | h
            · have t5 : ((m : Int) == 16) = false := by rw [h]; rfl
              clear h hsz HM8
              go_wp2_with fail
              go_roundw
              case rel => exact ⟨k + 1, by omega, by simp, by rw [hszn], HUN, hx⟩
              case measure => simp [intOf]; omega
            · have t6 : ((p.size : Int) % 2 == 1) = false := by rw [beq_eq_false_iff_ne]; omega
              rcases HM8 with hm8 | hm16
              · have t5 : ((m : Int) == 16) = false := by rw [hm8]; rfl
                clear h hsz hm8
                go_wp2_with fail
                go_roundw
                case rel => exact ⟨k + 1, by omega, by simp, by rw [hszn], HUN, hx⟩
                case measure => simp [intOf]; omega
              · have t5 : ((m : Int) == 16) = true := by rw [hm16]; rfl
                clear h hsz hm16
                go_wp2_with fail
                go_roundw
                case rel => exact ⟨k + 1, by omega, by simp, by rw [hszn], HUN, hx⟩
                case measure => simp [intOf]; omega
          · have t4 : ((u.size : Int) != (p.size : Int)) = true := by simp; omega
            have HF : Hid (uniB m (puTo us hs hs.length) = false) := HBAD.out (by
              unfold uniOne
              rw [decide_eq_false hsz, Bool.false_and])
            clear hsz HM8 hpe
            go_wp2_with fail
            go_ret
            exact ⟨ret_bool (by rw [← HHL.out]; exact HF.out.symm), ext_trans hx2.out hx⟩
    · obtain rfl : k = N := by omega
      go_wp2_with fail
      go_ret
      exact ⟨ret_bool hun.out.symm, ext_trans hx2.out hx⟩

theorem r8fit_any (nm : ByteArray) (f d dm : Int) (par : List (List Int)) (vp vu vh : Value) (us : List ByteArray) (hs : List Bool) (w : World) (hp : RRows w vp par) (hu : RStrs w vu us) (hh : RBools w vh hs) (hsz : ∀ u ∈ us, u.size ≤ lim) (hd1 : d ≤ 12) :
    Calls Tryd.prog 61 #[vCd nm f d vp dm, vu, vh] w (Ret w (.bool (fitB f d par us hs))) := by
  cases hok : okB f d par with
  | false =>
    have e : fitB f d par us hs = false := by unfold fitB; rw [hok]; rfl
    rw [e]
    exact r8fit_len nm f d dm par vp vu vh us hs w hp hu hh hd1 (.inl (by unfold widthI; rw [hok]; rfl))
  | true =>
    obtain ⟨m, n, rfl, rfl, hm, hn1, hn2, -⟩ := okB_facts hok
    have hw : widthI m n par = (n : Int) + par.length := by unfold widthI; rw [hok]; rfl
    by_cases h1 : hs.length = n + par.length
    · by_cases h2 : us.length = n + par.length
      · have e : fitB m n par us hs = uniB m (puTo us hs hs.length) := by
          unfold fitB
          rw [hok, decide_eq_true (by omega), decide_eq_true (by omega)]
          rfl
        rw [e]
        exact r8fit_ok nm m n dm par vp vu vh us hs w hp hu hh hsz (by omega) hok h1 h2
      · have e : fitB m n par us hs = false := by
          unfold fitB
          rw [hok, decide_eq_false (by omega)]
          rfl
        rw [e]
        exact r8fit_len nm m n dm par vp vu vh us hs w hp hu hh (by omega) (.inr (.inr ⟨by rw [hw]; omega, by rw [hw]; omega, by rw [hw]; omega⟩))
    · have e : fitB m n par us hs = false := by
        unfold fitB
        rw [decide_eq_false (show ¬ (hs.length : Int) = (n : Int) + par.length by omega)]
        simp
      rw [e]
      exact r8fit_len nm m n dm par vp vu vh us hs w hp hu hh (by omega) (.inr (.inl ⟨by rw [hw]; omega, by rw [hw]; omega⟩))

end Go.Proofs.YtgflflpeilfinaaDoor
