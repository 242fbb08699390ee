/- The walk of erasure.Basis. -/
import Derived.Test.YtgflflpeilfinaaDoorMatP
import Derived.Test.YtgflflpeilfinaaDoorLinA
import Derived.Test.YtgflflpeilfinaaDoorLinB
set_option linter.unusedVariables false
set_option linter.unusedSimpArgs false
set_option linter.unusedSectionVars false
namespace Go.Proofs.YtgflflpeilfinaaDoor
open Go.RowKit

/-- Row u of the generator, and its elements. -/
def gRow (n : Nat) (par : List (List Int)) (u : Nat) : List Nat := natRow (rowOf n par u)
def gEl (n : Nat) (par : List (List Int)) (u q : Nat) : Nat := ate (gRow n par u) q
/-- The present units, among the first k. -/
def presTo (hs : List Bool) (k : Nat) : List Nat := (List.range k).filter fun i => hs.getD i false
def presL (hs : List Bool) : List Nat := presTo hs hs.length
def basisL (m n : Nat) (par : List (List Int)) (hs : List Bool) : List Nat :=
  (indep m (presL hs).length n fun i q => gEl n par ((presL hs).getD i 0) q).map fun i => (presL hs).getD i 0

theorem presTo_succ (hs : List Bool) (k : Nat) : presTo hs (k + 1) = if hs.getD k false then presTo hs k ++ [k] else presTo hs k := by
  unfold presTo
  rw [List.range_succ, List.filter_append]
  cases h : hs.getD k false
  · rw [if_neg (by simp)]; simp only [List.filter_cons, h, Bool.false_eq_true, if_false, List.filter_nil, List.append_nil]
  · rw [if_pos rfl]; simp only [List.filter_cons, h, if_true, List.filter_nil]
theorem presTo_lt {hs : List Bool} {k : Nat} : ∀ i ∈ presTo hs k, i < k ∧ hs.getD i false = true := fun i hi => by
  have := List.mem_filter.1 hi
  exact ⟨List.mem_range.1 this.1, this.2⟩
theorem presTo_len (hs : List Bool) (k : Nat) : (presTo hs k).length ≤ k := by
  unfold presTo
  have := List.length_filter_le (fun i => hs.getD i false) (List.range k)
  simpa using this
theorem presL_inc (hs : List Bool) : (presL hs).Pairwise (· < ·) := List.pairwise_lt_range.filter _
theorem mem_presL {hs : List Bool} {u : Nat} : u ∈ presL hs ↔ hs.getD u false = true := by
  unfold presL presTo
  rw [List.mem_filter, List.mem_range]
  constructor
  · exact fun h => h.2
  · intro h
    refine ⟨?_, h⟩
    rcases Nat.lt_or_ge u hs.length with h1 | h1
    · exact h1
    · rw [List.getD_eq_getElem?_getD, List.getElem?_eq_none h1] at h; simp at h

theorem rowOf_elem {m n : Nat} {par : List (List Int)} (hm : Fm m) (hrows : ∀ row ∈ par, row.length = n ∧ row.all (elemB m) = true) {u : Nat} (hu : u < n + par.length) : (rowOf n par u).all (elemB m) = true := by
  by_cases h : u < n
  · rw [rowOf_low h, List.all_map, List.all_eq_true]
    intro j _
    by_cases e : u = j
    · rw [Function.comp, if_pos e]; rcases hm with rfl | rfl <;> rfl
    · rw [Function.comp, if_neg e]; rcases hm with rfl | rfl <;> rfl
  · rw [rowOf_high (by omega) (by omega)]
    exact (hrows _ (List.getElem_mem _)).2
section
variable {m n : Nat} {par : List (List Int)} (hm : Fm m) (hrows : ∀ row ∈ par, row.length = n ∧ row.all (elemB m) = true)
include hm hrows
theorem gRow_bd {u : Nat} (hu : u < n + par.length) : Bl m (gRow n par u) := (natRow_of (rowOf_elem hm hrows hu)).2
theorem gRow_len {u : Nat} (hu : u < n + par.length) : (gRow n par u).length = n := by
  unfold gRow natRow
  rw [List.length_map]
  exact rowOf_length (fun row h => (hrows row h).1) hu
theorem gRow_ints {u : Nat} (hu : u < n + par.length) : nints (gRow n par u) = rowOf n par u := (natRow_of (rowOf_elem hm hrows hu)).1
theorem gEl_lt {u : Nat} (hu : u < n + par.length) (q : Nat) : gEl n par u q < 2 ^ m := (gRow_bd hm hrows hu).ate q
theorem genL_flat : genL n par = nints (flatM (n + par.length) n (gEl n par)) := by
  unfold genL genTo flatM nints
  rw [List.map_flatMap]
  have : ∀ l : List Nat, (∀ u ∈ l, u < n + par.length) → l.flatMap (rowOf n par) = l.flatMap fun u => List.map (fun x : Nat => (x : Int)) ((List.range n).map (gEl n par u)) := by
    intro l
    induction l with
    | nil => intro _; rfl
    | cons a l ih =>
      intro h
      rw [List.flatMap_cons, List.flatMap_cons, ih (fun u hu => h u (by simp [hu]))]
      congr 1
      have ha := h a (by simp)
      rw [← gRow_ints hm hrows ha]
      unfold nints
      congr 1
      apply List.ext_getElem
      · simp [gRow_len hm hrows ha]
      · intro q h1 h2
        simp only [List.getElem_map, List.getElem_range, gEl]
        rw [ate_get h1]
  exact this _ (fun u hu => List.mem_range.1 hu)
end
theorem RBools.get {w : World} {A : Option Addr} {n c : Nat} {xs : List Bool} (h : RBools w (.slice A n c) xs) (k : Nat) (hk : k < xs.length) : ∃ b o, A = some ⟨b, o, none⟩ ∧ w.cell? ⟨b, o + k, none⟩ = some (.bool xs[k]) := by
  obtain ⟨A', c', e, hl, hs⟩ := h
  injection e with e1 e2 e3
  subst e1
  obtain ⟨b, o, h1, h2⟩ := hs.get (by simp; omega)
  exact ⟨b, o, h1, by rw [h2 k (by simpa using hk)]; simp⟩

set_option maxHeartbeats 400000 in
theorem basis_err1 (nm : ByteArray) (f d dm : Int) (par : List (List Int)) (vp vh : Value) (w : World) (hl : Laid w) (hp : RRows w vp par) (hd0 : -9223372036854775808 ≤ d) (hd1 : d ≤ 9223372036854775807) (hok : okB f d par = false) :
    Calls Tryd.prog 28 #[vCd nm f d vp dm, vh] w (Ret w (.tuple #[.slice none 0 0, .int .i64 1])) := by
  have HP := Lib.hid hp
  have HK := Lib.hid hok
  obtain ⟨A, c, rfl, hlen, hvc⟩ := hp.form
  clear hp hok
  have hx0 : Ext w (w.alloc (.cells #[.string nm, .int .i64 f, .int .i64 d, .slice A par.length c, .int .i64 dm] 24)) := ext_alloc (ext_refl w) _
  go_enter Tryd.func28, Tryd.ntmps28
  go_wp2_with fail
  refine (eragen_err nm f d dm par _ _ (hl.ext hx0) (HP.out.ext hx0) hd0 hd1 HK.out).mono ?_
  rintro e w1 ⟨rfl, hx1⟩
  go_wp2_with fail
  go_ret2
  exact ⟨rfl, ext_alloc (ext_trans hx0 hx1) _⟩

set_option maxRecDepth 100000 in
set_option maxHeartbeats 1000000 in
theorem basis_err2 (nm : ByteArray) (m n : Nat) (dm : Int) (par : List (List Int)) (vp vh : Value) (hs : List Bool) (w : World) (hl : Laid w) (hp : RRows w vp par) (hh : RBools w vh hs) (hok : okB m n par = true) (hne : hs.length ≠ n + par.length) :
    Calls Tryd.prog 28 #[vCd nm m n vp dm, vh] w (Ret w (.tuple #[.slice none 0 0, .int .i64 1])) := by
  have HP := Lib.hid hp
  have HK := Lib.hid hok
  obtain ⟨A, c, rfl, hlen, hvc⟩ := hp.form
  obtain ⟨B, cB, rfl, hlB, -⟩ := hh
  rw [List.length_map] at hlB ⊢
  rw [lim_val] at hlB
  obtain ⟨N, hN⟩ : ∃ N, N = n + par.length := ⟨_, rfl⟩
  have t1 : ((hs.length : Int) != (N : Int)) = true := by simp; omega
  have HN := Lib.hid hN
  clear hp hok hne hN
  have hx0 : Ext w (w.alloc (.cells #[.string nm, .int .i64 m, .int .i64 n, .slice A par.length c, .int .i64 dm] 24)) := ext_alloc (ext_refl w) _
  go_enter Tryd.func28, Tryd.ntmps28
  go_wp2_with fail
  refine (eragen_ok nm m n dm par _ _ (hl.ext hx0) (HP.out.ext hx0) HK.out).mono ?_
  rintro e w1 ⟨v', rfl, ho, hx1⟩
  obtain ⟨A2, cc, rfl, -⟩ := own_seg ho (by omega)
  rw [← HN.out]
  clear ho
  go_wp2_with fail
  go_ret2
  exact ⟨rfl, ext_alloc (ext_trans hx0 hx1) _⟩

set_option maxRecDepth 100000 in
set_option maxHeartbeats 2000000 in
theorem basis_ok (nm : ByteArray) (m n : Nat) (dm : Int) (par : List (List Int)) (vp vh : Value) (hs : List Bool) (w : World) (hl : Laid w) (hp : RRows w vp par) (hh : RBools w vh hs) (hok : okB m n par = true) (hN : hs.length = n + par.length) :
    Calls Tryd.prog 28 #[vCd nm m n vp dm, vh] w fun e w' => ∃ v', e = .returned (.tuple #[v', .int .i64 0]) ∧ w'.ownsRow w.heap.size 3 1 v' (basisL m n par hs).length (nvs (basisL m n par hs)) ∧ Ext w w' := by
  have HP := Lib.hid hp
  have HK := Lib.hid hok
  have HH := Lib.hid hh
  obtain ⟨A, c, rfl, hlen, hvc⟩ := hp.form
  obtain ⟨B, cB, rfl, hlB, -⟩ := hh
  rw [List.length_map] at hlB HH ⊢
  rw [lim_val] at hlB
  obtain ⟨m', n', em, en, hm, hn1, hn2, hrows⟩ := okB_facts hok
  obtain rfl : m = m' := by omega
  obtain rfl : n = n' := by omega
  have hrw : ∀ row ∈ par, row.length = n ∧ row.all (elemB m) = true := fun row h => ⟨(hrows row h).1, (hrows row h).2.1⟩
  have HRW := Lib.hid hrw
  have HM := Lib.hid hm
  obtain ⟨N, hNN⟩ : ∃ N, N = hs.length := ⟨_, rfl⟩
  have t1 : ((N : Int) != (N : Int)) = false := by simp
  have HNP : Hid (n + par.length = N) := by show _ = _; omega
  have HNH := Lib.hid hNN
  have hN32 : N ≤ 32 := by omega
  have hn0 : 0 < n := hn1
  rw [← hNN] at HH ⊢
  clear hp hok hrows hrw hm hN hNN em en hlB
  have hx0 : Ext w (w.alloc (.cells #[.string nm, .int .i64 m, .int .i64 n, .slice A par.length c, .int .i64 dm] 24)) := ext_alloc (ext_refl w) _
  go_enter Tryd.func28, Tryd.ntmps28
  go_wp2_with fail
  refine (eragen_ok nm m n dm par _ _ (hl.ext hx0) (HP.out.ext hx0) HK.out).mono ?_
  rintro e w1 ⟨v', rfl, ho, hx1⟩
  obtain ⟨A2, cc, rfl, -⟩ := own_seg ho (by omega)
  rw [HNP.out] at ho ⊢
  have HG := Lib.hid ho
  have hx2 := ext_trans hx0 hx1
  clear ho
  have hx3 : Ext w1 (w1.alloc (.cells #[.int .i64 m, .int .i64 N, .int .i64 n, .slice A2 (N * n) cc] 31)) := ext_alloc (ext_refl w1) _
  have hG0 := row_alloc w1 #[.int .i64 m, .int .i64 N, .int .i64 n, .slice A2 (N * n) cc] 31 w1.heap.size rfl
  obtain ⟨W1, hW1⟩ : ∃ W1, W1 = w1.alloc (.cells #[.int .i64 m, .int .i64 N, .int .i64 n, .slice A2 (N * n) cc] 31) := ⟨_, rfl⟩
  go_wp2_with fail
  rw [← hW1] at hx3 hG0 ⊢
  clear hW1
  have hx4 := ext_trans hx2 hx3
  obtain ⟨G, hGe⟩ : ∃ G, G = w1.heap.size := ⟨_, rfl⟩
  rw [← hGe] at hG0 ⊢
  have g0 := row_cell hG0 0 (v := .int .i64 m) rfl
  have g1 := row_cell hG0 1 (v := .int .i64 N) rfl
  have g2 := row_cell hG0 2 (v := .int .i64 n) rfl
  have g3 := row_cell hG0 3 (v := .slice A2 (N * n) cc) rfl
  have HG1 := Lib.hid (own_ext HG.out hx3)
  have HH1 := Lib.hid (RBools.ext HH.out hx4)
  have hl1 := Lib.hid (hl.ext hx4)
  clear hx3 hG0 HG hx1 hx2 hx0 hGe
  go_loopw [8, 32] (fun v iv wr => ∃ k : Nat, k ≤ N ∧ iv = .int .i64 k ∧ Hid (wr.ownsRow W1.heap.size 3 1 v (presTo hs k).length (nvs (presTo hs k))) ∧ Ext W1 wr) (fun _ iv _ => N - (intOf iv).toNat)
  case atStart => exact ⟨0, Nat.zero_le _, rfl, own_nil' _ _ _ _, ext_refl _⟩
  case round =>
    obtain ⟨k, hk, rfl, ho, hx⟩ := hrel
    by_cases hlt : k < N
    · obtain ⟨b, o, hA, hcl⟩ := HH1.out.get k (by rw [← HNH.out]; exact hlt)
      subst hA
      have hcl2 := ext_cell hx hcl
      have hkh : k < hs.length := by rw [← HNH.out]; exact hlt
      have hPS : Hid (presTo hs (k + 1) = if hs[k] then presTo hs k ++ [k] else presTo hs k) := by
        show _ = _
        rw [presTo_succ, show hs.getD k false = hs[k] by simp [hkh]]
      have hpl := presTo_len hs k
      cases hb : hs[k] with
      | false =>
        rw [hb] at hcl2 hPS
        have HON : Hid (wr.ownsRow W1.heap.size 3 1 u8 (presTo hs (k + 1)).length (nvs (presTo hs (k + 1)))) := by
          show World.ownsRow _ _ _ _ _ _ _
          rw [hPS.out]; exact ho.out
        clear hcl hb
        go_wp2_with fail
        go_roundw
        case rel => exact ⟨k + 1, by omega, by simp, HON, hx⟩
        case measure => simp [intOf]; omega
      | true =>
        rw [hb] at hcl2 hPS
        obtain ⟨A3, c3, rfl, -⟩ := own_seg ho.out (by omega)
        clear hcl hb
        have HO1 : Hid ((wr.alloc (.cells #[.int .i64 (k : Int)] 3)).ownsRow W1.heap.size 3 1 (.slice A3 (presTo hs k).length c3) (presTo hs k).length (nvs (presTo hs k))) := own_ext ho.out (ext_alloc (ext_refl wr) _)
        have hsz := hx.size
        go_wp2_with (at_builtin; refine wpList_app rfl _ _ 29 rfl W1.heap.size 3 _ 1 8 Tryd.underlying29 info_int rfl (by omega) _ (presTo hs k).length (nvs (presTo hs k)) rfl HO1.out (some ⟨wr.heap.size, 0, none⟩) 1 1 [.int .i64 (k : Int)] rfl (by simp) (seg_new _ _ _) (by simp [Value.oneCell']) (by simp only [maxLen]; omega) (by omega) (by simp; omega) ?_; intro v7 w7 hown hgrow hat)
        have hx7 := ext_grown (ext_alloc hx (.cells #[.int .i64 (k : Int)] 3)) hgrow (fun i hi => own_base' HO1.out i hi)
        have HON : Hid (w7.ownsRow W1.heap.size 3 1 v7 (presTo hs (k + 1)).length (nvs (presTo hs (k + 1)))) := by
          show World.ownsRow _ _ _ _ _ _ _
          rw [hPS.out]
          simp only [if_true]
          simpa [nvs, nints, ivs] using hown
        clear hown hgrow hat
        go_wp2_with fail
        go_roundw
        case rel => exact ⟨k + 1, by omega, by simp, HON, hx7⟩
        case measure => simp [intOf]; omega
    · have hk' : N = k := by omega
      subst hk'
      have HPL : Hid (presTo hs N = presL hs) := by show _ = _; unfold presL; rw [← HNH.out]
      rw [HPL.out] at ho
      have hpl : (presL hs).length ≤ 32 := by have := presTo_len hs N; rw [HPL.out] at this; omega
      obtain ⟨A3, c3, rfl, -⟩ := own_seg ho.out (by omega)
      obtain ⟨P, hP⟩ : ∃ P, P = presL hs := ⟨_, rfl⟩
      have HPE := Lib.hid hP
      rw [← hP] at ho hpl ⊢
      have hbase := hx4.size
      have e0 := ext_cell hx g0
      have e1 := ext_cell hx g1
      have e2 := ext_cell hx g2
      have e3 := ext_cell hx g3
      clear hP HPL
      by_cases hp0 : P.length = 0
      · have HB0 : Hid (basisL m n par hs = []) := by
          show _ = _
          unfold basisL
          rw [← HPE.out, List.eq_nil_of_length_eq_zero hp0]
          simp [indep, redTo]
        rw [hp0]
        clear ho
        go_wp2_with fail
        go_ret2
        refine ⟨_, rfl, ?_, ext_trans hx4 hx⟩
        rw [HB0.out]
        exact own_nil' _ _ _ _
      · have t2 : ((P.length : Int) == 0) = false := by simpa using hp0
        have hPR : ∀ i ∈ P, i < N := by
          intro i hi
          rw [HPE.out] at hi
          have := (presTo_lt i hi).1
          rw [HNH.out]; exact this
        have HPR := Lib.hid hPR
        have hGEL : Hid (∀ p q, p < N → q < n → gEl n par p q < 2 ^ m) := fun p q hp hq => gEl_lt HM.out HRW.out (by have := HNP.out; omega) q
        have HFL : Hid (ivs (genL n par) = ivs (nints (flatM N n (gEl n par)))) := by show _ = _; rw [genL_flat HM.out HRW.out, HNP.out]
        have HPK := Lib.hid fun W h1 h2 => matPick_any m N n (gEl n par) HM.out hN32 (by omega) hn0 (by have := HNP.out; omega) hGEL.out (.slice A2 (N * n) cc) (.slice A3 P.length c3) (fun a n' c' e => by
          rcases HG1.out.2 with ⟨h1, h2⟩ | ⟨g, cap, cur, h1, _, _, h3, h4, _⟩
          · rw [h1] at e; injection e with e1 e2 e3; subst e2 e3; exact ⟨Nat.le_refl _, Nat.zero_le _⟩
          · rw [h1] at e; injection e with e1 e2 e3; subst e2 e3; exact ⟨h3, h4⟩) P hpl HPR.out W h1 h2
        have HVG : Hid (RInts wr (.slice A2 (N * n) cc) (nints (flatM N n (gEl n par)))) := by
          have h1 := own_sl HG1.out (by rw [lim_val, HFL.out, show ivs (nints (flatM N n (gEl n par))) = nvs (flatM N n (gEl n par)) from rfl, nvs_len, flatM_len]; have := Nat.mul_le_mul hN32 (show n ≤ 32 by omega); omega)
          rw [HFL.out] at h1
          exact RInts.ext h1 hx
        have HVP : Hid (RInts wr (.slice A3 P.length c3) (nints P)) := own_sl ho.out (by have := nvs_len P; rw [lim_val]; show (nvs P).length ≤ _; omega)
        have HIND := Lib.hid fun v W h1 h2 h3 => matInd_any m P.length n (fun p q => gEl n par (P.getD p 0) q) HM.out hpl (by omega) hn0 (by omega) (fun p q hp hq => hGEL.out _ q (by
          rw [show P.getD p 0 = P[p] by simp [hp]]
          exact HPR.out _ (List.getElem_mem _)) hq) v h1 W h2 h3
        have hlr := Lib.hid (hl1.out.ext hx)
        have hx5 := Lib.hid (ext_trans hx4 hx)
        clear hPR hp0
        go_wp2_with fail
        refine (HPK.out _ HVG.out HVP.out).mono ?_
        rintro e w2 ⟨v2, rfl, ho2, hx6⟩
        obtain ⟨A4, c4, rfl, -⟩ := own_seg ho2 (by omega)
        have HO2 := Lib.hid ho2
        clear ho2
        go_wp2_with fail
        refine (HIND.out (.slice A4 (P.length * n) c4) _ (fun a n' c' e => by
          rcases HO2.out.2 with ⟨h1, h2⟩ | ⟨g, cap, cur, h1, _, _, h3, h4, _⟩
          · rw [h1] at e; injection e with e1 e2 e3; subst e2 e3; exact ⟨Nat.le_refl _, Nat.zero_le _⟩
          · rw [h1] at e; injection e with e1 e2 e3; subst e2 e3; exact ⟨h3, h4⟩) ((hlr.out.ext hx6).ext (ext_alloc (ext_refl _) _)) (RInts.ext (own_sl HO2.out (by have h1 := nvs_len (flatM P.length n fun p q => gEl n par (P.getD p 0) q); rw [flatM_len] at h1; have := Nat.mul_le_mul hpl (show n ≤ 32 by omega); rw [lim_val]; show (nvs _).length ≤ _; omega)) (ext_alloc (ext_refl _) _))).mono ?_
        rintro e w3 ⟨v3, rfl, ho3, hx7⟩
        obtain ⟨I, hI⟩ : ∃ I, I = indep m P.length n (fun p q => gEl n par (P.getD p 0) q) := ⟨_, rfl⟩
        rw [← hI] at ho3
        have hIB : ∀ i ∈ I, i < P.length := fun i hi => List.mem_range.1 ((indep_facts HM.out (fun p q hp hq => hGEL.out _ q (by
          rw [show P.getD p 0 = P[p] by simp [hp]]
          exact HPR.out _ (List.getElem_mem _)) hq) hI).sub i hi)
        have hIl : I.length ≤ 32 := by
          have : I.length ≤ n := by
            rw [hI]
            exact redTo_len HM.out (fun p q hp hq => hGEL.out _ p (by
              rw [show P.getD q 0 = P[q] by simp [hq]]
              exact HPR.out _ (List.getElem_mem _)) hp)
          omega
        have HIB := Lib.hid hIB
        have HBE : Hid (basisL m n par hs = I.map fun i => P.getD i 0) := by show _ = _; unfold basisL; rw [← HPE.out, hI]
        have ho3' := Lib.hid ho3
        have HVI : Hid (RInts w3 v3 (nints I)) := own_sl ho3'.out (by have h1 := nvs_len I; rw [lim_val]; show (nvs I).length ≤ _; omega)
        obtain ⟨A5, c5, rfl, -⟩ := own_seg ho3'.out (by omega)
        have HVP3 : Hid (RInts w3 (.slice A3 P.length c3) (nints P)) := RInts.ext (RInts.ext HVP.out (ext_alloc hx6 _)) hx7
        have hx8 := ext_trans (ext_trans hx5.out (ext_alloc hx6 _)) hx7
        have hbase3 := hx8.size
        clear hI ho3 hIB ho3' hx6 hx7 ho hx
        go_wp2_with fail
        go_loopw [13, 55] (fun v iv w4 => ∃ k : Nat, k ≤ I.length ∧ iv = .int .i64 k ∧ Hid (w4.ownsRow w3.heap.size 3 1 v k (nvs ((I.take k).map fun i => P.getD i 0))) ∧ Ext w3 w4) (fun _ iv _ => I.length - (intOf iv).toNat)
        case atStart => exact ⟨0, Nat.zero_le _, rfl, own_nil' _ _ _ _, ext_refl _⟩
        case round =>
          obtain ⟨k, hk, rfl, ho, hx⟩ := hrel
          obtain ⟨A6, c6, rfl, -⟩ := own_seg ho.out (by omega)
          by_cases hlt : k < I.length
          · obtain ⟨b, o, hA, hcl⟩ := HVI.out.get k (by simpa [nints] using hlt)
            subst hA
            obtain ⟨x, hxe⟩ : ∃ x, x = I[k] := ⟨_, rfl⟩
            have hxP : x < P.length := by rw [hxe]; exact HIB.out _ (List.getElem_mem _)
            have hcl2 : wr.cell? ⟨b, o + k, none⟩ = some (.int .i64 (x : Nat)) := ext_cell hx (by rw [hcl, hxe]; simp [nints])
            obtain ⟨b3, o3, hA3, hcp⟩ := HVP3.out.get x (by simpa [nints] using hxP)
            subst hA3
            obtain ⟨y, hye⟩ : ∃ y, y = P[x] := ⟨_, rfl⟩
            have hcp2 : wr.cell? ⟨b3, o3 + x, none⟩ = some (.int .i64 (y : Nat)) := ext_cell hx (by rw [hcp, hye]; simp [nints])
            have HTK : Hid (nvs ((I.take (k + 1)).map fun i => P.getD i 0) = nvs ((I.take k).map fun i => P.getD i 0) ++ [.int .i64 (y : Int)]) := by
              show _ = _
              rw [List.take_succ_eq_append_getElem hlt, List.map_append, ← hxe, hye]
              simp [nvs, nints, ivs, hxP]
            clear hcl hxe hcp hye
            have HO1 : Hid ((wr.alloc (.cells #[.int .i64 (y : Int)] 3)).ownsRow w3.heap.size 3 1 (.slice A6 k c6) k (nvs ((I.take k).map fun i => P.getD i 0))) := own_ext ho.out (ext_alloc (ext_refl wr) _)
            have hsz := hx.size
            go_wp2_with (at_builtin; refine wpList_app rfl _ _ 29 rfl w3.heap.size 3 _ 1 8 Tryd.underlying29 info_int rfl (by omega) _ k (nvs ((I.take k).map fun i => P.getD i 0)) rfl HO1.out (some ⟨wr.heap.size, 0, none⟩) 1 1 [.int .i64 (y : Int)] rfl (by simp) (seg_new _ _ _) (by simp [Value.oneCell']) (by simp only [maxLen]; omega) (by omega) (by simp; omega) ?_; intro v7 w7 hown hgrow hat)
            have hx9 := ext_grown (ext_alloc hx (.cells #[.int .i64 (y : Int)] 3)) hgrow (fun i hi => own_base' HO1.out i hi)
            have HON : Hid (w7.ownsRow w3.heap.size 3 1 v7 (k + 1) (nvs ((I.take (k + 1)).map fun i => P.getD i 0))) := by
              show World.ownsRow _ _ _ _ _ _ _
              rw [HTK.out]; exact hown
            clear hown hgrow hat
            go_wp2_with fail
            go_roundw
            case rel => exact ⟨k + 1, by omega, by simp, HON, hx9⟩
            case measure => simp [intOf]; omega
          · have hk' : I.length = k := by omega
            have HOF : Hid (wr.ownsRow w.heap.size 3 1 (.slice A6 k c6) (basisL m n par hs).length (nvs (basisL m n par hs))) := by
              show World.ownsRow _ _ _ _ _ _ _
              have := own_le hbase3 ho.out
              rw [← hk', List.take_length] at this
              rw [HBE.out, List.length_map, ← hk']
              exact this
            have hxf := ext_trans hx8 hx
            clear hk'
            go_wp2_with fail
            go_ret2
            exact ⟨_, rfl, HOF.out, hxf⟩

end Go.Proofs.YtgflflpeilfinaaDoor
