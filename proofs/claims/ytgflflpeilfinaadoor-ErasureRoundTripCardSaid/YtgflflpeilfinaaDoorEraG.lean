/- The walk of erasure.Generator. -/
import Derived.Test.YtgflflpeilfinaaDoorGenP
import Derived.Deep.RegionHeld3
set_option linter.unusedVariables false
set_option linter.unusedSimpArgs false
namespace Go.Proofs.YtgflflpeilfinaaDoor
open Go.RowKit

set_option maxHeartbeats 400000 in
theorem eragen_err (nm : ByteArray) (f d dm : Int) (par : List (List Int)) (vp : Value) (w : World) (hl : Laid w) (hp : RRows w vp par) (hd0 : -9223372036854775808 ≤ d) (hd1 : d ≤ 9223372036854775807) (hok : okB f d par = false) :
    Calls Tryd.prog 14 #[vCd nm f d vp dm] w (Ret w (.tuple #[.agg #[.int .i64 0, .int .i64 0, .int .i64 0, .slice none 0 0], .int .i64 1])) := by
  have HP := Lib.hid hp
  obtain ⟨A, c, rfl, hlen, hvc⟩ := hp.form
  clear hp
  have hx0 : Ext w ((w.alloc (.cells #[.string nm, .int .i64 f, .int .i64 d, .slice A par.length c, .int .i64 dm] 24)).alloc (.cells #[.int .i64 0, .int .i64 0, .int .i64 0, .slice none 0 0] 31)) := ext_alloc (ext_alloc (ext_refl w) _) _
  have HW := Lib.hid hok
  clear hok
  go_enter Tryd.func14, Tryd.ntmps14
  go_wp2_with fail
  refine (eraValid_any nm f d dm par _ _ (hl.ext hx0) (HP.out.ext hx0) hd0 hd1).mono ?_
  rintro e w1 ⟨rfl, hx1⟩
  rw [HW.out]
  have HR := row_ext (row_alloc (w.alloc (.cells #[.string nm, .int .i64 f, .int .i64 d, .slice A par.length c, .int .i64 dm] 24)) #[.int .i64 0, .int .i64 0, .int .i64 0, .slice none 0 0] 31 (w.heap.size + 1) (by simp)) hx1
  have r0 := row_cell HR 0 (v := .int .i64 0) rfl
  have r1 := row_cell HR 1 (v := .int .i64 0) rfl
  have r2 := row_cell HR 2 (v := .int .i64 0) rfl
  have r3 := row_cell HR 3 (v := .slice none 0 0) rfl
  have rf : ∀ j, w1.frozen? ⟨w.heap.size + 1, j, none⟩ = false := fun j => frozen_of_row w1 _ j _ _ HR
  go_wp2_with fail
  refine bodyPost_ret (by simp [results, Tryd.results14, go_sem, *]; try rfl) rfl ?_
  have hx2 := ext_trans hx0 hx1
  exact ⟨rfl, ext_set (ext_set (ext_set (ext_set hx2 (by simp) _) (by simp) _) (by simp) _) (by simp) _⟩

theorem sumLen_const {n : Nat} {par : List (List Int)} (h : ∀ row ∈ par, row.length = n) : ∀ k, k ≤ par.length → sumLen par k = k * n
  | 0, _ => by simp [sumLen]
  | k + 1, hk => by
    rw [sumLen_succ (by omega), sumLen_const h k (by omega), Nat.add_mul, h _ (List.getElem_mem _)]; omega
theorem flatten_const {n : Nat} {par : List (List Int)} (h : ∀ row ∈ par, row.length = n) : par.flatten.length = par.length * n := by
  have := sumLen_const h par.length (Nat.le_refl _)
  unfold sumLen at this
  rwa [List.take_length] at this
theorem own_of_row {w : World} {g base n : Nat} {e : TypeId} {xs : List Value} (h : w.heap[g]? = some (.cells xs.toArray e (0, 0))) (hb : base ≤ g) (hn : xs.length = n) (hm : n ≤ maxLen) : w.ownsRow base e 1 (.slice (some ⟨g, 0, none⟩) n n) n xs :=
  ⟨by omega, .inr ⟨g, n, _, rfl, hb, h, Nat.le_refl _, hm, by simp; omega, by rw [Nat.mul_one, ← hn]; simp⟩⟩
/-- What the composite literal leaves, whatever the order was. -/
structure GenF (w1 W : World) (G S : Nat) (m N n : Nat) : Prop where
  ext : Ext w1 W
  rowG : W.heap[G]? = some (.cells #[.int .i64 m, .int .i64 N, .int .i64 n, .slice (some ⟨S, 0, none⟩) (n * n) (n * n)] 31 (0, 0))
  rowS : W.heap[S]? = some (.cells (Array.replicate (n * n) (.int .i64 0)) 3 (0, 0))
  leG : w1.heap.size ≤ G
  leS : w1.heap.size ≤ S
  ne : G ≠ S
abbrev gG {w1 W : World} {G S m N n : Nat} (_ : GenF w1 W G S m N n) : Nat := G
abbrev gS {w1 W : World} {G S m N n : Nat} (_ : GenF w1 W G S m N n) : Nat := S
theorem rest3 {F C : World → Nat → Nat → Prop} {goal : Prop} (h1 : (∀ W G S, F W G S → C W G S) → goal) (h2 : ∀ W G S, F W G S → C W G S) : goal := h1 h2
theorem useF {C : World → Prop} {w1 Wx : World} {G S m N n : Nat} (F : GenF w1 Wx G S m N n) (h : ∀ W0, GenF w1 W0 G S m N n → C W0) : C Wx := h _ F
section
variable {w1 W : World} {m N n : Nat}
theorem genF_SG (hx : Ext w1 W) : GenF w1 ((W.alloc (.cells (Array.replicate (n * n) (.int .i64 0)) 3)).alloc (.cells #[.int .i64 m, .int .i64 N, .int .i64 n, .slice (some ⟨W.heap.size, 0, none⟩) (n * n) (n * n)] 31)) (W.heap.size + 1) W.heap.size m N n :=
  ⟨ext_alloc (ext_alloc hx _) _, row_alloc _ _ _ _ (by simp), row_alloc_old (row_alloc _ _ _ _ rfl) _, by have := hx.size; omega, hx.size, by omega⟩
theorem genF_GS (hx : Ext w1 W) : GenF w1 ((W.alloc (.cells #[.int .i64 m, .int .i64 N, .int .i64 n, .slice (some ⟨W.heap.size + 1, 0, none⟩) (n * n) (n * n)] 31)).alloc (.cells (Array.replicate (n * n) (.int .i64 0)) 3)) W.heap.size (W.heap.size + 1) m N n :=
  ⟨ext_alloc (ext_alloc hx _) _, row_alloc_old (row_alloc _ _ _ _ rfl) _, row_alloc _ _ _ _ (by simp), hx.size, by have := hx.size; omega, by omega⟩
theorem genF_G {s : Nat} (hx : Ext w1 W) (hs : W.heap[s]? = some (.cells (Array.replicate (n * n) (.int .i64 0)) 3 (0, 0))) (hs1 : w1.heap.size ≤ s) : GenF w1 (W.alloc (.cells #[.int .i64 m, .int .i64 N, .int .i64 n, .slice (some ⟨s, 0, none⟩) (n * n) (n * n)] 31)) W.heap.size s m N n :=
  ⟨ext_alloc hx _, row_alloc _ _ _ _ rfl, row_alloc_old hs _, hx.size, hs1, by have := (Array.getElem?_eq_some_iff.1 hs).1; omega⟩
theorem undrew {a b : World} (h : Ext a.drew b) : Ext a b := ext_trans (ext_drew (ext_refl a)) h
theorem set_row_far {W : World} {g : Nat} {o : Obj} (h : W.heap[g]? = some o) (b i : Nat) (v : Value) (hne : b ≠ g) : (W.setCell ⟨b, i, none⟩ v).heap[g]? = some o := by
  rw [Below.heap_setCell _ _ _ _ hne.symm]; exact h
theorem genF_set {g s : Nat} (hx : Ext w1 W) (hg : W.heap[g]? = some (.cells #[.int .i64 0, .int .i64 0, .int .i64 0, .slice none 0 0] 31 (0, 0))) (hg1 : w1.heap.size ≤ g) (hs : W.heap[s]? = some (.cells (Array.replicate (n * n) (.int .i64 0)) 3 (0, 0))) (hs1 : w1.heap.size ≤ s) (hne : g ≠ s) :
    GenF w1 ((((W.setCell ⟨g, 0, none⟩ (.int .i64 m)).setCell ⟨g, 1, none⟩ (.int .i64 N)).setCell ⟨g, 2, none⟩ (.int .i64 n)).setCell ⟨g, 3, none⟩ (.slice (some ⟨s, 0, none⟩) (n * n) (n * n))) g s m N n :=
  ⟨ext_set (ext_set (ext_set (ext_set hx hg1 _) hg1 _) hg1 _) hg1 _, by
    have := set_cells (i := 3) (set_cells (i := 2) (set_cells (i := 1) (set_cells (i := 0) hg (.int .i64 m)) (.int .i64 N)) (.int .i64 n)) (.slice (some ⟨s, 0, none⟩) (n * n) (n * n))
    simpa using this, set_row_far (set_row_far (set_row_far (set_row_far hs _ _ _ hne) _ _ _ hne) _ _ _ hne) _ _ _ hne, hg1, hs1, hne⟩
theorem genF_setS {g : Nat} (hx : Ext w1 W) (hg : W.heap[g]? = some (.cells #[.int .i64 0, .int .i64 0, .int .i64 0, .slice none 0 0] 31 (0, 0))) (hg1 : w1.heap.size ≤ g) :
    GenF w1 (((((W.setCell ⟨g, 0, none⟩ (.int .i64 m)).setCell ⟨g, 1, none⟩ (.int .i64 N)).setCell ⟨g, 2, none⟩ (.int .i64 n)).setCell ⟨g, 3, none⟩ (.slice (some ⟨W.heap.size, 0, none⟩) (n * n) (n * n))).alloc (.cells (Array.replicate (n * n) (.int .i64 0)) 3)) g W.heap.size m N n :=
  ⟨ext_alloc (ext_set (ext_set (ext_set (ext_set hx hg1 _) hg1 _) hg1 _) hg1 _) _, by
    have := set_cells (i := 3) (set_cells (i := 2) (set_cells (i := 1) (set_cells (i := 0) hg (.int .i64 m)) (.int .i64 N)) (.int .i64 n)) (.slice (some ⟨W.heap.size, 0, none⟩) (n * n) (n * n))
    exact row_alloc_old (by simpa using this) _, row_alloc _ _ _ _ (by simp [World.setCell]), hg1, hx.size, by have := (Array.getElem?_eq_some_iff.1 hg).1; omega⟩
end

set_option maxRecDepth 100000 in
set_option maxHeartbeats 4000000 in
theorem eragen_ok (nm : ByteArray) (m n : Nat) (dm : Int) (par : List (List Int)) (vp : Value) (w : World) (hl : Laid w) (hp : RRows w vp par) (hok : okB m n par = true) :
    Calls Tryd.prog 14 #[vCd nm m n vp dm] w fun e w' => ∃ v', e = .returned (.tuple #[.agg #[.int .i64 m, .int .i64 (n + par.length : Nat), .int .i64 n, v'], .int .i64 0]) ∧ w'.ownsRow w.heap.size 3 1 v' ((n + par.length) * n) (ivs (genL n par)) ∧ Ext w w' := by
  have HP := Lib.hid hp
  obtain ⟨A, c, rfl, hlen, hvc⟩ := hp.form
  clear hp
  obtain ⟨m', n', em, en, hm, hn1, hn2, hrows⟩ := okB_facts hok
  obtain rfl : m = m' := by omega
  obtain rfl : n = n' := by omega
  have HR := Lib.hid (fun row h => (hrows row h).1)
  have hx0 : Ext w ((w.alloc (.cells #[.string nm, .int .i64 m, .int .i64 n, .slice A par.length c, .int .i64 dm] 24)).alloc (.cells #[.int .i64 0, .int .i64 0, .int .i64 0, .slice none 0 0] 31)) := ext_alloc (ext_alloc (ext_refl w) _) _
  have HB := Lib.hid hok
  have HG := Lib.hid (genL_eq n par)
  obtain ⟨N, hN⟩ : ∃ N, N = n + par.length := ⟨_, rfl⟩
  have HW : Hid (widthI m n par = N) := by show _ = _; unfold widthI; rw [hok, hN]; simp
  have HN := Lib.hid hN
  have hN32 : N ≤ 32 := by omega
  rw [← hN]
  have hnn : n * n ≤ 1024 := Nat.le_trans (Nat.mul_le_mul (show n ≤ 32 by omega) (show n ≤ 32 by omega)) (by omega)
  have hmk := fun W => make_zero (P := Tryd.prog) W 29 3 _ (.int .i64 0) 8 Tryd.underlying29 rfl rfl rfl rfl rfl (n * n) (by omega) (by omega)
  simp only [Int.natCast_mul, List.toArray_replicate] at hmk
  have hmm : IntKind.i64.wrap ((n : Int) * (n : Int)) = (n : Int) * (n : Int) := by rw [← Int.natCast_mul]; exact IntWalk.i64_in _ (by omega)
  clear hok hrows hm hN em en
  go_enter Tryd.func14, Tryd.ntmps14
  go_wp2_with fail
  refine (eraValid_any nm m n dm par _ _ (hl.ext hx0) (HP.out.ext hx0) (by omega) (by omega)).mono ?_
  rintro e w1 ⟨rfl, hx1⟩
  rw [HB.out]
  have HRr := row_ext (row_alloc (w.alloc (.cells #[.string nm, .int .i64 m, .int .i64 n, .slice A par.length c, .int .i64 dm] 24)) #[.int .i64 0, .int .i64 0, .int .i64 0, .slice none 0 0] 31 (w.heap.size + 1) (by simp)) hx1
  have HRc := row_ext (row_alloc_old (row_alloc w #[.string nm, .int .i64 m, .int .i64 n, .slice A par.length c, .int .i64 dm] 24 w.heap.size rfl) (.cells #[.int .i64 0, .int .i64 0, .int .i64 0, .slice none 0 0] 31)) hx1
  have hx2 := ext_trans hx0 hx1
  have c0 := row_cell HRc 0 (v := .string nm) rfl
  have c1 := row_cell HRc 1 (v := .int .i64 m) rfl
  have c2 := row_cell HRc 2 (v := .int .i64 n) rfl
  have c3 := row_cell HRc 3 (v := .slice A par.length c) rfl
  have c4 := row_cell HRc 4 (v := .int .i64 dm) rfl
  go_wp2_with fail
  apply rest3 (F := fun W G S => GenF w1 W G S m N n)
  case h1 =>
    intro REST
    go_region_held3 (fun w' => Ext w1 w' ∧ w'.cell? ⟨w.heap.size, 0, none⟩ = some (.string nm) ∧ w'.cell? ⟨w.heap.size, 1, none⟩ = some (.int .i64 m) ∧ w'.cell? ⟨w.heap.size, 2, none⟩ = some (.int .i64 n) ∧ w'.cell? ⟨w.heap.size, 3, none⟩ = some (.slice A par.length c) ∧ w'.cell? ⟨w.heap.size, 4, none⟩ = some (.int .i64 dm)) (first
        | (refine (fun (h : Ext w1 _) => ⟨h, ext_cell h c0, ext_cell h c1, ext_cell h c2, ext_cell h c3, ext_cell h c4⟩) ?_
           repeat (first | exact ext_refl _ | refine ext_alloc ?_ _ | refine ext_drew ?_ | refine ext_trans ?_ hx3 | refine ext_set ?_ (by first | (simp [go_sem]; done) | (have := hx3.size; simp [go_sem] at this ⊢; omega)) _)))
      (first | (go_at_call 21
                refine (eraWidth_any nm m n dm par _ _ (hl.ext (ext_trans hx2 (by repeat (first | exact ext_refl _ | refine ext_alloc ?_ _ | refine ext_drew ?_)))) (HP.out.ext (ext_trans hx2 (by repeat (first | exact ext_refl _ | refine ext_alloc ?_ _ | refine ext_drew ?_)))) (by omega) (by omega)).mono ?_
                rintro e w3 ⟨rfl, hx3⟩
                rw [HW.out]
                first
                | (have hG3 : w3.heap[w1.heap.size]? = some (.cells #[.int .i64 0, .int .i64 0, .int .i64 0, .slice none 0 0] 31 (0, 0)) := row_ext (by first | exact row_alloc _ _ _ _ rfl | exact row_alloc_old (row_alloc _ _ _ _ rfl) _) hx3
                   have k0 := row_cell hG3 0 (v := .int .i64 0) rfl
                   have k1 := row_cell hG3 1 (v := .int .i64 0) rfl
                   have k2 := row_cell hG3 2 (v := .int .i64 0) rfl
                   have k3 := row_cell hG3 3 (v := .slice none 0 0) rfl
                   have kl : w1.heap.size < w3.heap.size := (Array.getElem?_eq_some_iff.1 hG3).1
                   have kn : ¬ w1.heap.size = w3.heap.size := by omega
                   have kf : ∀ j, w3.frozen? ⟨w1.heap.size, j, none⟩ = false := fun j => frozen_of_row w3 _ j _ _ hG3)
                | (have hG3 : w3.heap[w1.heap.size + 1]? = some (.cells #[.int .i64 0, .int .i64 0, .int .i64 0, .slice none 0 0] 31 (0, 0)) := row_ext (by exact row_alloc _ _ _ _ (by simp)) hx3
                   have k0 := row_cell hG3 0 (v := .int .i64 0) rfl
                   have k1 := row_cell hG3 1 (v := .int .i64 0) rfl
                   have k2 := row_cell hG3 2 (v := .int .i64 0) rfl
                   have k3 := row_cell hG3 3 (v := .slice none 0 0) rfl
                   have kl : w1.heap.size + 1 < w3.heap.size := (Array.getElem?_eq_some_iff.1 hG3).1
                   have kn : ¬ w1.heap.size + 1 = w3.heap.size := by omega
                   have kf : ∀ j, w3.frozen? ⟨w1.heap.size + 1, j, none⟩ = false := fun j => frozen_of_row w3 _ j _ _ hG3)
                | skip))
    all_goals
      have hx4 : Ext w1 w3 := ext_trans (by repeat (first | exact ext_refl _ | refine ext_alloc ?_ _ | refine ext_drew ?_)) hx3
    refine useF (C := fun W => Exit.then _ _ Exit.normal _ W) (genF_SG hx4) ?_
    rotate_left
    refine useF (C := fun W => Exit.then _ _ Exit.normal _ W) (genF_GS hx4) ?_
    rotate_left
    refine useF (C := fun W => Exit.then _ _ Exit.normal _ W) (genF_G (s := w1.heap.size) hx4 (row_ext (row_alloc w1 _ _ _ rfl) (undrew hx3)) (Nat.le_refl _)) ?_
    rotate_left
    refine useF (C := fun W => Exit.then _ _ Exit.normal _ W) (genF_set (g := w1.heap.size + 1) (s := w1.heap.size) hx4 hG3 (by omega) (row_ext (row_alloc_old (row_alloc w1 _ _ _ rfl) _) (undrew hx3)) (by omega) (by omega)) ?_
    rotate_left
    refine useF (C := fun W => Exit.then _ _ Exit.normal _ W) (genF_setS (g := w1.heap.size) hx4 hG3 (by omega)) ?_
    rotate_left
    refine useF (C := fun W => Exit.then _ _ Exit.normal _ W) (genF_set (g := w1.heap.size) (s := w1.heap.size + 1) hx4 hG3 (by omega) (row_ext (row_alloc _ _ _ _ (by simp)) (undrew hx3)) (by omega) (by omega)) ?_
    rotate_left
    all_goals
      intro W0 hF
      obtain ⟨G, hG⟩ : ∃ G, G = gG hF := ⟨_, rfl⟩
      obtain ⟨S, hS⟩ : ∃ S, S = gS hF := ⟨_, rfl⟩
      simp only [gG] at hG
      simp only [gS] at hS
      first | (rw [← hS] at hF ⊢; rw [← hG] at hF ⊢) | (rw [← hG] at hF ⊢; rw [← hS] at hF ⊢)
      clear hG hS
      exact REST _ _ _ hF
  case h2 =>
    intro W0 G S hF
    have d0 := ext_cell hF.ext c0
    have d1 := ext_cell hF.ext c1
    have d2 := ext_cell hF.ext c2
    have d3 := ext_cell hF.ext c3
    have d4 := ext_cell hF.ext c4
    have HRr0 := row_ext HRr hF.ext
    have hx5 := ext_trans hx2 hF.ext
    have g0 := row_cell hF.rowG 0 (v := .int .i64 m) rfl
    have g1 := row_cell hF.rowG 1 (v := .int .i64 N) rfl
    have g2 := row_cell hF.rowG 2 (v := .int .i64 n) rfl
    have g3 := row_cell hF.rowG 3 (v := .slice (some ⟨S, 0, none⟩) (n * n) (n * n)) rfl
    have hwG : w.heap.size + 1 < G := by have := hF.leG; have := hx1.size; simp at this; omega
    have hwS : w.heap.size + 1 < S := by have := hF.leS; have := hx1.size; simp at this; omega
    have hltG := (Array.getElem?_eq_some_iff.1 hF.rowG).1
    have hltS := (Array.getElem?_eq_some_iff.1 hF.rowS).1
    have HS0 : Hid (Wrote W0 S 3 (ivs (idTo n 0)).toArray W0) := by
      refine Wrote.init ?_
      rw [hF.rowS]
      simp [ivs, idTo]
    clear HRc HRr hx1 c0 c1 c2 c3 c4
    go_wp2_with fail
    go_loopw [25] (fun i wr => ∃ k : Nat, k ≤ n ∧ i = .int .i64 k ∧ Hid (Wrote W0 S 3 (ivs (idTo n k)).toArray wr)) (fun i _ => n - (intOf i).toNat)
    case atStart => exact ⟨0, Nat.zero_le _, rfl, HS0.out⟩
    case round =>
      obtain ⟨k, hk, rfl, hw⟩ := hrel
      have e2 := hw.out.far d2 (by simp; omega)
      have e3 := hw.out.far d3 (by simp; omega)
      have f3 := hw.out.far g3 (by simpa using hF.ne)
      by_cases hlt : k < n
      · obtain ⟨p, hp⟩ : ∃ p, p = k * n + k := ⟨_, rfl⟩
        have hpn : p < n * n := by rw [hp]; exact Nat.lt_of_lt_of_le (show k * n + k < (k + 1) * n by rw [Nat.add_mul]; omega) (Nat.mul_le_mul_right n (by omega))
        have w1' : IntKind.i64.wrap ((k : Int) * (n : Int)) = (k : Int) * (n : Int) := by
          rw [← Int.natCast_mul]; exact IntWalk.i64_in _ (by omega)
        have w2' : IntKind.i64.wrap ((k : Int) * (n : Int) + (k : Int)) = (p : Int) := by
          rw [← Int.natCast_mul, ← Int.natCast_add, ← hp]; exact IntWalk.i64_in _ (by omega)
        have hc : wr.cell? ⟨S, p, none⟩ = some (.int .i64 ((idTo n k)[p]'(by rw [idTo_len]; exact hpn))) := row_cell hw.out.row p (by simp [ivs, idTo_len, hpn])
        have hfz : wr.frozen? ⟨S, p, none⟩ = false := frozen_of_row wr S p _ _ hw.out.row
        have HN2 : Hid (Wrote W0 S 3 (ivs (idTo n (k + 1))).toArray (wr.setCell ⟨S, p, none⟩ (.int .i64 1))) := by
          have := hw.out.set p (.int .i64 1)
          rw [show (ivs (idTo n k)).toArray.setIfInBounds p (.int .i64 1) = (ivs (idTo n (k + 1))).toArray by simp [ivs, idTo, hp, List.map_set]] at this
          exact this
        have HP2 := Lib.hid hp
        clear hp
        go_wp2_with fail
        go_roundw
        case rel => exact ⟨k + 1, by omega, by simp, HN2⟩
        case measure => simp [intOf]; omega
      · have hk' : k = n := by omega
        have rowG := (hw.out.grown.block G hltG (by intro e; injection e with e; exact hF.ne e)).trans hF.rowG
        have rowR := (hw.out.grown.block (w.heap.size + 1) (Array.getElem?_eq_some_iff.1 HRr0).1 (by intro e; injection e with e; omega)).trans HRr0
        have hown := Lib.hid (own_of_row (base := w.heap.size) (n := n * n) hw.out.row (by omega) (by simp [idTo_len]) (by unfold maxLen; omega))
        rw [hk'] at hown
        have hxw : Ext w wr := hw.out.toExt hx5 (by omega)
        have hszw := hxw.size
        have HFL := Lib.hid (flatten_const HR.out)
        have hpl : par.length * n ≤ 1024 := Nat.le_trans (Nat.mul_le_mul (show par.length ≤ 32 by omega) (show n ≤ 32 by omega)) (by omega)
        have HCAT := Lib.hid fun W h => concat_any par (.slice A par.length c) W h (fun k hk => by
          rw [sumLen_const HR.out k hk]
          exact Nat.le_trans (Nat.mul_le_mul_right n hk) (by omega))
        obtain ⟨L, hL⟩ : ∃ L, L = par.flatten.length := ⟨_, rfl⟩
        rw [← hL] at HCAT HFL
        have hLs : L ≤ 1024 := by rw [HFL.out]; exact hpl
        have hrG := (Array.getElem?_eq_some_iff.1 rowG).1
        obtain ⟨i0, hi0, hz0, hz1, hz2⟩ := info_parts info_int
        have hneq := hF.ne
        have hneS : w.heap.size + 1 ≠ S := by omega
        have HL := Lib.hid hL
        clear hk' hL
        by_cases hL0 : L = 0
        · subst hL0
          have hS0 := hown
          have hgl : Hid (genL n par = idTo n n) := by
            show _ = _
            rw [HG.out, List.eq_nil_of_length_eq_zero HL.out.symm, List.append_nil]
          go_wp2_with fail
          go_region_law (first
            | (refine step_append_none (by rfl) _ _ _ (by rfl) w.heap.size 3 i0 1 Tryd.underlying29 hi0 (.slice (some ⟨S, 0, none⟩) (n * n) (n * n)) (n * n) (ivs (idTo n n)) (by rfl) HOc.out A3 c3 (by rfl) ?_)
            | (go_simp
               go_at_call 40
               refine (HCAT.out _ (HP.out.ext (ext_drew hxw))).mono ?_
               rintro e w3 ⟨v', rfl, ho3, hx3'⟩
               obtain ⟨A3, c3, rfl, -⟩ := own_seg ho3 (by omega)
               have HOc : Hid (w3.ownsRow w.heap.size 3 1 (.slice (some ⟨S, 0, none⟩) (n * n) (n * n)) (n * n) (ivs (idTo n n))) := own_ext hown.out.drew hx3'
               have rG3 := row_ext (w := wr) rowG (undrew hx3')
               have rR3 := row_ext (w := wr) rowR (undrew hx3')
               have p3 := row_cell rG3 3 (v := .slice (some ⟨S, 0, none⟩) (n * n) (n * n)) rfl
               have pf : ∀ j, w3.frozen? ⟨G, j, none⟩ = false := fun j => frozen_of_row w3 _ j _ _ rG3))
          all_goals
            have hx6 : Ext w w3 := ext_trans (ext_drew hxw) hx3'
            have rG5 : (w3.setCell ⟨G, 3, none⟩ (.slice (some ⟨S, 0, none⟩) (n * n) (n * n))).heap[G]? = some (.cells #[.int .i64 m, .int .i64 N, .int .i64 n, .slice (some ⟨S, 0, none⟩) (n * n) (n * n)] 31 (0, 0)) := by
              have := set_cells (i := 3) rG3 (.slice (some ⟨S, 0, none⟩) (n * n) (n * n))
              simpa using this
            have rR5 := set_row_far rR3 G 3 (.slice (some ⟨S, 0, none⟩) (n * n) (n * n)) (by omega)
            have hx7 : Ext w (w3.setCell ⟨G, 3, none⟩ (.slice (some ⟨S, 0, none⟩) (n * n) (n * n))) := ext_set hx6 (by simp; omega) _
            have HKP : Hid (∀ (W : World) (g i : Nat) (u : Value), S ≠ g → W.ownsRow w.heap.size 3 1 (.slice (some ⟨S, 0, none⟩) (n * n) (n * n)) (n * n) (ivs (idTo n n)) → (W.setCell ⟨g, i, none⟩ u).ownsRow w.heap.size 3 1 (.slice (some ⟨S, 0, none⟩) (n * n) (n * n)) (n * n) (ivs (idTo n n))) := by
              show ∀ _ _ _ _, _ → _ → _
              intro W g i u hg h
              exact h.kept (grown_set _ _ _) (.inr (fun e => hg (Option.some.inj e)))
            have ho5 := Lib.hid (HKP.out _ G 3 (.slice (some ⟨S, 0, none⟩) (n * n) (n * n)) (Ne.symm hneq) HOc.out)
            obtain ⟨W5, hW5⟩ : ∃ W5, W5 = w3.setCell ⟨G, 3, none⟩ (.slice (some ⟨S, 0, none⟩) (n * n) (n * n)) := ⟨_, rfl⟩
            rw [← hW5] at rG5 rR5 hx7 ho5 ⊢
            clear hW5 HOc ho3 rG3 rR3 p3 pf
            have e0 := row_cell rG5 0 (v := .int .i64 m) rfl
            have e1 := row_cell rG5 1 (v := .int .i64 N) rfl
            have e2 := row_cell rG5 2 (v := .int .i64 n) rfl
            have e3 := row_cell rG5 3 (v := .slice (some ⟨S, 0, none⟩) (n * n) (n * n)) rfl
            have r0 := row_cell rR5 0 (v := .int .i64 0) rfl
            have r1 := row_cell rR5 1 (v := .int .i64 0) rfl
            have r2 := row_cell rR5 2 (v := .int .i64 0) rfl
            have r3 := row_cell rR5 3 (v := .slice none 0 0) rfl
            have rf : ∀ j, W5.frozen? ⟨w.heap.size + 1, j, none⟩ = false := fun j => frozen_of_row W5 _ j _ _ rR5
            have eN : Hid (n * n = N * n) := by
              show _ = _
              have := HFL.out
              rw [HN.out, Nat.add_mul]; omega
            go_wp2_with fail
            refine bodyPost_ret (by simp [results, Tryd.results14, go_sem, *]; try rfl) rfl ?_
            refine ⟨_, rfl, ?_, ext_set (ext_set (ext_set (ext_set hx7 (by simp) _) (by simp) _) (by simp) _) (by simp) _⟩
            rw [← eN.out, hgl.out]
            exact HKP.out _ _ _ _ hneS.symm (HKP.out _ _ _ _ hneS.symm (HKP.out _ _ _ _ hneS.symm (HKP.out _ _ _ _ hneS.symm ho5.out)))
        · go_wp2_with fail
          go_region_law (first
            | (refine step_append_lies _ (by rfl) _ _ _ (by rfl) w.heap.size 3 i0 _ 1 8 Tryd.underlying29 hi0 hz0 hz1 hz2 rfl (by omega) (.slice (some ⟨S, 0, none⟩) (n * n) (n * n)) (n * n) (ivs (idTo n n)) (by rfl) HOc.out ⟨gr, 0, none⟩ L cr (ivs par.flatten) (by rfl) (by rw [List.length_map, ← HL.out, Nat.mul_one]) (fun j u hu => ho3.cells rfl j u hu) (one_ints _) (by omega) (by simp only [maxLen]; omega) (by omega) (by have := hx3'.size; simp at this; omega) w3.heap.size rfl ?_
               intro gg cap w4 hown1 hgrow hat hlt1
               have rG4 : w4.heap[G]? = _ := (hgrow.block G (by have := hx3'.size; simp at this; omega) (fun e => hneq (Option.some.inj e))).trans rG3
               have rR4 : w4.heap[w.heap.size + 1]? = _ := (hgrow.block (w.heap.size + 1) (Array.getElem?_eq_some_iff.1 rR3).1 (fun e => hneS (Option.some.inj e))).trans rR3
               have q3 := row_cell rG4 3 (v := .slice (some ⟨S, 0, none⟩) (n * n) (n * n)) rfl
               have qf : ∀ j, w4.frozen? ⟨G, j, none⟩ = false := fun j => frozen_of_row w4 _ j _ _ rG4)
            | (go_simp
               go_at_call 40
               refine (HCAT.out _ (HP.out.ext (ext_drew hxw))).mono ?_
               rintro e w3 ⟨v', rfl, ho3, hx3'⟩
               obtain ⟨gr, cr, rfl⟩ := own_some ho3 (by omega)
               have HOc : Hid (w3.ownsRow w.heap.size 3 1 (.slice (some ⟨S, 0, none⟩) (n * n) (n * n)) (n * n) (ivs (idTo n n))) := own_ext hown.out.drew hx3'
               have rG3 := row_ext (w := wr) rowG (undrew hx3')
               have rR3 := row_ext (w := wr) rowR (undrew hx3')
               have p3 := row_cell rG3 3 (v := .slice (some ⟨S, 0, none⟩) (n * n) (n * n)) rfl
               have pf : ∀ j, w3.frozen? ⟨G, j, none⟩ = false := fun j => frozen_of_row w3 _ j _ _ rG3))
          all_goals
            have hx6 : Ext w w4 := ext_grown (ext_trans (ext_drew hxw) hx3') hgrow (fun i hi => own_base' HOc.out i hi)
            have rG5 : (w4.setCell ⟨G, 3, none⟩ (.slice (some ⟨gg, 0, none⟩) (n * n + L) cap)).heap[G]? = some (.cells #[.int .i64 m, .int .i64 N, .int .i64 n, .slice (some ⟨gg, 0, none⟩) (n * n + L) cap] 31 (0, 0)) := by
              have := set_cells (i := 3) rG4 (.slice (some ⟨gg, 0, none⟩) (n * n + L) cap)
              simpa using this
            have rR5 := set_row_far rR4 G 3 (.slice (some ⟨gg, 0, none⟩) (n * n + L) cap) (by omega)
            have hx7 : Ext w (w4.setCell ⟨G, 3, none⟩ (.slice (some ⟨gg, 0, none⟩) (n * n + L) cap)) := ext_set hx6 (by simp; omega) _
            have ho5 : Hid ((w4.setCell ⟨G, 3, none⟩ (.slice (some ⟨gg, 0, none⟩) (n * n + L) cap)).ownsRow w.heap.size 3 1 (.slice (some ⟨gg, 0, none⟩) (n * n + L) cap) (n * n + L) (ivs (genL n par))) := by
              show World.ownsRow _ _ _ _ _ _ _
              rw [HG.out, ivs, List.map_append]
              refine hown1.kept (grown_set _ _ _) (.inr ?_)
              intro e
              rcases hat with h | h
              · exact hneq (by have h1 := Option.some.inj h; have h2 := Option.some.inj e; simp at h1 h2; omega)
              · have h2 := Option.some.inj e
                have := hx3'.size
                simp at this h2
                omega
            have hgR : gg ≠ w.heap.size + 1 := by
              rcases hat with h | h
              · have h1 := Option.some.inj h; simp at h1; omega
              · have := hx3'.size
                simp at this
                omega
            have HKP : Hid (∀ (W : World) (i : Nat) (u : Value), W.ownsRow w.heap.size 3 1 (.slice (some ⟨gg, 0, none⟩) (n * n + L) cap) (n * n + L) (ivs (genL n par)) → (W.setCell ⟨w.heap.size + 1, i, none⟩ u).ownsRow w.heap.size 3 1 (.slice (some ⟨gg, 0, none⟩) (n * n + L) cap) (n * n + L) (ivs (genL n par))) := by
              show ∀ _ _ _, _ → _
              intro W i u h
              exact h.kept (grown_set _ _ _) (.inr (fun e => hgR (Option.some.inj e)))
            obtain ⟨W5, hW5⟩ : ∃ W5, W5 = w4.setCell ⟨G, 3, none⟩ (.slice (some ⟨gg, 0, none⟩) (n * n + L) cap) := ⟨_, rfl⟩
            rw [← hW5] at rG5 rR5 hx7 ho5 ⊢
            clear hW5 hown1 hgrow hat hlt1 rG4 rR4 q3 qf HOc ho3 rG3 rR3 p3 pf
            have e0 := row_cell rG5 0 (v := .int .i64 m) rfl
            have e1 := row_cell rG5 1 (v := .int .i64 N) rfl
            have e2 := row_cell rG5 2 (v := .int .i64 n) rfl
            have e3 := row_cell rG5 3 (v := .slice (some ⟨gg, 0, none⟩) (n * n + L) cap) rfl
            have r0 := row_cell rR5 0 (v := .int .i64 0) rfl
            have r1 := row_cell rR5 1 (v := .int .i64 0) rfl
            have r2 := row_cell rR5 2 (v := .int .i64 0) rfl
            have r3 := row_cell rR5 3 (v := .slice none 0 0) rfl
            have rf : ∀ j, W5.frozen? ⟨w.heap.size + 1, j, none⟩ = false := fun j => frozen_of_row W5 _ j _ _ rR5
            have eN : Hid (n * n + L = N * n) := by show _ = _; rw [HFL.out, HN.out, Nat.add_mul]
            go_wp2_with fail
            refine bodyPost_ret (by simp [results, Tryd.results14, go_sem, *]; try rfl) rfl ?_
            refine ⟨_, rfl, ?_, ext_set (ext_set (ext_set (ext_set hx7 (by simp) _) (by simp) _) (by simp) _) (by simp) _⟩
            rw [← eN.out]
            exact HKP.out _ _ _ (HKP.out _ _ _ (HKP.out _ _ _ (HKP.out _ _ _ ho5.out)))

end Go.Proofs.YtgflflpeilfinaaDoor
