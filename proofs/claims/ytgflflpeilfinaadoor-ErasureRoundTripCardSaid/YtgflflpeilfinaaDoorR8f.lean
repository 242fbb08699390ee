/- The walks of the reference of layer 8: Width, Row. -/
import Derived.Test.YtgflflpeilfinaaDoorR8c
import Derived.Test.YtgflflpeilfinaaDoorCat
import Derived.Test.YtgflflpeilfinaaDoorWr
import Derived.Deep.RegionLaw
set_option linter.unusedVariables false
set_option linter.unusedSimpArgs false
namespace Go.Proofs.YtgflflpeilfinaaDoor
open Go.RowKit

set_option maxHeartbeats 400000 in
theorem r8width_any (nm : ByteArray) (f d dm : Int) (par : List (List Int)) (vp : Value) (w : World) (hp : RRows w vp par) (hd1 : d ≤ 12) :
    Calls Tryd.prog 22 #[vCd nm f d vp dm] w (Ret w (.int .i64 (widthI f d par))) := by
  have HP := Lib.hid hp
  obtain ⟨A, c, rfl, hlen, hvc⟩ := hp.form
  clear hp
  have hx0 : Ext w (w.alloc (.cells #[.string nm, .int .i64 f, .int .i64 d, .slice A par.length c, .int .i64 dm] 24)) := ext_alloc (ext_refl w) _
  have HW : Hid (widthI f d par = if okB f d par then d + par.length else 0) := by show _ = _; rfl
  go_enter Tryd.func22, Tryd.ntmps22
  go_wp2_with fail
  refine (r8valid_any nm f d dm par _ _ (HP.out.ext hx0) hd1).mono ?_
  rintro e w1 ⟨rfl, hx1⟩
  have hx2 := ext_trans hx0 hx1
  have hc2 : w1.cell? ⟨w.heap.size, 2, none⟩ = some (.int .i64 d) := ext_cell hx1 (by simp [go_sem])
  have hc3 : w1.cell? ⟨w.heap.size, 3, none⟩ = some (.slice A par.length c) := ext_cell hx1 (by simp [go_sem])
  cases hb : okB f d par with
  | false =>
    have HB := Lib.hid hb
    clear hb
    go_wp2_with fail
    go_ret
    exact ⟨ret_int (by rw [HW.out, HB.out]; rfl), hx2⟩
  | true =>
    obtain ⟨m, n, e1, e2, -, hn1, hn2, -⟩ := okB_facts hb
    have HB := Lib.hid hb
    subst e2
    clear hb e1
    go_wp2_with fail
    go_ret
    exact ⟨ret_int (by rw [HW.out, HB.out]; rfl), hx2⟩

/-- The row of a unit. -/
def rowOf (n : Nat) (par : List (List Int)) (u : Nat) : List Int := if u < n then (List.range n).map (fun j => if u = j then 1 else 0) else par.getD (u - n) []
theorem rowOf_low {n : Nat} {par : List (List Int)} {u : Nat} (h : u < n) : rowOf n par u = (List.range n).map (fun j => if u = j then 1 else 0) := if_pos h
theorem rowOf_high {n : Nat} {par : List (List Int)} {u : Nat} (h : n ≤ u) (h2 : u - n < par.length) : rowOf n par u = par[u - n] := by
  unfold rowOf
  rw [if_neg (by omega), List.getD_eq_getElem?_getD, List.getElem?_eq_getElem h2]; rfl
theorem rowOf_length {n : Nat} {par : List (List Int)} (hr : ∀ row ∈ par, row.length = n) {u : Nat} (h : u < n + par.length) : (rowOf n par u).length = n := by
  by_cases h1 : u < n
  · rw [rowOf_low h1]; simp
  · rw [rowOf_high (by omega) (by omega)]; exact hr _ (List.getElem_mem _)

theorem own_next {w : World} {base : Nat} {e : TypeId} {v : Value} {n : Nat} {R : List Int} (hk : n < R.length)
    (h : w.ownsRow base e 1 v (n + 1) (ivs (R.take n) ++ [Value.int .i64 R[n]])) : w.ownsRow base e 1 v (n + 1) (ivs (R.take (n + 1))) := by
  have : ivs (R.take (n + 1)) = ivs (R.take n) ++ [Value.int .i64 R[n]] := by
    rw [List.take_succ_eq_append_getElem hk]; simp only [ivs, List.map_append, List.map_cons, List.map_nil]
  rwa [this]
theorem own_le {w : World} {base base' : Nat} {e : TypeId} {size n : Nat} {v : Value} {xs : List Value} (hb : base' ≤ base) (h : w.ownsRow base e size v n xs) : w.ownsRow base' e size v n xs := by
  refine ⟨h.1, ?_⟩
  rcases h.2 with h | ⟨g, cap, cur, h1, h2, h3⟩
  · exact .inl h
  · exact .inr ⟨g, cap, cur, h1, Nat.le_trans hb h2, h3⟩

set_option maxRecDepth 100000 in
set_option maxHeartbeats 1000000 in
theorem r8row_any (nm : ByteArray) (f dm : Int) (n : Nat) (par : List (List Int)) (vp : Value) (u : Nat) (w : World) (hp : RRows w vp par) (hn : n ≤ 32) (hr : ∀ row ∈ par, row.length = n) (hu : u < n + par.length) (hN : n + par.length ≤ 32) :
    Calls Tryd.prog 26 #[vCd nm f n vp dm, .int .i64 u] w fun e w' => ∃ v', e = .returned v' ∧ w'.ownsRow w.heap.size 3 1 v' n (ivs (rowOf n par u)) ∧ Ext w w' := by
  have HP := Lib.hid hp
  obtain ⟨A, c, rfl, hlen, hvc⟩ := hp.form
  clear hp
  have HL := Lib.hid (rowOf_length hr hu)
  have HRR := Lib.hid hr
  clear hr
  obtain ⟨R, hR⟩ : ∃ R, R = rowOf n par u := ⟨_, rfl⟩
  rw [← hR] at HL ⊢
  have HR := Lib.hid hR
  clear hR
  have hx0 : Ext w (w.alloc (.cells #[.string nm, .int .i64 f, .int .i64 n, .slice A par.length c, .int .i64 dm] 24)) := ext_alloc (ext_refl w) _
  go_enter Tryd.func26, Tryd.ntmps26
  go_wp2_with fail
  have hc02 : (w.alloc (.cells #[.string nm, .int .i64 f, .int .i64 n, .slice A par.length c, .int .i64 dm] 24)).cell? ⟨w.heap.size, 2, none⟩ = some (.int .i64 n) := by simp [go_sem]
  have hc03 : (w.alloc (.cells #[.string nm, .int .i64 f, .int .i64 n, .slice A par.length c, .int .i64 dm] 24)).cell? ⟨w.heap.size, 3, none⟩ = some (.slice A par.length c) := by simp [go_sem]
  obtain ⟨W0, hW0⟩ : ∃ W0, W0 = w.alloc (.cells #[.string nm, .int .i64 f, .int .i64 n, .slice A par.length c, .int .i64 dm] 24) := ⟨_, rfl⟩
  rw [← hW0] at hx0 hc02 hc03 ⊢
  clear hW0
  have hsz0 := hx0.size
  go_loopw [5, 6] (fun v i wr => ∃ k : Nat, k ≤ n ∧ i = .int .i64 k ∧ Hid (wr.ownsRow W0.heap.size 3 1 v k (ivs (R.take k))) ∧ Ext W0 wr) (fun _ i _ => n - (intOf i).toNat)
  case atStart => exact ⟨0, Nat.zero_le _, rfl, own_nil' _ _ _ _, ext_refl _⟩
  case round =>
    obtain ⟨k, hk, rfl, ho, hx⟩ := hrel
    have hc2 := ext_cell hx hc02
    have hc3 := ext_cell hx hc03
    by_cases hlt : k < n
    · have hlR : k < R.length := by rw [HL.out]; exact hlt
      have hsz := hx.size
      obtain ⟨x, hxx⟩ : ∃ x, x = R[k] := ⟨_, rfl⟩
      have HO1 : Hid ((wr.alloc (.cells #[.int .i64 x] 3)).ownsRow W0.heap.size 3 1 u5 k (ivs (R.take k))) := own_ext ho.out (ext_alloc (ext_refl wr) _)
      have hx1 : Ext W0 (wr.alloc (.cells #[.int .i64 x] 3)) := ext_alloc hx _
      have HNX : Hid (∀ (w1 : World) (v1 : Value), w1.ownsRow W0.heap.size 3 1 v1 (k + 1) (ivs (R.take k) ++ [.int .i64 x]) → w1.ownsRow W0.heap.size 3 1 v1 (k + 1) (ivs (R.take (k + 1)))) := by
        show ∀ _ _, _ → _
        intro w1 v1 h
        rw [hxx] at h
        exact own_next hlR h
      have hcase : (u < n ∧ (((u : Int) == (k : Int)) = true ∧ x = 1 ∨ ((u : Int) == (k : Int)) = false ∧ x = 0)) ∨
          (decide ((u : Int) ≥ (n : Int)) = true ∧ ((u : Int) == (k : Int)) = false ∧ n ≤ u) := by
        by_cases hun : u < n
        · refine .inl ⟨hun, ?_⟩
          have := HR.out
          rw [rowOf_low hun] at this
          subst this
          by_cases huk : u = k
          · exact .inl ⟨by simp [huk], by rw [hxx, List.getElem_map, List.getElem_range, if_pos huk]⟩
          · exact .inr ⟨by rw [beq_eq_false_iff_ne]; omega, by rw [hxx, List.getElem_map, List.getElem_range, if_neg huk]⟩
        · exact .inr ⟨by simp; omega, by rw [beq_eq_false_iff_ne]; omega, by omega⟩
      have HXX := Lib.hid hxx
      clear hxx ho
      rcases hcase with ⟨t1, ⟨t2, rfl⟩ | ⟨t2, rfl⟩⟩ | ⟨t1, t2, hun⟩
      · go_wp2_with (at_builtin; refine wpList_app rfl _ _ 29 rfl W0.heap.size 3 _ 1 8 Tryd.underlying29 info_int rfl (by omega) u5 k (ivs (R.take k)) rfl HO1.out (some ⟨wr.heap.size, 0, none⟩) 1 1 [.int .i64 1] rfl (by simp) (seg_new _ _ _) (by simp [Value.oneCell']) (by simp only [maxLen]; omega) (by omega) (by simp; omega) ?_; intro v1 w1 hown hgrow hat)
        have hx2 : Ext W0 w1 := ext_grown hx1 hgrow (fun i hi => own_base' HO1.out i hi)
        have hown2 := Lib.hid (HNX.out w1 v1 hown)
        clear hown
        go_roundw
        case rel => exact ⟨k + 1, by omega, by simp, hown2, hx2⟩
        case measure => simp [intOf]; omega
      · go_wp2_with (at_builtin; refine wpList_app rfl _ _ 29 rfl W0.heap.size 3 _ 1 8 Tryd.underlying29 info_int rfl (by omega) u5 k (ivs (R.take k)) rfl HO1.out (some ⟨wr.heap.size, 0, none⟩) 1 1 [.int .i64 0] rfl (by simp) (seg_new _ _ _) (by simp [Value.oneCell']) (by simp only [maxLen]; omega) (by omega) (by simp; omega) ?_; intro v1 w1 hown hgrow hat)
        have hx2 : Ext W0 w1 := ext_grown hx1 hgrow (fun i hi => own_base' HO1.out i hi)
        have hown2 := Lib.hid (HNX.out w1 v1 hown)
        clear hown
        go_roundw
        case rel => exact ⟨k + 1, by omega, by simp, hown2, hx2⟩
        case measure => simp [intOf]; omega
      · have hqp : u - n < par.length := by omega
        obtain ⟨-, b, o, v, rfl, hcv, hrv⟩ := (HP.out.ext (ext_trans hx0 hx)).get (u - n) hqp
        have hRq : R = par[u - n] := by rw [HR.out, rowOf_high hun (by omega)]
        rw [← hRq] at hrv
        have HRQ := Lib.hid hRq
        clear hRq
        obtain ⟨A', c', rfl, hl', hsg⟩ := hrv
        rw [List.length_map] at hcv hl'
        obtain ⟨b2, o2, rfl, hcs⟩ := hsg.get (by rw [List.length_map, HL.out]; omega)
        have hck : wr.cell? ⟨b2, o2 + k, none⟩ = some (.int .i64 x) := by
          rw [hcs k (by rw [List.length_map, HL.out]; omega), List.getElem_map]
          exact congrArg (fun z => some (Value.int .i64 z)) HXX.out.symm
        rw [HL.out] at hcv
        clear hcs hsg hl'
        go_wp2_with (at_builtin; refine wpList_app rfl _ _ 29 rfl W0.heap.size 3 _ 1 8 Tryd.underlying29 info_int rfl (by omega) u5 k (ivs (R.take k)) rfl HO1.out (some ⟨wr.heap.size, 0, none⟩) 1 1 [.int .i64 x] rfl (by simp) (seg_new _ _ _) (by simp [Value.oneCell']) (by simp only [maxLen]; omega) (by omega) (by simp; omega) ?_; intro v1 w1 hown hgrow hat)
        have hx2 : Ext W0 w1 := ext_grown hx1 hgrow (fun i hi => own_base' HO1.out i hi)
        have hown2 := Lib.hid (HNX.out w1 v1 hown)
        clear hown
        go_roundw
        case rel => exact ⟨k + 1, by omega, by simp, hown2, hx2⟩
        case measure => simp [intOf]; omega
    · have hk' : k = n := by omega
      have HO : Hid (wr.ownsRow w.heap.size 3 1 u5 n (ivs R)) := by
        have := own_le hsz0 ho.out
        rw [hk', show R.take n = R by rw [← HL.out, List.take_length]] at this
        exact this
      clear hk'
      go_wp2_with fail
      go_ret
      exact ⟨_, rfl, HO.out, ext_trans hx0 hx⟩

end Go.Proofs.YtgflflpeilfinaaDoor

/- The walks of the reference of layer 8: Generator. -/
set_option linter.unusedVariables false
set_option linter.unusedSimpArgs false
namespace Go.Proofs.YtgflflpeilfinaaDoor
open Go.RowKit

/-- The cells of the first k rows of the generator. -/
def genTo (n : Nat) (par : List (List Int)) (k : Nat) : List Int := (List.range k).flatMap (rowOf n par)
theorem genTo_succ (n : Nat) (par : List (List Int)) (k : Nat) : genTo n par (k + 1) = genTo n par k ++ rowOf n par k := by
  simp [genTo, List.range_succ]
def genL (n : Nat) (par : List (List Int)) : List Int := genTo n par (n + par.length)

set_option maxHeartbeats 400000 in
theorem r8gen_err (nm : ByteArray) (f d dm : Int) (par : List (List Int)) (vp : Value) (w : World) (hp : RRows w vp par) (hd1 : d ≤ 12) (hok : okB f d par = false) :
    Calls Tryd.prog 15 #[vCd nm f d vp dm] w (Ret w (.tuple #[.agg #[.int .i64 0, .int .i64 0, .int .i64 0, .slice none 0 0], .int .i64 1])) := by
  have HP := Lib.hid hp
  obtain ⟨A, c, rfl, hlen, hvc⟩ := hp.form
  clear hp
  have hx0 : Ext w ((w.alloc (.cells #[.string nm, .int .i64 f, .int .i64 d, .slice A par.length c, .int .i64 dm] 24)).alloc (.cells #[.int .i64 0, .int .i64 0, .int .i64 0, .slice none 0 0] 31)) := ext_alloc (ext_alloc (ext_refl w) _) _
  have HW : Hid (widthI f d par = 0) := by show _ = _; unfold widthI; rw [hok]; rfl
  clear hok
  go_enter Tryd.func15, Tryd.ntmps15
  go_wp2_with fail
  refine (r8width_any nm f d dm par _ _ (HP.out.ext hx0) hd1).mono ?_
  rintro e w1 ⟨rfl, hx1⟩
  rw [HW.out]
  have HR := row_ext (row_alloc (w.alloc (.cells #[.string nm, .int .i64 f, .int .i64 d, .slice A par.length c, .int .i64 dm] 24)) #[.int .i64 0, .int .i64 0, .int .i64 0, .slice none 0 0] 31 (w.heap.size + 1) (by simp)) hx1
  have r0 := row_cell HR 0 (v := .int .i64 0) rfl
  have r1 := row_cell HR 1 (v := .int .i64 0) rfl
  have r2 := row_cell HR 2 (v := .int .i64 0) rfl
  have r3 := row_cell HR 3 (v := .slice none 0 0) rfl
  have rf : ∀ j, w1.frozen? ⟨w.heap.size + 1, j, none⟩ = false := fun j => frozen_of_row w1 _ j _ _ HR
  go_wp2_with fail
  refine bodyPost_ret (by simp [results, Tryd.results15, go_sem, *]; try rfl) rfl ?_
  have hx2 := ext_trans hx0 hx1
  exact ⟨rfl, ext_set (ext_set (ext_set (ext_set hx2 (by simp) _) (by simp) _) (by simp) _) (by simp) _⟩

theorem own_some {w : World} {base : Nat} {e : TypeId} {size n : Nat} {v : Value} {xs : List Value} (h : w.ownsRow base e size v n xs) (hn : 0 < n) : ∃ g c, v = .slice (some ⟨g, 0, none⟩) n c := by
  rcases h.2 with ⟨_, h⟩ | ⟨g, cap, cur, h1, _⟩
  · omega
  · exact ⟨g, cap, h1⟩

set_option maxRecDepth 100000 in
set_option maxHeartbeats 1000000 in
theorem r8gen_ok (nm : ByteArray) (m n : Nat) (dm : Int) (par : List (List Int)) (vp : Value) (w : World) (hp : RRows w vp par) (hd1 : n ≤ 12) (hok : okB m n par = true) :
    Calls Tryd.prog 15 #[vCd nm m n vp dm] w fun e w' => ∃ v', e = .returned (.tuple #[.agg #[.int .i64 m, .int .i64 (n + par.length : Nat), .int .i64 n, v'], .int .i64 0]) ∧ w'.ownsRow w.heap.size 3 1 v' ((n + par.length) * n) (ivs (genL n par)) ∧ Ext w w' := by
  have HP := Lib.hid hp
  obtain ⟨A, c, rfl, hlen, hvc⟩ := hp.form
  clear hp
  obtain ⟨m', n', em, en, hm, hn1, hn2, hrows⟩ := okB_facts hok
  obtain rfl : m = m' := by omega
  obtain rfl : n = n' := by omega
  have HR := Lib.hid (fun row h => (hrows row h).1)
  have hx0 : Ext w ((w.alloc (.cells #[.string nm, .int .i64 m, .int .i64 n, .slice A par.length c, .int .i64 dm] 24)).alloc (.cells #[.int .i64 0, .int .i64 0, .int .i64 0, .slice none 0 0] 31)) := ext_alloc (ext_alloc (ext_refl w) _) _
  obtain ⟨N, hN⟩ : ∃ N, N = n + par.length := ⟨_, rfl⟩
  have HW : Hid (widthI m n par = N) := by show _ = _; unfold widthI; rw [hok, hN]; simp
  have HN := Lib.hid hN
  have hN32 : N ≤ 32 := by omega
  have hN1 : 1 ≤ N := by omega
  have HG : Hid (genL n par = genTo n par N) := by show _ = _; rw [hN]; rfl
  rw [← hN]
  clear hok hrows hm hN em en
  go_enter Tryd.func15, Tryd.ntmps15
  go_wp2_with fail
  refine (r8width_any nm m n dm par _ _ (HP.out.ext hx0) (by omega)).mono ?_
  rintro e w1 ⟨rfl, hx1⟩
  rw [HW.out]
  have HRr := row_ext (row_alloc (w.alloc (.cells #[.string nm, .int .i64 m, .int .i64 n, .slice A par.length c, .int .i64 dm] 24)) #[.int .i64 0, .int .i64 0, .int .i64 0, .slice none 0 0] 31 (w.heap.size + 1) (by simp)) hx1
  have HRc := row_ext (row_alloc_old (row_alloc w #[.string nm, .int .i64 m, .int .i64 n, .slice A par.length c, .int .i64 dm] 24 w.heap.size rfl) (.cells #[.int .i64 0, .int .i64 0, .int .i64 0, .slice none 0 0] 31)) hx1
  have c0 := row_cell HRc 0 (v := .string nm) rfl
  have c1 := row_cell HRc 1 (v := .int .i64 m) rfl
  have c2 := row_cell HRc 2 (v := .int .i64 n) rfl
  have c3 := row_cell HRc 3 (v := .slice A par.length c) rfl
  have c4 := row_cell HRc 4 (v := .int .i64 dm) rfl
  have hx2 := ext_trans hx0 hx1
  have t0 : ((N : Int) == 0) = false := by rw [beq_eq_false_iff_ne]; omega
  go_wp2_with fail
  have HG0 := row_alloc w1 #[.int .i64 m, .int .i64 N, .int .i64 n, .slice none 0 0] 31 w1.heap.size rfl
  have hx3 := ext_alloc hx2 (.cells #[.int .i64 m, .int .i64 N, .int .i64 n, .slice none 0 0] 31)
  have hx13 : Ext w1 (w1.alloc (.cells #[.int .i64 m, .int .i64 N, .int .i64 n, .slice none 0 0] 31)) := ext_alloc (ext_refl w1) _
  have hlt0 : w1.heap.size < (w1.alloc (.cells #[.int .i64 m, .int .i64 N, .int .i64 n, .slice none 0 0] 31)).heap.size := by simp
  obtain ⟨W0, hW0⟩ : ∃ W0, W0 = w1.alloc (.cells #[.int .i64 m, .int .i64 N, .int .i64 n, .slice none 0 0] 31) := ⟨_, rfl⟩
  rw [← hW0] at HG0 hx3 hx13 hlt0 ⊢
  clear hW0
  have c0 := ext_cell hx13 c0
  have c1 := ext_cell hx13 c1
  have c2 := ext_cell hx13 c2
  have c3 := ext_cell hx13 c3
  have c4 := ext_cell hx13 c4
  obtain ⟨G, hG⟩ : ∃ G, G = w1.heap.size := ⟨_, rfl⟩
  have hGw : w.heap.size + 1 < G := by have := hx1.size; simp at this; omega
  rw [← hG] at HG0 hlt0 ⊢
  have HRr := row_ext HRr hx13
  clear hG HRc hx1 hx13 hx2
  go_loopw [6] (fun i wr => ∃ (k : Nat) (v : Value), k ≤ N ∧ i = .int .i64 k ∧ Hid (wr.ownsRow W0.heap.size 3 1 v (k * n) (ivs (genTo n par k))) ∧ Hid (Wrote W0 G 31 #[.int .i64 m, .int .i64 N, .int .i64 n, v] wr)) (fun i _ => N - (intOf i).toNat)
  case atStart => exact ⟨0, .slice none 0 0, Nat.zero_le _, rfl, by rw [Nat.zero_mul]; exact own_nil' _ _ _ _, Wrote.init HG0⟩
  case round =>
    obtain ⟨k, v, hk, rfl, ho, hw⟩ := hrel
    have d0 := hw.out.far c0 (by simp; omega)
    have d1 := hw.out.far c1 (by simp; omega)
    have d2 := hw.out.far c2 (by simp; omega)
    have d3 := hw.out.far c3 (by simp; omega)
    have d4 := hw.out.far c4 (by simp; omega)
    have g0 := row_cell hw.out.row 0 (v := .int .i64 m) rfl
    have g1 := row_cell hw.out.row 1 (v := .int .i64 N) rfl
    have g2 := row_cell hw.out.row 2 (v := .int .i64 n) rfl
    have g3 := row_cell hw.out.row 3 (v := v) rfl
    have gf : ∀ j, wr.frozen? ⟨G, j, none⟩ = false := fun j => frozen_of_row wr _ j _ _ hw.out.row
    have hxw := hw.out.toExt hx3 (by omega)
    by_cases hlt : k < N
    · have hRow := Lib.hid fun W (h : RRows W (.slice A par.length c) par) => r8row_any nm m dm n par (.slice A par.length c) k W h (by omega) HR.out (by rw [← HN.out]; exact hlt) (by rw [← HN.out]; exact hN32)
      have hkn : k * n ≤ 1024 := Nat.le_trans (Nat.mul_le_mul (show k ≤ 32 by omega) (show n ≤ 12 by omega)) (by omega)
      have HL := Lib.hid (rowOf_length (u := k) HR.out (by rw [← HN.out]; exact hlt))
      obtain ⟨i0, hi0, hz0, hz1, hz2⟩ := info_parts info_int
      have HS := Lib.hid (genTo_succ n par k)
      have hsw := hw.out.grown.size
      go_wp2_with fail
      go_region_law (first
        | (refine step_append_lies _ (by rfl) _ _ _ (by rfl) W0.heap.size 3 i0 _ 1 8 Tryd.underlying29 hi0 hz0 hz1 hz2 rfl (by omega) v (k * n) (ivs (genTo n par k)) (by rfl) HOc.out
            ⟨gr, 0, none⟩ n cr (ivs (rowOf n par k)) (by rfl) (by rw [List.length_map, HL.out, Nat.mul_one]) (fun j u hu => ho3.cells rfl j u hu) (one_ints _)
            (by omega) (by simp only [maxLen]; omega) (by omega) (by have := hx3'.size; simp at this; omega) w3.heap.size rfl ?_
           intro gg cap w4 hown1 hgrow hat hlt1
           have hW4 := Lib.hid (HWr.out.app hgrow (fun i hi => own_base' HOc.out i hi) hlt0)
           have q3 := row_cell hW4.out.row 3 (v := v) rfl
           have qf : ∀ j, w4.frozen? ⟨G, j, none⟩ = false := fun j => frozen_of_row w4 _ j _ _ hW4.out.row)
        | (go_simp
           go_at_call 26
           refine (hRow.out _ (HP.out.ext (ext_drew hxw))).mono ?_
           rintro e w3 ⟨v', rfl, ho3, hx3'⟩
           obtain ⟨gr, cr, rfl⟩ := own_some ho3 (by omega)
           have HOc : Hid (w3.ownsRow W0.heap.size 3 1 v (k * n) (ivs (genTo n par k))) := own_ext ho.out.drew hx3'
           have HWr := Lib.hid (hw.out.drew.ext hx3')
           have p3 := row_cell HWr.out.row 3 (v := v) rfl
           have pf : ∀ j, w3.frozen? ⟨G, j, none⟩ = false := fun j => frozen_of_row w3 _ j _ _ HWr.out.row))
      all_goals
        have hW5 := Lib.hid (hW4.out.set 3 (.slice (some ⟨gg, 0, none⟩) (k * n + n) cap))
        have ho5 : Hid ((w4.setCell ⟨G, 3, none⟩ (.slice (some ⟨gg, 0, none⟩) (k * n + n) cap)).ownsRow W0.heap.size 3 1 (.slice (some ⟨gg, 0, none⟩) ((k + 1) * n) cap) ((k + 1) * n) (ivs (genTo n par (k + 1)))) := by
          show World.ownsRow _ _ _ _ _ _ _
          rw [HS.out, Nat.add_mul, Nat.one_mul, ivs, List.map_append]
          exact own_far hown1 (grown_set _ _ _) hlt0
        rw [show k * n + n = (k + 1) * n by rw [Nat.add_mul, Nat.one_mul]] at hW5 ho5 ⊢
        clear hown1 HWr hW4 HOc ho3
        go_wp2_with fail
        go_roundw
        case rel => exact ⟨k + 1, _, by omega, by simp, ho5, hW5⟩
        case measure => simp [intOf]; omega
    · have hk' : k = N := by omega
      subst hk'
      have HG2 := HG
      have hRr := (hw.out.grown.block (w.heap.size + 1) (Array.getElem?_eq_some_iff.1 HRr).1 (by intro e; injection e with e; omega)).trans HRr
      have r0 := row_cell hRr 0 (v := .int .i64 0) rfl
      have r1 := row_cell hRr 1 (v := .int .i64 0) rfl
      have r2 := row_cell hRr 2 (v := .int .i64 0) rfl
      have r3 := row_cell hRr 3 (v := .slice none 0 0) rfl
      have rf : ∀ j, wr.frozen? ⟨w.heap.size + 1, j, none⟩ = false := fun j => frozen_of_row wr _ j _ _ hRr
      obtain ⟨A2, cc, rfl, -⟩ := own_seg ho.out (by omega)
      go_wp2_with fail
      refine bodyPost_ret (by simp [results, Tryd.results15, go_sem, *]; try rfl) rfl ?_
      refine ⟨_, rfl, ?_, ext_set (ext_set (ext_set (ext_set hxw (by simp) _) (by simp) _) (by simp) _) (by simp) _⟩
      rw [HG.out]
      have hb : w.heap.size + 1 < W0.heap.size := by omega
      exact own_le (by omega) (own_far (own_far (own_far (own_far ho.out (grown_set _ _ _) hb) (grown_set _ _ _) hb) (grown_set _ _ _) hb) (grown_set _ _ _) hb)

end Go.Proofs.YtgflflpeilfinaaDoor

/- The walks of the reference of layer 8: Encode. -/
set_option linter.unusedVariables false
set_option linter.unusedSimpArgs false
namespace Go.Proofs.YtgflflpeilfinaaDoor
open Go.RowKit

theorem uniOne_no (f : Int) (n : Nat) (u : ByteArray) (h : u.size ≠ n) : uniOne f n u = false := by unfold uniOne; rw [decide_eq_false h]; rfl

set_option maxRecDepth 100000 in
set_option maxHeartbeats 2000000 in
theorem r8enc_err (nm : ByteArray) (f d dm : Int) (par : List (List Int)) (vp vu : Value) (data : List ByteArray) (w : World) (hp : RRows w vp par) (hd1 : d ≤ 12)
    (hu : RStrs w vu data) (hsz : ∀ u ∈ data, u.size ≤ lim) (hdl : data.length ≤ 1000000) (he : encB f d par data = false) :
    Calls Tryd.prog 17 #[vCd nm f d vp dm, vu] w (Ret w (.tuple #[.slice none 0 0, .int .i64 1])) := by
  have HP := Lib.hid hp
  have HU := Lib.hid hu
  have HZ := Lib.hid hsz
  obtain ⟨A, c, rfl, hlen, hvc⟩ := hp.form
  obtain ⟨B, cB, rfl, hlB, hsB⟩ := hu
  rw [List.length_map] at hlB HU ⊢
  rw [lim_val] at hlB
  have HSB := Lib.hid hsB
  clear hp hsz hsB
  have hx0 : Ext w (w.alloc (.cells #[.string nm, .int .i64 f, .int .i64 d, .slice A par.length c, .int .i64 dm] 24)) := ext_alloc (ext_refl w) _
  have HE := Lib.hid he
  clear he
  go_enter Tryd.func17, Tryd.ntmps17
  go_wp2_with fail
  refine (r8valid_any nm f d dm par _ _ (HP.out.ext hx0) hd1).mono ?_
  rintro e w1 ⟨rfl, hx1⟩
  have hx2 := ext_trans hx0 hx1
  have hc1 : w1.cell? ⟨w.heap.size, 1, none⟩ = some (.int .i64 f) := ext_cell hx1 (by simp [go_sem])
  have hc2 : w1.cell? ⟨w.heap.size, 2, none⟩ = some (.int .i64 d) := ext_cell hx1 (by simp [go_sem])
  cases hb : okB f d par with
  | false =>
    clear hb
    go_wp2_with fail
    go_ret2
    exact ⟨rfl, hx2⟩
  | true =>
    by_cases h1 : (data.length : Int) = d
    · have t1 : ((data.length : Int) != d) = false := by simp [h1]
      obtain ⟨m, n, em, en, hm, hn1, hn2, -⟩ := okB_facts hb
      have EF : Hid (uniB f data = false) := by
        have := HE.out
        unfold encB at this
        rw [hb, decide_eq_true h1] at this
        exact (by simpa using this : uniB f data = false)
      have hpos : 0 < data.length := by omega
      obtain ⟨u0, hu0⟩ : ∃ u, u = data[0] := ⟨_, rfl⟩
      have EU : Hid (uniB f data = data.all (uniOne f u0.size)) := by
        show _ = _
        unfold uniB
        rw [List.getElem?_eq_getElem hpos, hu0]; rfl
      have hu0l : u0.size ≤ 140737488355328 := by rw [hu0]; exact HZ.out _ (List.getElem_mem _)
      have hf : f = 8 ∨ f = 16 := by rcases hm with rfl | rfl <;> omega
      have HU0 := Lib.hid hu0
      have HF := Lib.hid hf
      clear hm hb h1 hu0 hf em
      subst en
      have HO0 : Hid ((w1.alloc (.cells #[] 9)).ownsRow w1.heap.size 9 1 (.slice (some ⟨w1.heap.size, 0, none⟩) 0 0) 0 []) := own_empty _ _ _ _ (Nat.le_refl _)
      have hx3 : Ext w1 (w1.alloc (.cells #[] 9)) := ext_alloc (ext_refl w1) _
      go_wp2_with (at_builtin; refine wpList_app rfl _ _ 25 rfl w1.heap.size 9 _ 1 16 Tryd.underlying25 info_str rfl (by omega) _ 0 [] rfl HO0.out _ data.length cB (data.map .string) rfl (by simp) ((HSB.out.ext hx2).ext hx3) (one_strings data) (by simp only [maxLen]; omega) (by omega) (by simp) ?_; intro v1 w2 ho hg hat)
      have hx4 : Ext w1 w2 := ext_grown hx3 hg (fun i hi => own_base' HO0.out i hi)
      have hx5 := ext_trans hx2 hx4
      have hc1' := ext_cell hx4 hc1
      clear ho hg hat HO0
      go_loopw [8] (fun i wr => ∃ k : Nat, k ≤ data.length ∧ i = .int .i64 k ∧ Hid ((data.take k).all (uniOne f u0.size) = true) ∧ Ext w2 wr) (fun i _ => data.length - (intOf i).toNat)
      case atStart => exact ⟨0, Nat.zero_le _, rfl, by show _ = _; simp, ext_refl _⟩
      case round =>
        obtain ⟨k, hk, rfl, ha, hx⟩ := hrel
        have hd1 := ext_cell hx hc1'
        have hx6 := ext_trans hx5 hx
        by_cases hlt : k < data.length
        · obtain ⟨b, o, rfl, hcs⟩ := (HSB.out.ext hx6).get (by simp; omega)
          have hk0 : wr.cell? ⟨b, o, none⟩ = some (.string u0) := by
            have := hcs 0 (by simp; omega)
            rw [List.getElem_map, ← HU0.out] at this
            exact this
          have hkk := hcs k (by simp; omega)
          simp only [List.getElem_map] at hkk
          obtain ⟨u, huu⟩ : ∃ u, u = data[k] := ⟨_, rfl⟩
          rw [← huu] at hkk
          have hul : u.size ≤ 140737488355328 := by rw [huu]; exact HZ.out _ (List.getElem_mem _)
          have HUU := Lib.hid huu
          clear huu hcs
          have hcase : (((u.size : Int) != (u0.size : Int)) = true) ∨ (((u.size : Int) != (u0.size : Int)) = false ∧
              ((f == 16) = true ∧ ((u.size : Int) % 2 == 1) = true ∨ ((f == 16) = true ∧ ((u.size : Int) % 2 == 1) = false ∨ (f == 16) = false) ∧ uniOne f u0.size u = true)) := by
            by_cases hs : u.size = u0.size
            · refine .inr ⟨by simp [hs], ?_⟩
              rcases HF.out with rfl | rfl
              · exact .inr ⟨.inr rfl, by simp [uniOne, hs]⟩
              · by_cases h2 : u.size % 2 = 0
                · exact .inr ⟨.inl ⟨rfl, by rw [beq_eq_false_iff_ne]; omega⟩, by rw [hs] at h2; simp [uniOne, hs, h2]⟩
                · exact .inl ⟨rfl, by rw [beq_iff_eq]; omega⟩
            · exact .inl (by simp; omega)
          rcases hcase with s1 | ⟨s1, ⟨s2, s3⟩ | ⟨⟨s2, s3⟩ | s2, hone⟩⟩
          · go_wp2_with fail
            go_quiet (fail)
            have hx7 := drewN_ext hx6 nq
            go_wp2_with fail
            go_ret2
            exact ⟨rfl, hx7⟩
          · go_wp2_with fail
            go_quiet (fail)
            have hx7 := drewN_ext hx6 nq
            go_wp2_with fail
            go_ret2
            exact ⟨rfl, hx7⟩
          · have HN := Lib.hid (all_next hlt ha.out (by rw [← HUU.out]; exact hone))
            clear hone
            go_wp2_with fail
            go_quiet (fail)
            have hx7 := drewN_ext hx nq
            go_wp2_with fail
            go_roundw
            case rel => exact ⟨k + 1, by omega, by simp, HN, hx7⟩
            case measure => simp [intOf]; omega
          · have HN := Lib.hid (all_next hlt ha.out (by rw [← HUU.out]; exact hone))
            clear hone
            go_wp2_with fail
            go_quiet (fail)
            have hx7 := drewN_ext hx nq
            go_wp2_with fail
            go_roundw
            case rel => exact ⟨k + 1, by omega, by simp, HN, hx7⟩
            case measure => simp [intOf]; omega
        · exfalso
          have hk' : k = data.length := by omega
          have := all_end hk' ha.out
          rw [← EU.out, EF.out] at this
          cases this
    · have t1 : ((data.length : Int) != d) = true := by simpa using h1
      clear h1 hb
      go_wp2_with fail
      go_ret2
      exact ⟨rfl, hx2⟩

set_option maxRecDepth 100000 in
set_option maxHeartbeats 2000000 in
theorem r8enc_ok (nm : ByteArray) (m n : Nat) (dm : Int) (par : List (List Int)) (vp vu : Value) (data : List ByteArray) (w : World) (hp : RRows w vp par) (hd1 : n ≤ 12)
    (hu : RStrs w vu data) (hsz : ∀ u ∈ data, u.size ≤ lim) (he : encB m n par data = true) :
    Calls Tryd.prog 17 #[vCd nm m n vp dm, vu] w fun e w' => ∃ v', e = .returned (.tuple #[v', .int .i64 0]) ∧ w'.ownsRow w.heap.size 9 1 v' (encL m par data).length ((encL m par data).map .string) ∧ Ext w w' := by
  have HP := Lib.hid hp
  have HU := Lib.hid hu
  have HZ := Lib.hid hsz
  obtain ⟨hb, hd, hun⟩ : okB m n par = true ∧ data.length = n ∧ uniB m data = true := by
    unfold encB at he
    simp only [Bool.and_eq_true, decide_eq_true_eq] at he
    exact ⟨he.1, by omega, he.2.2⟩
  obtain ⟨m', n', em, en, hm, hn1, hn2, hrows⟩ := okB_facts hb
  obtain rfl : m = m' := by omega
  obtain rfl : n = n' := by omega
  have HB := Lib.hid hb
  have HN := Lib.hid hun
  have HM := Lib.hid hm
  have HR := Lib.hid hrows
  subst hd
  obtain ⟨A, c, rfl, hlen, hvc⟩ := hp.form
  obtain ⟨B, cB, rfl, hlB, hsB⟩ := hu
  rw [List.length_map] at hlB HU ⊢
  rw [lim_val] at hlB
  have HSB := Lib.hid hsB
  have t1 : ((data.length : Int) != (data.length : Int)) = false := by simp
  obtain ⟨sz, hsz0⟩ : ∃ sz, sz = (data[0]?.getD ByteArray.empty).size := ⟨_, rfl⟩
  have hus : ∀ u ∈ data, u.size = sz ∧ (m = 8 ∨ u.size % 2 = 0) := by
    intro u hm'
    have := List.all_eq_true.1 hun u hm'
    unfold uniOne at this
    simp only [Bool.and_eq_true, Bool.or_eq_true, decide_eq_true_eq] at this
    exact ⟨by rw [hsz0]; exact this.1, this.2.imp (fun h => by omega) id⟩
  have hd0 : data[0]'(by omega) ∈ data := List.getElem_mem _
  have hszl : sz ≤ lim := by rw [← (hus _ hd0).1]; exact hsz _ hd0
  have hszl2 : sz ≤ 140737488355328 := hszl
  have hszm : sz % (m / 8) = 0 := by
    have h0 := hus _ hd0
    rcases hm with rfl | rfl
    · simp; omega
    · simp; omega
  have hf : (((m : Int) == 16) = true ∧ ((sz : Int) % 2 == 1) = false ∨ ((m : Int) == 16) = false) := by
    rcases hm with rfl | rfl
    · exact .inr rfl
    · exact .inl ⟨rfl, by rw [beq_eq_false_iff_ne]; simp at hszm; omega⟩
  have HUS := Lib.hid hus
  have HSL := Lib.hid hszl
  have HSM := Lib.hid hszm
  have HS0 := Lib.hid hsz0
  have HF := Lib.hid hf
  clear hp hsz he hb hun hm hrows hus hd0 hszl hszm em en hsz0 hsB hf
  have hx0 : Ext w (w.alloc (.cells #[.string nm, .int .i64 m, .int .i64 data.length, .slice A par.length c, .int .i64 dm] 24)) := ext_alloc (ext_refl w) _
  go_enter Tryd.func17, Tryd.ntmps17
  go_wp2_with fail
  refine (r8valid_any nm m data.length dm par _ _ (HP.out.ext hx0) (by omega)).mono ?_
  rintro e w1 ⟨rfl, hx1⟩
  rw [HB.out]
  have hx2 := ext_trans hx0 hx1
  have hc1 : w1.cell? ⟨w.heap.size, 1, none⟩ = some (.int .i64 m) := ext_cell hx1 (by simp [go_sem])
  have hc2 : w1.cell? ⟨w.heap.size, 2, none⟩ = some (.int .i64 data.length) := ext_cell hx1 (by simp [go_sem])
  have hc3 : w1.cell? ⟨w.heap.size, 3, none⟩ = some (.slice A par.length c) := ext_cell hx1 (by simp [go_sem])
  have HO0 : Hid ((w1.alloc (.cells #[] 9)).ownsRow w1.heap.size 9 1 (.slice (some ⟨w1.heap.size, 0, none⟩) 0 0) 0 []) := own_empty _ _ _ _ (Nat.le_refl _)
  have hx3 : Ext w1 (w1.alloc (.cells #[] 9)) := ext_alloc (ext_refl w1) _
  go_wp2_with (at_builtin; refine wpList_app rfl _ _ 25 rfl w1.heap.size 9 _ 1 16 Tryd.underlying25 info_str rfl (by omega) _ 0 [] rfl HO0.out _ data.length cB (data.map .string) rfl (by simp) ((HSB.out.ext hx2).ext hx3) (one_strings data) (by simp only [maxLen]; omega) (by omega) (by simp) ?_; intro v1 w2 ho hg hat)
  have hx4 : Ext w1 w2 := ext_grown hx3 hg (fun i hi => own_base' HO0.out i hi)
  have hx5 := ext_trans hx2 hx4
  have hc1' := ext_cell hx4 hc1
  have hc3' := ext_cell hx4 hc3
  rw [Nat.zero_add, List.nil_append] at ho
  have HO := Lib.hid ho
  have hsz1 := hx2.size
  have hsz12 := hx4.size
  clear ho hg hat HO0 hc2 hx3
  go_loopw [8] (fun i wr => ∃ k : Nat, k ≤ data.length ∧ i = .int .i64 k ∧ Ext w2 wr) (fun i _ => data.length - (intOf i).toNat)
  case atStart => exact ⟨0, Nat.zero_le _, rfl, ext_refl _⟩
  case round =>
    obtain ⟨k, hk, rfl, hx⟩ := hrel
    have hd1 := ext_cell hx hc1'
    have hd3 := ext_cell hx hc3'
    have hx6 := ext_trans hx5 hx
    by_cases hlt : k < data.length
    · obtain ⟨b, o, rfl, hcs⟩ := (HSB.out.ext hx6).get (by simp; omega)
      have hk0 := hcs 0 (by simp; omega)
      have hkk := hcs k (by simp; omega)
      simp only [List.getElem_map, Nat.add_zero] at hkk hk0
      obtain ⟨u0, hu0⟩ : ∃ u, u = data[0]'(by omega) := ⟨_, rfl⟩
      obtain ⟨u, huu⟩ : ∃ u, u = data[k] := ⟨_, rfl⟩
      rw [← hu0] at hk0
      rw [← huu] at hkk
      have e0 : u0.size = sz := (HUS.out u0 (by rw [hu0]; exact List.getElem_mem _)).1
      have e1 : u.size = sz := (HUS.out u (by rw [huu]; exact List.getElem_mem _)).1
      have s1 : ((u.size : Int) != (u0.size : Int)) = false := by simp [e0, e1]
      have hul : u.size ≤ 140737488355328 := by omega
      have hul0 : u0.size ≤ 140737488355328 := by omega
      clear huu hu0 hcs
      rcases HF.out with ⟨s2, s3⟩ | s2
      · rw [← e1] at s3
        clear e0 e1
        go_wp2_with fail
        go_quiet (fail)
        have hx7 := drewN_ext hx nq
        go_wp2_with fail
        go_roundw
        case rel => exact ⟨k + 1, by omega, by simp, hx7⟩
        case measure => simp [intOf]; omega
      · clear e0 e1
        go_wp2_with fail
        go_quiet (fail)
        have hx7 := drewN_ext hx nq
        go_wp2_with fail
        go_roundw
        case rel => exact ⟨k + 1, by omega, by simp, hx7⟩
        case measure => simp [intOf]; omega
    · have HO2 := Lib.hid (own_ext HO.out hx)
      go_wp2_with fail
      clear hlt hk
      obtain ⟨W3, hW3⟩ : ∃ W3, W3 = wr := ⟨_, rfl⟩
      rw [← hW3] at hd1 hd3 hx hx6 HO2 ⊢
      clear hW3
      have hsz3 := hx.size
      go_loopw [7, 9] (fun v i wr => ∃ k : Nat, k ≤ par.length ∧ i = .int .i64 k ∧ Hid (wr.ownsRow w1.heap.size 9 1 v (data.length + k) ((data ++ (par.take k).map (parU m data)).map .string)) ∧ Ext w1 wr) (fun _ i _ => par.length - (intOf i).toNat)
      case atStart => exact ⟨0, Nat.zero_le _, rfl, by show World.ownsRow _ _ _ _ _ _ _; simpa using HO2.out, ext_trans hx4 hx⟩
      case round =>
        obtain ⟨q, hq, rfl, ho, hx8⟩ := hrel
        have q1 := ext_cell hx8 hc1
        have q3 := ext_cell hx8 hc3
        have hx9 := ext_trans hx2 hx8
        have hsz8 := hx8.size
        by_cases hlt : q < par.length
        · obtain ⟨-, b, o, rv, rfl, hcell, hrv⟩ := (RRows.ext HP.out hx9).get q hlt
          obtain ⟨row, hrow⟩ : ∃ row, row = par[q] := ⟨_, rfl⟩
          rw [← hrow] at hrv
          obtain ⟨hr1, hr2, -⟩ := HR.out row (by rw [hrow]; exact List.getElem_mem _)
          obtain ⟨hn1', hn2'⟩ := natRow_of hr2
          have hnl : (natRow row).length = data.length := by rw [natRow, List.length_map]; exact hr1
          rw [← hn1'] at hrv
          have HCC := Lib.hid fun W (h1 : RInts W rv _) (h2 : RStrs W (.slice B data.length cB) data) => r5combine_ok m HM.out (natRow row) data sz hn2' (by intro h; rw [h] at hnl; simp at hnl; omega) hnl (fun u hu => (HUS.out u hu).1) HSM.out HSL.out rv _ W h1 h2
          obtain ⟨p, hp⟩ : ∃ p, p = combR m (natRow row) data sz := ⟨_, rfl⟩
          have HPU : Hid (data ++ (par.take (q + 1)).map (parU m data) = data ++ (par.take q).map (parU m data) ++ [p]) := by
            show _ = _
            rw [List.take_succ_eq_append_getElem hlt, List.map_append, ← List.append_assoc, hp, ← hrow]
            simp only [List.map_cons, List.map_nil, parU, HS0.out]
          have HRV := Lib.hid hrv
          rw [← hp] at HCC
          clear hrow hr1 hr2 hn1' hn2' hnl hp hrv
          go_wp2_with fail
          go_region_held3 (fun w' => w'.cell? ⟨w.heap.size, 1, none⟩ = some (.int .i64 m) ∧ w'.cell? ⟨w.heap.size, 3, none⟩ = some (.slice (some ⟨b, o, none⟩) par.length c) ∧ w'.cell? ⟨b, o + q, none⟩ = some rv) (first | exact ⟨q1, q3, hcell⟩ | exact ⟨ext_cell hx10 q1, ext_cell hx10 q3, ext_cell hx10 hcell⟩)
            ((go_at_call 44; refine (HCC.out _ (HRV.out.ext (ext_drew (ext_refl _))) (HU.out.ext (ext_drew hx9))).mono ?_; rintro e w4 ⟨rfl, hx10⟩))
          all_goals
            have HO4 := Lib.hid (own_ext ho.out.drew hx10)
            have hx11 := ext_trans (ext_drew hx8) hx10
            have hsz11 := hx11.size
            go_wp2_with (at_builtin; refine wpList_app rfl _ _ 25 rfl w1.heap.size 9 _ 1 16 Tryd.underlying25 info_str rfl (by omega) _ (data.length + q) _ rfl (own_ext HO4.out (ext_alloc (ext_refl w4) _)) (some ⟨w4.heap.size, 0, none⟩) 1 1 [.string p] rfl (by simp) (seg_new _ _ _) (by simp [Value.oneCell']) (by simp only [maxLen]; omega) (by omega) (by simp; omega) ?_; intro v5 w5 ho5 hg5 hat5)
            have HO5 : Hid (w5.ownsRow w1.heap.size 9 1 v5 (data.length + (q + 1)) ((data ++ (par.take (q + 1)).map (parU m data)).map .string)) := by
              show World.ownsRow _ _ _ _ _ _ _
              rw [HPU.out, List.map_append]
              simpa [Nat.add_assoc] using ho5
            have hx12 : Ext w1 w5 := ext_grown (ext_alloc hx11 _) hg5 (fun i hi => own_base' HO4.out i hi)
            clear ho5 hg5 hat5
            go_roundw
            case rel => exact ⟨q + 1, by omega, by simp, HO5.out, hx12⟩
            case measure => simp [intOf]; omega
        · have hk' : q = par.length := by omega
          have HOF : Hid (wr.ownsRow w.heap.size 9 1 u7 (encL m par data).length ((encL m par data).map .string)) := by
            have := own_le hsz1 ho.out
            rw [hk', List.take_length] at this
            have e : (encL m par data).length = data.length + par.length := by simp [encL]
            rw [e]
            exact this
          clear hk'
          go_wp2_with fail
          go_ret2
          exact ⟨_, rfl, HOF.out, hx9⟩

end Go.Proofs.YtgflflpeilfinaaDoor
