/- The walks of the reference of layer 8: Small, Few, the comparisons. -/
import Derived.Test.YtgflflpeilfinaaDoorEraEnc
import Derived.Test.YtgflflpeilfinaaDoorR5e
set_option linter.unusedVariables false
set_option linter.unusedSimpArgs false
namespace Go.Proofs.YtgflflpeilfinaaDoor
open Go.RowKit

theorem all_at {α : Type} {p : α → Bool} {xs : List α} {k : Nat} (hk : k < xs.length) (h : p xs[k] = false) : xs.all p = false := by
  cases e : xs.all p with
  | false => rfl
  | true => rw [List.all_eq_true] at e; rw [e _ (List.getElem_mem hk)] at h; exact h
theorem all_next {α : Type} {p : α → Bool} {xs : List α} {k : Nat} (hk : k < xs.length) (h : (xs.take k).all p = true) (h1 : p xs[k] = true) : (xs.take (k + 1)).all p = true := by
  rw [List.take_succ_eq_append_getElem hk, List.all_append, h]
  simp [h1]
theorem all_end {α : Type} {p : α → Bool} {xs : List α} {k : Nat} (hk : k = xs.length) (h : (xs.take k).all p = true) : xs.all p = true := by
  rwa [hk, List.take_length] at h

def smallB (d : Int) (par : List (List Int)) : Bool := decide (d ≤ 12) && (decide (par.length ≤ 8) && par.all fun r => decide (r.length ≤ 12))
def fewB (us : List ByteArray) : Bool := decide (us.length ≤ 24) && us.all fun u => decide (u.size ≤ 64)

set_option maxHeartbeats 800000 in
theorem small_any (nm : ByteArray) (f d dm : Int) (par : List (List Int)) (vp : Value) (w : World) (hp : RRows w vp par) :
    Calls Tryd.prog 12 #[vCd nm f d vp dm] w (Ret w (.bool (smallB d par))) := by
  have HP := Lib.hid hp
  obtain ⟨A, c, rfl, hlen, hvc⟩ := hp.form
  clear hp
  have hx0 : Ext w (w.alloc (.cells #[.string nm, .int .i64 f, .int .i64 d, .slice A par.length c, .int .i64 dm] 24)) := ext_alloc (ext_refl w) _
  have HS : Hid (smallB d par = (decide (d ≤ 12) && (decide (par.length ≤ 8) && par.all fun r => decide (r.length ≤ 12)))) := by show _ = _; rfl
  by_cases hd : d ≤ 12
  · have t1 : decide (d > 12) = false := by simp; omega
    by_cases hn : par.length ≤ 8
    · have t2 : decide ((par.length : Int) > 8) = false := by simp; omega
      have HS2 : Hid (smallB d par = (par.all fun r => decide (r.length ≤ 12))) := by show _ = _; rw [HS.out, decide_eq_true hd, decide_eq_true hn]; rfl
      clear hd
      go_enter Tryd.func12, Tryd.ntmps12
      go_wp2_with fail
      go_loop [3] (fun i => ∃ k : Nat, k ≤ par.length ∧ i = .int .i64 k ∧ Hid (((par.take k).all fun r => decide (r.length ≤ 12)) = true)) (fun i => par.length - (intOf i).toNat)
      case atStart => exact ⟨0, Nat.zero_le _, rfl, by show _ = _; simp⟩
      case round =>
        obtain ⟨k, hk, rfl, ha⟩ := hrel
        by_cases hlt : k < par.length
        · obtain ⟨-, b, o, v, rfl, hcv, hrv⟩ := (HP.out.ext hx0).get k hlt
          obtain ⟨r, hr⟩ : ∃ r, r = par[k] := ⟨_, rfl⟩
          rw [← hr] at hrv
          obtain ⟨A', c', rfl, hl', -⟩ := hrv
          rw [List.length_map, lim_val] at hl'
          rw [List.length_map] at hcv
          have HR := Lib.hid hr
          clear hr
          by_cases h12 : r.length ≤ 12
          · have t3 : decide ((r.length : Int) > 12) = false := by simp; omega
            have HN : Hid (((par.take (k + 1)).all fun r => decide (r.length ≤ 12)) = true) := all_next hlt ha.out (by rw [← HR.out]; simpa using h12)
            go_wp2_with fail
            refine ⟨⟨k + 1, by omega, by simp, HN⟩, ?_⟩
            simp [intOf]; omega
          · have t3 : decide ((r.length : Int) > 12) = true := by simp; omega
            have HN : Hid ((par.all fun r => decide (r.length ≤ 12)) = false) := all_at hlt (by rw [← HR.out]; simpa using h12)
            go_wp2_with fail
            go_ret
            exact ⟨ret_bool (by rw [HS2.out, HN.out]), hx0⟩
        · have hk' : k = par.length := by omega
          have HN := Lib.hid (all_end hk' ha.out)
          clear hk'
          go_wp2_with fail
          go_ret
          exact ⟨ret_bool (by rw [HS2.out, HN.out]), hx0⟩
    · have t2 : decide ((par.length : Int) > 8) = true := by simp; omega
      have HS2 : Hid (smallB d par = false) := by show _ = _; rw [HS.out, decide_eq_false hn]; simp
      clear hd
      go_enter Tryd.func12, Tryd.ntmps12
      go_wp2_with fail
      go_ret
      exact ⟨ret_bool (by rw [HS2.out]), hx0⟩
  · have t1 : decide (d > 12) = true := by simp; omega
    have HS2 : Hid (smallB d par = false) := by show _ = _; rw [HS.out, decide_eq_false hd]; simp
    go_enter Tryd.func12, Tryd.ntmps12
    go_wp2_with fail
    go_ret
    exact ⟨ret_bool (by rw [HS2.out]), hx0⟩

set_option maxHeartbeats 800000 in
theorem few_any (us : List ByteArray) (v : Value) (w : World) (hv : RStrs w v us) (hsz : ∀ u ∈ us, u.size ≤ lim) :
    Calls Tryd.prog 13 #[v] w (Ret w (.bool (fewB us))) := by
  have HZ := Lib.hid hsz
  clear hsz
  obtain ⟨A, c, rfl, hlen, hs⟩ := hv
  rw [List.length_map] at hlen ⊢
  rw [lim_val] at hlen
  have HS : Hid (fewB us = (decide (us.length ≤ 24) && us.all fun u => decide (u.size ≤ 64))) := by show _ = _; rfl
  have HA := Lib.hid hs
  clear hs
  by_cases hn : us.length ≤ 24
  · have t2 : decide ((us.length : Int) > 24) = false := by simp; omega
    have HS2 : Hid (fewB us = (us.all fun u => decide (u.size ≤ 64))) := by show _ = _; rw [HS.out, decide_eq_true hn]; rfl
    go_enter Tryd.func13, Tryd.ntmps13
    go_wp2_with fail
    go_loop [3] (fun i => ∃ k : Nat, k ≤ us.length ∧ i = .int .i64 k ∧ Hid (((us.take k).all fun u => decide (u.size ≤ 64)) = true)) (fun i => us.length - (intOf i).toNat)
    case atStart => exact ⟨0, Nat.zero_le _, rfl, by show _ = _; simp⟩
    case round =>
      obtain ⟨k, hk, rfl, ha⟩ := hrel
      by_cases hlt : k < us.length
      · obtain ⟨b, o, rfl, hc⟩ := HA.out.get (by simp; omega)
        have hck := hc k (by simp; omega)
        simp only [List.getElem_map] at hck
        obtain ⟨r, hr⟩ : ∃ r, r = us[k] := ⟨_, rfl⟩
        rw [← hr] at hck
        have hl' : r.size ≤ 140737488355328 := by rw [hr]; exact HZ.out _ (List.getElem_mem _)
        have HR := Lib.hid hr
        clear hr hc
        by_cases h12 : r.size ≤ 64
        · have t3 : decide ((r.size : Int) > 64) = false := by simp; omega
          have HN : Hid (((us.take (k + 1)).all fun u => decide (u.size ≤ 64)) = true) := all_next hlt ha.out (by rw [← HR.out]; simpa using h12)
          go_wp2_with fail
          refine ⟨⟨k + 1, by omega, by simp, HN⟩, ?_⟩
          simp [intOf]; omega
        · have t3 : decide ((r.size : Int) > 64) = true := by simp; omega
          have HN : Hid ((us.all fun u => decide (u.size ≤ 64)) = false) := all_at hlt (by rw [← HR.out]; simpa using h12)
          go_wp2_with fail
          go_ret
          exact ⟨ret_bool (by rw [HS2.out, HN.out]), ext_refl w⟩
      · have hk' : k = us.length := by omega
        have HN := Lib.hid (all_end hk' ha.out)
        clear hk'
        go_wp2_with fail
        go_ret
        exact ⟨ret_bool (by rw [HS2.out, HN.out]), ext_refl w⟩
  · have t2 : decide ((us.length : Int) > 24) = true := by simp; omega
    have HS2 : Hid (fewB us = false) := by show _ = _; rw [HS.out, decide_eq_false hn]; simp
    go_enter Tryd.func13, Tryd.ntmps13
    go_wp2_with fail
    go_ret
    exact ⟨ret_bool (by rw [HS2.out]), ext_refl w⟩

end Go.Proofs.YtgflflpeilfinaaDoor

/- The walks of the reference of layer 8: the comparisons. -/
set_option linter.unusedVariables false
set_option linter.unusedSimpArgs false
namespace Go.Proofs.YtgflflpeilfinaaDoor
open Go.RowKit

theorem take_next {α : Type} {xs ys : List α} {k : Nat} (h1 : k < xs.length) (h2 : k < ys.length) (h : xs.take k = ys.take k) (e : xs[k] = ys[k]) : xs.take (k + 1) = ys.take (k + 1) := by
  rw [List.take_succ_eq_append_getElem h1, List.take_succ_eq_append_getElem h2, h, e]
theorem take_end {α : Type} {xs ys : List α} {k : Nat} (h1 : k = xs.length) (h2 : k = ys.length) (h : xs.take k = ys.take k) : xs = ys := by
  rw [h1, List.take_length, ← h1, h2, List.take_length] at h
  exact h
theorem ne_at {α : Type} {xs ys : List α} {k : Nat} (h1 : k < xs.length) (h2 : k < ys.length) (e : xs[k] ≠ ys[k]) : xs ≠ ys := by
  rintro rfl
  exact e rfl

theorem bytes_ne {x y : ByteArray} (h : x ≠ y) : (!x.toList == y.toList) = true := by
  rw [Bool.not_eq_true', beq_eq_false_iff_ne]
  rintro e
  rw [ByteArray.toList_eq, ByteArray.toList_eq] at e
  apply h
  cases x; cases y
  simp only [ByteArray.mk.injEq]
  exact Array.ext' e

set_option maxHeartbeats 800000 in
theorem same_ints (xs ys : List Int) (v u : Value) (w : World) (hv : RInts w v xs) (hu : RInts w u ys) :
    Calls Tryd.prog 18 #[v, u] w (Ret w (.bool (decide (xs = ys)))) := by
  obtain ⟨A, c, rfl, hlen, hs⟩ := hv
  obtain ⟨B, d, rfl, hlen2, hs2⟩ := hu
  rw [List.length_map] at hlen hlen2 ⊢
  rw [List.length_map]
  rw [lim_val] at hlen hlen2
  have HA := Lib.hid hs
  have HB := Lib.hid hs2
  clear hs hs2
  by_cases hn : xs.length = ys.length
  · have t1 : ((xs.length : Int) != (ys.length : Int)) = false := by simp; omega
    have hle : xs.length ≤ ys.length := by omega
    have hge : ys.length ≤ xs.length := by omega
    clear hn
    go_enter Tryd.func18, Tryd.ntmps18
    go_wp2_with fail
    go_loopw [5] (fun i wr => ∃ k : Nat, k ≤ xs.length ∧ i = .int .i64 k ∧ Hid (xs.take k = ys.take k) ∧ Ext w wr) (fun i _ => xs.length - (intOf i).toNat)
    case atStart => exact ⟨0, Nat.zero_le _, rfl, by show _ = _; simp, ext_refl w⟩
    case round =>
      obtain ⟨k, hk, rfl, ha, hx⟩ := hrel
      by_cases hlt : k < xs.length
      · have hlt2 : k < ys.length := by omega
        obtain ⟨b1, o1, rfl, hc1⟩ := (HA.out.ext hx).get (by simp; omega)
        obtain ⟨b2, o2, rfl, hc2⟩ := (HB.out.ext hx).get (by simp; omega)
        have hk1 := hc1 k (by simp; omega)
        have hk2 := hc2 k (by simp; omega)
        simp only [List.getElem_map] at hk1 hk2
        obtain ⟨x, hxx⟩ : ∃ x, x = xs[k] := ⟨_, rfl⟩
        obtain ⟨y, hyy⟩ : ∃ x, x = ys[k] := ⟨_, rfl⟩
        rw [← hxx] at hk1
        rw [← hyy] at hk2
        have HXX := Lib.hid hxx
        have HYY := Lib.hid hyy
        clear hxx hyy hc1 hc2
        by_cases he : x = y
        · have HN : Hid (xs.take (k + 1) = ys.take (k + 1)) := take_next hlt hlt2 ha.out (by rw [← HXX.out, ← HYY.out, he])
          subst he
          go_wp2_with fail
          go_quiet (fail)
          have hx2 : Ext w (wr.drewN nq) := hx.trans ⟨rfl, rfl, rfl, Nat.le_refl _, fun _ _ => rfl⟩
          go_wp2_with fail
          go_roundw
          case rel => exact ⟨k + 1, by omega, by simp, HN, hx2⟩
          case measure => simp [intOf]; omega
        · have HN := Lib.hid (ne_at hlt hlt2 (by rw [← HXX.out, ← HYY.out]; exact he))
          have t2 : (x != y) = true := (by simpa using he)
          clear he
          go_wp2_with fail
          go_quiet (fail)
          have hx2 : Ext w (wr.drewN nq) := hx.trans ⟨rfl, rfl, rfl, Nat.le_refl _, fun _ _ => rfl⟩
          go_wp2_with fail
          go_ret
          exact ⟨ret_bool (by rw [decide_eq_false HN.out]), hx2⟩
      · have hk' : k = xs.length := by omega
        have hk2 : k = ys.length := by omega
        have HN := Lib.hid (take_end hk' hk2 ha.out)
        clear hk' hk2
        go_wp2_with fail
        go_ret
        exact ⟨ret_bool (by rw [decide_eq_true HN.out]), hx⟩
  · have t1 : ((xs.length : Int) != (ys.length : Int)) = true := by simp; omega
    have HN : Hid (xs ≠ ys) := by show _ ≠ _; rintro rfl; exact hn rfl
    clear hn
    go_enter Tryd.func18, Tryd.ntmps18
    go_wp2_with fail
    go_ret
    exact ⟨ret_bool (by rw [decide_eq_false HN.out]), ext_refl w⟩

set_option maxHeartbeats 800000 in
theorem same_texts (xs ys : List ByteArray) (v u : Value) (w : World) (hv : RStrs w v xs) (hu : RStrs w u ys) :
    Calls Tryd.prog 23 #[v, u] w (Ret w (.bool (decide (xs = ys)))) := by
  obtain ⟨A, c, rfl, hlen, hs⟩ := hv
  obtain ⟨B, d, rfl, hlen2, hs2⟩ := hu
  rw [List.length_map] at hlen hlen2 ⊢
  rw [List.length_map]
  rw [lim_val] at hlen hlen2
  have HA := Lib.hid hs
  have HB := Lib.hid hs2
  clear hs hs2
  by_cases hn : xs.length = ys.length
  · have t1 : ((xs.length : Int) != (ys.length : Int)) = false := by simp; omega
    have hle : xs.length ≤ ys.length := by omega
    have hge : ys.length ≤ xs.length := by omega
    clear hn
    go_enter Tryd.func23, Tryd.ntmps23
    go_wp2_with fail
    go_loopw [5] (fun i wr => ∃ k : Nat, k ≤ xs.length ∧ i = .int .i64 k ∧ Hid (xs.take k = ys.take k) ∧ Ext w wr) (fun i _ => xs.length - (intOf i).toNat)
    case atStart => exact ⟨0, Nat.zero_le _, rfl, by show _ = _; simp, ext_refl w⟩
    case round =>
      obtain ⟨k, hk, rfl, ha, hx⟩ := hrel
      by_cases hlt : k < xs.length
      · have hlt2 : k < ys.length := by omega
        obtain ⟨b1, o1, rfl, hc1⟩ := (HA.out.ext hx).get (by simp; omega)
        obtain ⟨b2, o2, rfl, hc2⟩ := (HB.out.ext hx).get (by simp; omega)
        have hk1 := hc1 k (by simp; omega)
        have hk2 := hc2 k (by simp; omega)
        simp only [List.getElem_map] at hk1 hk2
        obtain ⟨x, hxx⟩ : ∃ x, x = xs[k] := ⟨_, rfl⟩
        obtain ⟨y, hyy⟩ : ∃ x, x = ys[k] := ⟨_, rfl⟩
        rw [← hxx] at hk1
        rw [← hyy] at hk2
        have HXX := Lib.hid hxx
        have HYY := Lib.hid hyy
        clear hxx hyy hc1 hc2
        by_cases he : x = y
        · have HN : Hid (xs.take (k + 1) = ys.take (k + 1)) := take_next hlt hlt2 ha.out (by rw [← HXX.out, ← HYY.out, he])
          subst he
          go_wp2_with fail
          go_quiet (fail)
          have hx2 : Ext w (wr.drewN nq) := hx.trans ⟨rfl, rfl, rfl, Nat.le_refl _, fun _ _ => rfl⟩
          go_wp2_with fail
          go_roundw
          case rel => exact ⟨k + 1, by omega, by simp, HN, hx2⟩
          case measure => simp [intOf]; omega
        · have HN := Lib.hid (ne_at hlt hlt2 (by rw [← HXX.out, ← HYY.out]; exact he))
          have t2 : (!x.toList == y.toList) = true := (bytes_ne he)
          clear he
          go_wp2_with fail
          go_quiet (fail)
          have hx2 : Ext w (wr.drewN nq) := hx.trans ⟨rfl, rfl, rfl, Nat.le_refl _, fun _ _ => rfl⟩
          go_wp2_with fail
          go_ret
          exact ⟨ret_bool (by rw [decide_eq_false HN.out]), hx2⟩
      · have hk' : k = xs.length := by omega
        have hk2 : k = ys.length := by omega
        have HN := Lib.hid (take_end hk' hk2 ha.out)
        clear hk' hk2
        go_wp2_with fail
        go_ret
        exact ⟨ret_bool (by rw [decide_eq_true HN.out]), hx⟩
  · have t1 : ((xs.length : Int) != (ys.length : Int)) = true := by simp; omega
    have HN : Hid (xs ≠ ys) := by show _ ≠ _; rintro rfl; exact hn rfl
    clear hn
    go_enter Tryd.func23, Tryd.ntmps23
    go_wp2_with fail
    go_ret
    exact ⟨ret_bool (by rw [decide_eq_false HN.out]), ext_refl w⟩

/-- A slice of terms reads as the list of pairs. -/
def RTerms (w : World) (v : Value) (ts : List (Int × Int)) : Prop :=
  ∃ A c, v = .slice A ts.length c ∧ ts.length ≤ lim ∧ Seg w A (ts.flatMap fun t => [Value.int .i64 t.1, Value.int .i64 t.2])
theorem RTerms.ext {w w' : World} {v : Value} {ts : List (Int × Int)} (h : RTerms w v ts) (he : Ext w w') : RTerms w' v ts := by
  obtain ⟨A, c, e, hl, hs⟩ := h
  exact ⟨A, c, e, hl, hs.ext he⟩
theorem flat2_get (ts : List (Int × Int)) : ∀ (k : Nat) (h : k < ts.length), (ts.flatMap fun t => [Value.int .i64 t.1, Value.int .i64 t.2])[2 * k]? = some (.int .i64 ts[k].1) ∧ (ts.flatMap fun t => [Value.int .i64 t.1, Value.int .i64 t.2])[2 * k + 1]? = some (.int .i64 ts[k].2) := by
  induction ts with
  | nil => intro k h; simp at h
  | cons t ts ih =>
    intro k h
    cases k with
    | zero => simp
    | succ k =>
      have := ih k (by simpa using h)
      rw [show 2 * (k + 1) = 2 * k + 1 + 1 by omega, show 2 * k + 1 + 1 + 1 = (2 * k + 1) + 1 + 1 by omega]
      simpa using this
theorem flat2_len (ts : List (Int × Int)) : (ts.flatMap fun t => [Value.int .i64 t.1, Value.int .i64 t.2]).length = 2 * ts.length := by
  induction ts with
  | nil => rfl
  | cons t ts ih => rw [List.flatMap_cons, List.length_append, ih]; simp; omega
theorem RTerms.get {w : World} {A : Option Addr} {n c : Nat} {ts : List (Int × Int)} (h : RTerms w (.slice A n c) ts) (k : Nat) (hk : k < ts.length) :
    ∃ b o, A = some ⟨b, o, none⟩ ∧ w.cell? ⟨b, o + k * 2, none⟩ = some (.int .i64 ts[k].1) ∧ w.cell? ⟨b, o + k * 2 + 1, none⟩ = some (.int .i64 ts[k].2) := by
  rw [Nat.mul_comm k 2]
  obtain ⟨A', c', e, hl, hs⟩ := h
  injection e with e1 e2 e3
  subst e1
  have hf := flat2_len ts
  obtain ⟨b, o, ha, hc⟩ := hs.get (by omega)
  obtain ⟨f1, f2⟩ := flat2_get ts k hk
  obtain ⟨h1, f1⟩ := List.getElem?_eq_some_iff.1 f1
  obtain ⟨h2, f2⟩ := List.getElem?_eq_some_iff.1 f2
  exact ⟨b, o, ha, by rw [hc _ h1, f1], by rw [Nat.add_assoc, hc _ h2, f2]⟩

set_option maxHeartbeats 800000 in
theorem same_terms (xs ys : List (Int × Int)) (v u : Value) (w : World) (hv : RTerms w v xs) (hu : RTerms w u ys) :
    Calls Tryd.prog 33 #[v, u] w (Ret w (.bool (decide (xs = ys)))) := by
  have HA := Lib.hid hv
  have HB := Lib.hid hu
  obtain ⟨A, c, rfl, hlen, hs⟩ := hv
  obtain ⟨B, d, rfl, hlen2, hs2⟩ := hu
  rw [lim_val] at hlen hlen2
  clear hs hs2
  by_cases hn : xs.length = ys.length
  · have t1 : ((xs.length : Int) != (ys.length : Int)) = false := by simp; omega
    have hle : xs.length ≤ ys.length := by omega
    have hge : ys.length ≤ xs.length := by omega
    clear hn
    go_enter Tryd.func33, Tryd.ntmps33
    go_wp2_with fail
    go_loopw [5] (fun i wr => ∃ k : Nat, k ≤ xs.length ∧ i = .int .i64 k ∧ Hid (xs.take k = ys.take k) ∧ Ext w wr) (fun i _ => xs.length - (intOf i).toNat)
    case atStart => exact ⟨0, Nat.zero_le _, rfl, by show _ = _; simp, ext_refl w⟩
    case round =>
      obtain ⟨k, hk, rfl, ha, hx⟩ := hrel
      by_cases hlt : k < xs.length
      · have hlt2 : k < ys.length := by omega
        obtain ⟨b1, o1, rfl, hk1, hk11⟩ := (HA.out.ext hx).get k hlt
        obtain ⟨b2, o2, rfl, hk2, hk21⟩ := (HB.out.ext hx).get k hlt2
        obtain ⟨x, hxx⟩ : ∃ x, x = xs[k] := ⟨_, rfl⟩
        obtain ⟨y, hyy⟩ : ∃ x, x = ys[k] := ⟨_, rfl⟩
        rw [← hxx] at hk1 hk11
        rw [← hyy] at hk2 hk21
        obtain ⟨x1, x2⟩ := x
        obtain ⟨y1, y2⟩ := y
        simp only at hk1 hk11 hk2 hk21
        have HXX := Lib.hid hxx
        have HYY := Lib.hid hyy
        clear hxx hyy
        by_cases he : x1 = y1
        · subst he
          by_cases he2 : x2 = y2
          · subst he2
            have HN : Hid (xs.take (k + 1) = ys.take (k + 1)) := take_next hlt hlt2 ha.out (by rw [← HXX.out, ← HYY.out])
            go_wp2_with fail
            go_quiet (fail)
            have hx2 : Ext w (wr.drewN nq) := hx.trans ⟨rfl, rfl, rfl, Nat.le_refl _, fun _ _ => rfl⟩
            go_wp2_with fail
            go_roundw
            case rel => exact ⟨k + 1, by omega, by simp, HN, hx2⟩
            case measure => simp [intOf]; omega
          · have HN := Lib.hid (ne_at hlt hlt2 (by rw [← HXX.out, ← HYY.out]; intro e; injection e with e1 e2; exact he2 e2))
            go_wp2_with fail
            go_quiet (fail)
            have hx2 : Ext w (wr.drewN nq) := hx.trans ⟨rfl, rfl, rfl, Nat.le_refl _, fun _ _ => rfl⟩
            go_wp2_with fail
            go_ret
            exact ⟨ret_bool (by rw [decide_eq_false HN.out]), hx2⟩
        · have HN := Lib.hid (ne_at hlt hlt2 (by rw [← HXX.out, ← HYY.out]; intro e; injection e with e1 e2; exact he e1))
          go_wp2_with fail
          go_quiet (fail)
          have hx2 : Ext w (wr.drewN nq) := hx.trans ⟨rfl, rfl, rfl, Nat.le_refl _, fun _ _ => rfl⟩
          go_wp2_with fail
          go_ret
          exact ⟨ret_bool (by rw [decide_eq_false HN.out]), hx2⟩
      · have hk' : k = xs.length := by omega
        have hk2 : k = ys.length := by omega
        have HN := Lib.hid (take_end hk' hk2 ha.out)
        clear hk' hk2
        go_wp2_with fail
        go_ret
        exact ⟨ret_bool (by rw [decide_eq_true HN.out]), hx⟩
  · have t1 : ((xs.length : Int) != (ys.length : Int)) = true := by simp; omega
    have HN : Hid (xs ≠ ys) := by show _ ≠ _; rintro rfl; exact hn rfl
    clear hn
    go_enter Tryd.func33, Tryd.ntmps33
    go_wp2_with fail
    go_ret
    exact ⟨ret_bool (by rw [decide_eq_false HN.out]), ext_refl w⟩

end Go.Proofs.YtgflflpeilfinaaDoor

/- The walks of the reference of layer 8: Valid, Width. -/
set_option linter.unusedVariables false
set_option linter.unusedSimpArgs false
namespace Go.Proofs.YtgflflpeilfinaaDoor
open Go.RowKit

theorem drewN_ext {w wr : World} (h : Ext w wr) (n : Nat) : Ext w (wr.drewN n) := h.trans ⟨rfl, rfl, rfl, Nat.le_refl _, fun _ _ => rfl⟩
theorem okB_false_row {f d : Int} {par : List (List Int)} (h : par.all (rowOk f d) = false) : okB f d par = false := by unfold okB; rw [h, Bool.and_false]

theorem RInts.get {w : World} {A : Option Addr} {n c : Nat} {xs : List Int} (h : RInts w (.slice A n c) xs) (k : Nat) (hk : k < xs.length) : ∃ b o, A = some ⟨b, o, none⟩ ∧ w.cell? ⟨b, o + k, none⟩ = some (.int .i64 xs[k]) := by
  obtain ⟨A', c', e, hl, hs⟩ := h
  injection e with e1 e2 e3
  subst e1
  obtain ⟨b, o, ha, hc⟩ := hs.get (by simp; omega)
  refine ⟨b, o, ha, ?_⟩
  rw [hc k (by simpa using hk), List.getElem_map]
theorem some_next {xs : List Int} {q : Nat} (h : q < xs.length) : (!(xs.take (q + 1)).all fun x => x == 0) = ((!(xs.take q).all fun x => x == 0) || (xs[q] != 0)) := by
  rw [List.take_succ_eq_append_getElem h, List.all_append]
  simp only [List.all_cons, List.all_nil, Bool.and_true, Bool.not_and]
  rfl

set_option maxRecDepth 100000 in
set_option maxHeartbeats 2000000 in
theorem r8valid_any (nm : ByteArray) (f d dm : Int) (par : List (List Int)) (vp : Value) (w : World) (hp : RRows w vp par) (hd1 : d ≤ 12) :
    Calls Tryd.prog 20 #[vCd nm f d vp dm] w (Ret w (.bool (okB f d par))) := by
  have HP := Lib.hid hp
  obtain ⟨A, c, rfl, hlen, hvc⟩ := hp.form
  clear hp
  have hx0 : Ext w (w.alloc (.cells #[.string nm, .int .i64 f, .int .i64 d, .slice A par.length c, .int .i64 dm] 24)) := ext_alloc (ext_refl w) _
  by_cases hf : f = 8 ∨ f = 16
  · by_cases hd : 1 ≤ d
    · have t3 : decide (d < 1) = false := by simp; omega
      by_cases hs : d + par.length ≤ 32
      · have t4 : decide (d + (par.length : Int) > 32) = false := by simp; omega
        have OK : Hid (okB f d par = par.all (rowOk f d)) := by
          show _ = _
          unfold okB
          rw [decide_eq_true ⟨hf, hd, hs⟩, Bool.true_and]
        obtain ⟨n, rfl⟩ : ∃ n : Nat, d = n := ⟨d.toNat, by omega⟩
        have t1 : (f != 8) = false ∨ (f != 8) = true ∧ (f != 16) = false := by rcases hf with rfl | rfl <;> decide
        clear hf
        rcases t1 with t1 | ⟨t1, t2⟩
        all_goals
          go_enter Tryd.func20, Tryd.ntmps20
          go_wp2_with fail
          go_loopw [3] (fun i wr => ∃ k : Nat, k ≤ par.length ∧ i = .int .i64 k ∧ Hid ((par.take k).all (rowOk f n) = true) ∧ Ext (w.alloc (.cells #[.string nm, .int .i64 f, .int .i64 n, .slice A par.length c, .int .i64 dm] 24)) wr) (fun i _ => par.length - (intOf i).toNat)
          case atStart => exact ⟨0, Nat.zero_le _, rfl, by show _ = _; simp, ext_refl _⟩
          case round =>
            obtain ⟨k, hk, rfl, ha, hx⟩ := hrel
            have hc1 : wr.cell? ⟨w.heap.size, 1, none⟩ = some (.int .i64 f) := ext_cell hx (by simp [go_sem])
            have hc2 : wr.cell? ⟨w.heap.size, 2, none⟩ = some (.int .i64 n) := ext_cell hx (by simp [go_sem])
            have hc3 : wr.cell? ⟨w.heap.size, 3, none⟩ = some (.slice A par.length c) := ext_cell hx (by simp [go_sem])
            by_cases hlt : k < par.length
            · obtain ⟨-, b, o, v, rfl, hcv, hrv⟩ := (HP.out.ext (ext_trans hx0 hx)).get k hlt
              obtain ⟨r, hr⟩ : ∃ r, r = par[k] := ⟨_, rfl⟩
              rw [← hr] at hrv
              have HV := Lib.hid hrv
              obtain ⟨A', c', rfl, hl', -⟩ := hrv
              rw [List.length_map, lim_val] at hl'
              rw [List.length_map] at hcv HV
              have HR := Lib.hid hr
              clear hr
              by_cases hrn : r.length = n
              · have t5 : ((r.length : Int) != (n : Int)) = false := by simp; omega
                go_wp2_with fail
                go_quiet (fail)
                have hx1 := drewN_ext hx nq
                have ROK : Hid (rowOk f n r = (r.all (elemB f) && !r.all fun x => x == 0)) := by
                  show _ = _
                  unfold rowOk
                  rw [decide_eq_true (by omega), Bool.true_and]
                go_wp2_with fail
                obtain ⟨W1, hW1⟩ : ∃ W1, W1 = wr := ⟨_, rfl⟩
                rw [← hW1] at hc1 hc2 hc3 hcv HV hx hx1 ⊢
                clear hW1
                go_loopw [4, 5] (fun s j wr => ∃ q : Nat, q ≤ n ∧ j = .int .i64 q ∧ s = .bool (!(r.take q).all fun x => x == 0) ∧ Hid ((r.take q).all (elemB f) = true) ∧ Ext W1 wr) (fun _ j _ => n - (intOf j).toNat)
                case atStart => exact ⟨0, Nat.zero_le _, rfl, rfl, by show _ = _; simp, drewN_ext (ext_refl _) nq⟩
                case round =>
                  obtain ⟨q, hq, rfl, rfl, ha2, hx2⟩ := hrel
                  have hd1 := ext_cell hx2 hc1
                  have hd2 := ext_cell hx2 hc2
                  have hd3 := ext_cell hx2 hc3
                  have hdv := ext_cell hx2 hcv
                  have hx3 := ext_trans hx hx2
                  by_cases hlt2 : q < n
                  · have hltr : q < r.length := by omega
                    obtain ⟨b3, o3, rfl, hcx⟩ := (HV.out.ext hx2).get q hltr
                    have SN := some_next hltr
                    obtain ⟨x, hxx⟩ : ∃ x, x = r[q] := ⟨_, rfl⟩
                    rw [← hxx] at hcx SN
                    obtain ⟨s, hs1⟩ : ∃ s, s = !(r.take q).all fun x => x == 0 := ⟨_, rfl⟩
                    rw [← hs1] at SN ⊢
                    have HSN := Lib.hid SN
                    have HXX := Lib.hid hxx
                    clear hxx hs1 SN
                    cases hel : elemB f x with
                    | false =>
                      have RF : Hid (par.all (rowOk f n) = false) := all_at hlt (by rw [← HR.out, ROK.out, all_at hltr (by rw [← HXX.out]; exact hel)]; rfl)
                      go_wp2_with fail
                      go_quiet ((go_at_call 51; exact Calls.quiet_of_same ((r5valid_any _ _ _).mono fun e w2 h => ⟨h.1, h.2.symm⟩)))
                      have hx4 := drewN_ext hx3 nq
                      go_wp2_with fail
                      go_ret
                      exact ⟨ret_bool (by rw [OK.out, RF.out]), ext_trans hx0 hx4⟩
                    | true =>
                      have AN := Lib.hid (all_next hltr ha2.out (by rw [← HXX.out]; exact hel))
                      cases s with
                      | true =>
                        rw [Bool.true_or] at HSN
                        go_wp2_with fail
                        go_quiet ((go_at_call 51; exact Calls.quiet_of_same ((r5valid_any _ _ _).mono fun e w2 h => ⟨h.1, h.2.symm⟩)))
                        have hx4 := drewN_ext hx2 nq
                        go_wp2_with fail
                        go_roundw
                        case rel => exact ⟨q + 1, by omega, by simp, by rw [HSN.out], AN, hx4⟩
                        case measure => simp [intOf]; omega
                      | false =>
                        rw [Bool.false_or] at HSN
                        go_wp2_with fail
                        go_quiet ((go_at_call 51; exact Calls.quiet_of_same ((r5valid_any _ _ _).mono fun e w2 h => ⟨h.1, h.2.symm⟩)))
                        have hx4 := drewN_ext hx2 nq
                        go_wp2_with fail
                        go_roundw
                        case rel => exact ⟨q + 1, by omega, by simp, by rw [HSN.out], AN, hx4⟩
                        case measure => simp [intOf]; omega
                  · have hq2 : q = r.length := by omega
                    have AE := all_end hq2 ha2.out
                    rw [show (r.take q) = r by rw [hq2, List.take_length]]
                    obtain ⟨s, hs1⟩ : ∃ s, s = !r.all fun x => x == 0 := ⟨_, rfl⟩
                    rw [← hs1]
                    have RS : Hid (rowOk f n r = s) := by show _ = _; rw [ROK.out, AE, hs1]; rfl
                    clear hs1 AE hq2
                    cases s with
                    | true =>
                      have AN := Lib.hid (all_next hlt ha.out (by rw [← HR.out, RS.out]))
                      go_wp2_with fail
                      go_roundw
                      case rel => exact ⟨k + 1, by omega, by simp, AN, hx3⟩
                      case measure => simp [intOf]; omega
                    | false =>
                      have RF : Hid (par.all (rowOk f n) = false) := all_at hlt (by rw [← HR.out, RS.out])
                      go_wp2_with fail
                      go_ret
                      exact ⟨ret_bool (by rw [OK.out, RF.out]), ext_trans hx0 hx3⟩
              · have t5 : ((r.length : Int) != (n : Int)) = true := by simp; omega
                have OK2 : Hid (par.all (rowOk f n) = false) := all_at hlt (by
                  rw [← HR.out]; unfold rowOk; rw [decide_eq_false (by omega), Bool.false_and])
                go_wp2_with fail
                go_quiet (fail)
                have hx1 := drewN_ext hx nq
                go_wp2_with fail
                go_ret
                exact ⟨ret_bool (by rw [OK.out, OK2.out]), ext_trans hx0 hx1⟩
            · have hk' : k = par.length := by omega
              have HN := Lib.hid (all_end hk' ha.out)
              clear hk'
              go_wp2_with fail
              go_ret
              exact ⟨ret_bool (by rw [OK.out, HN.out]), ext_trans hx0 hx⟩
      · have t4 : decide (d + (par.length : Int) > 32) = true := by simp; omega
        have OK : Hid (okB f d par = false) := by
          show _ = _
          unfold okB
          rw [decide_eq_false (fun h => hs h.2.2), Bool.false_and]
        have t1 : (f != 8) = false ∨ (f != 8) = true ∧ (f != 16) = false := by rcases hf with rfl | rfl <;> decide
        clear hf hs
        rcases t1 with t1 | ⟨t1, t2⟩
        all_goals
          go_enter Tryd.func20, Tryd.ntmps20
          go_wp2_with fail
          go_ret
          exact ⟨ret_bool (by rw [OK.out]), hx0⟩
    · have t3 : decide (d < 1) = true := by simp; omega
      have OK : Hid (okB f d par = false) := by
        show _ = _
        unfold okB
        rw [decide_eq_false (fun h => hd h.2.1), Bool.false_and]
      have t1 : (f != 8) = false ∨ (f != 8) = true ∧ (f != 16) = false := by rcases hf with rfl | rfl <;> decide
      clear hf
      rcases t1 with t1 | ⟨t1, t2⟩
      all_goals
        go_enter Tryd.func20, Tryd.ntmps20
        go_wp2_with fail
        go_ret
        exact ⟨ret_bool (by rw [OK.out]), hx0⟩
  · have t1 : (f != 8) = true := by simp; omega
    have t2 : (f != 16) = true := by simp; omega
    have OK : Hid (okB f d par = false) := by
      show _ = _
      unfold okB
      rw [decide_eq_false (fun h => hf h.1), Bool.false_and]
    clear hf
    go_enter Tryd.func20, Tryd.ntmps20
    go_wp2_with fail
    go_ret
    exact ⟨ret_bool (by rw [OK.out]), hx0⟩

end Go.Proofs.YtgflflpeilfinaaDoor
