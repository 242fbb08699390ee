/- The walks of package field: the modulus, the product, the degree, the remainder, the inverse. -/
import Derived.Test.YtgflflpeilfinaaDoorBase
import Derived.Test.YtgflflpeilfinaaDoorGfE
set_option linter.unusedVariables false
set_option linter.unusedSimpArgs false
namespace Go.Proofs.YtgflflpeilfinaaDoor
open Go.RowKit

set_option maxHeartbeats 400000 in
theorem modulus_any (m : Int) (w : World) (hl : Laid w) :
    Calls Tryd.prog 86 #[.int .i64 m] w (Ret w (.int .i64 (fmod m))) := by
  obtain ⟨h0, h1, h2, h3⟩ := hl
  go_enter Tryd.func86, Tryd.ntmps86
  go_wp2
  have i0 : ∀ w : World, (Instr.index 126 (.agg #[.int .i64 8, .int .i64 285, .int .i64 16, .int .i64 69643]) (.int .i64 0)).run Tryd.prog w = .ok (.agg #[.int .i64 8, .int .i64 285]) w := fun _ => by kernel_rfl
  have i1 : ∀ w : World, (Instr.index 126 (.agg #[.int .i64 8, .int .i64 285, .int .i64 16, .int .i64 69643]) (.int .i64 1)).run Tryd.prog w = .ok (.agg #[.int .i64 16, .int .i64 69643]) w := fun _ => by kernel_rfl
  by_cases e8 : m = 8
  · subst e8
    refine wp_loop_rounds 1 ?_
    rw [rounds_succ]
    go_wp2
    go_ret
    exact ⟨rfl, ext_alloc (ext_refl w) _⟩
  · have n8 : (8 == m) = false := by simp; omega
    by_cases e16 : m = 16
    · subst e16
      refine wp_loop_rounds 2 ?_
      rw [rounds_succ]
      go_wp2
      rw [rounds_succ]
      go_wp2
      go_ret
      exact ⟨rfl, ext_alloc (ext_alloc (ext_refl w) _) _⟩
    · have n16 : (16 == m) = false := by simp; omega
      have hf : fmod m = 0 := by simp [fmod, e8, e16]
      have Hf := Lib.hid hf
      clear e8 e16 hf
      refine wp_loop_rounds 3 ?_
      rw [rounds_succ]
      go_wp2
      rw [rounds_succ]
      go_wp2
      rw [rounds_succ]
      go_wp2
      go_ret
      exact ⟨by rw [Hf.out]; rfl, ext_alloc (ext_alloc (ext_refl w) _) _⟩


theorem hrun_step (m a b k out : Nat) : hrun m a b (k + 1) out = hrun m a b k (hstep m a b k out) := rfl
theorem test_shr {m : Nat} (hm : Fm m) (x : Nat) (hx : x < 2 ^ m) : ((x : Int) * 2 / 2 ^ m != 0) = decide (2 ^ m ≤ x * 2) := by
  rcases hm with rfl | rfl <;> (rw [Bool.eq_iff_iff]; simp; omega)
theorem test_bit (b k : Nat) (hb : b < 2 ^ 62) : (bits .and .i64 ((b : Int) / 2 ^ k) 1 != 0) = decide (b / 2 ^ k % 2 = 1) := by
  have e : (b : Int) / 2 ^ k = ((b / 2 ^ k : Nat) : Int) := by simp
  have h : b / 2 ^ k < 2 ^ 62 := Nat.lt_of_le_of_lt (Nat.div_le_self _ _) hb
  rw [e, and1_i64 _ h, Bool.eq_iff_iff]
  simp
  omega
theorem xor_dbl (out p : Nat) (h : out < 65536) (hp : p < 131072) : bits .xor .i64 ((out : Int) * 2) (p : Int) = (((out * 2) ^^^ p : Nat) : Int) := by
  have e : (out : Int) * 2 = ((out * 2 : Nat) : Int) := by simp
  rw [e, xor_i64 _ _ (by omega) (by omega)]

set_option maxHeartbeats 800000 in
theorem product_any (m a b : Nat) (hm : Fm m) (ha : a < 2 ^ m) (hb : b < 2 ^ m) (w : World) (hl : Laid w) :
    Calls Tryd.prog 90 #[.int .i64 m, .int .i64 a, .int .i64 b] w (Ret w (.int .i64 (gmul m a b))) := by
  have hm1 := hm.le.1
  have hm2 := hm.le.2
  have hp := pow_lt hm
  have HM := Lib.hid hm
  have hmd := md_lt hm
  have HF := Lib.hid (fmod_md hm)
  clear hm
  go_enter Tryd.func90, Tryd.ntmps90
  go_wp2_with (go_at_call 86; refine (modulus_any _ w hl).mono ?_; rintro e w' ⟨rfl, hx⟩)
  rw [HF.out]
  go_loop [8, 9] (fun o i => ∃ k out : Nat, k ≤ m ∧ out < 2 ^ m ∧ i = .int .i64 ((k : Int) - 1) ∧ o = .int .i64 out ∧ gmul m a b = hrun m a b k out) (fun _ i => (intOf i + 1).toNat)
  case atStart => exact ⟨m, 0, by omega, Nat.two_pow_pos m, rfl, rfl, rfl⟩
  case round =>
    obtain ⟨k, out, h1, h2, rfl, rfl, h3⟩ := hrel
    have H3 := Lib.hid h3
    clear h3
    cases k with
    | zero =>
      go_wp2
      go_ret
      exact ⟨ret_int (by rw [H3.out]; rfl), hx⟩
    | succ k =>
      have e1 : ((k + 1 : Nat) : Int) - 1 = (k : Int) := by omega
      rw [e1]
      clear e1
      have ho : out < 65536 := by omega
      have t1 := test_shr HM.out out h2
      have t2 := test_bit b k (by omega)
      have H4 := Lib.hid (H3.out.trans (hrun_step m a b k out))
      have x1 : bits .xor .i64 ((out : Int) * 2) (md m) = (((out * 2) ^^^ md m : Nat) : Int) := xor_dbl out (md m) ho hmd
      have x2 : bits .xor .i64 ((out : Int) * 2) a = (((out * 2) ^^^ a : Nat) : Int) := xor_dbl out a ho (by omega)
      have x3 : 2 ^ m ≤ out * 2 → bits .xor .i64 (((out * 2) ^^^ md m : Nat) : Int) a = ((((out * 2) ^^^ md m) ^^^ a : Nat) : Int) := fun h => xor_i64 _ _ (by have := shl_xor_lt HM.out h2 h; omega) (by omega)
      by_cases c1 : 2 ^ m ≤ out * 2 <;> by_cases c2 : b / 2 ^ k % 2 = 1 <;> simp only [c1, c2, decide_true, decide_false] at t1 t2
      · have C := Lib.hid (show hstep m a b k out = ((out * 2) ^^^ md m) ^^^ a by simp [hstep, c1, c2])
        have X3 := x3 c1
        clear x3 c1 c2
        go_wp2
        exact ⟨⟨k, hstep m a b k out, by omega, hstep_lt HM.out ha h2, rfl, by rw [C.out], H4.out⟩, by simp [intOf]⟩
      · have C := Lib.hid (show hstep m a b k out = (out * 2) ^^^ md m by simp [hstep, c1, c2])
        clear x3 c1 c2
        go_wp2
        exact ⟨⟨k, hstep m a b k out, by omega, hstep_lt HM.out ha h2, rfl, by rw [C.out], H4.out⟩, by simp [intOf]⟩
      · have C := Lib.hid (show hstep m a b k out = (out * 2) ^^^ a by simp [hstep, c1, c2])
        clear x3 c1 c2
        go_wp2
        exact ⟨⟨k, hstep m a b k out, by omega, hstep_lt HM.out ha h2, rfl, by rw [C.out], H4.out⟩, by simp [intOf]⟩
      · have C := Lib.hid (show hstep m a b k out = out * 2 by simp [hstep, c1, c2])
        clear x3 c1 c2
        go_wp2
        exact ⟨⟨k, hstep m a b k out, by omega, hstep_lt HM.out ha h2, rfl, by rw [C.out]; simp, H4.out⟩, by simp [intOf]⟩

end Go.Proofs.YtgflflpeilfinaaDoor

/- The walks of package field: degree, reduce, inverse. -/
set_option linter.unusedVariables false
set_option linter.unusedSimpArgs false
namespace Go.Proofs.YtgflflpeilfinaaDoor
open Go.RowKit

set_option maxHeartbeats 400000 in
theorem degree_any (a : Nat) (ha : a < 2 ^ 40) (w : World) :
    Calls Tryd.prog 106 #[.int .i64 a] w fun e w' => e = .returned (.int .i64 ((deg1 a : Int) - 1)) ∧ w = w' := by
  have hd := deg1_le ha
  go_enter Tryd.func106, Tryd.ntmps106
  go_wp2
  go_loop [0, 3] (fun x n => ∃ b k : Nat, b < 2 ^ 40 ∧ k ≤ 40 ∧ x = .int .i64 b ∧ n = .int .i64 ((k : Int) - 1) ∧ k + deg1 b = deg1 a) (fun x _ => (intOf x).toNat)
  case atStart => exact ⟨a, 0, ha, by omega, rfl, rfl, by omega⟩
  case round =>
    obtain ⟨b, k, h1, h2, rfl, rfl, h3⟩ := hrel
    by_cases hb : b = 0
    · subst hb
      have h4 : deg1 a = k := by rw [deg1_zero] at h3; omega
      have H3 := Lib.hid h4
      clear h3 h4
      go_wp2
      go_ret
      exact ⟨ret_int (by rw [H3.out]), rfl⟩
    · have t : ((b : Int) != 0) = true := by simp; omega
      have H3 := Lib.hid h3
      have HB := Lib.hid hb
      have h4 := deg1_pos b hb
      have hk : k + 1 ≤ 40 := by omega
      have H4 := Lib.hid h4
      clear h3 hb h4
      go_wp2
      go_round
      case rel => exact ⟨b / 2, k + 1, by omega, by omega, by simp, by go_num, by have := H3.out; have := H4.out; omega⟩
      case measure => have := HB.out; simp [intOf]; omega

set_option maxHeartbeats 400000 in
theorem reduce_any (m x r : Nat) (hm : Fm m) (hx : x < 2 ^ 20) (hr : r < 2 ^ m) (hc : Cg m r x) (w : World) (hl : Laid w) :
    Calls Tryd.prog 107 #[.int .i64 m, .int .i64 x] w (Ret w (.int .i64 r)) := by
  have hm1 := hm.le.1
  have hm2 := hm.le.2
  have HM := Lib.hid hm
  have HF := Lib.hid (fmod_md hm)
  have HC := Lib.hid hc
  have hmd := md_lt hm
  clear hm hc
  go_enter Tryd.func107, Tryd.ntmps107
  go_wp2_with (go_at_call 106; refine (degree_any _ (by omega) _).mono ?_; rintro e w' ⟨rfl, rfl⟩)
  go_loopw [1, 5] (fun a d wr => ∃ b : Nat, b < 2 ^ 20 ∧ a = .int .i64 b ∧ d = .int .i64 ((deg1 b : Int) - 1) ∧ Hid (Cg m r b) ∧ Ext w wr) (fun a _ _ => deg1 (intOf a).toNat)
  case atStart => exact ⟨x, hx, rfl, rfl, HC.out, ext_refl w⟩
  case round =>
    obtain ⟨b, h1, rfl, rfl, h2, h3⟩ := hrel
    have hd := deg1_le h1
    by_cases hb : m + 1 ≤ deg1 b
    · obtain ⟨s, hs⟩ : ∃ s, deg1 b = m + 1 + s := ⟨deg1 b - (m + 1), by omega⟩
      obtain ⟨g1, g2⟩ := red_step HM.out hs.symm
      have G1 := Lib.hid g1
      have HS := Lib.hid hs
      have e1 : ((deg1 b : Nat) : Int) - 1 = (m : Int) + s := by omega
      rw [e1]
      have hs1 : s ≤ 20 := by omega
      clear e1 hs g1 hb
      have hv : b ^^^ md m * 2 ^ s < 2 ^ 20 := Nat.xor_lt_two_pow h1 (shift_lt (by rw [md_deg HM.out]; have := HS.out; omega))
      have X : Hid (bits .xor .i64 (b : Int) (wrap64 (fmod (m : Int) * 2 ^ s)) = ((b ^^^ md m * 2 ^ s : Nat) : Int)) := by
        have hw : (wrap64 (fmod (m : Int) * 2 ^ s)) = ((md m * 2 ^ s : Nat) : Int) := by
          rw [HF.out]
          have h0 : md m * 2 ^ s < 2 ^ 20 := shift_lt (by rw [md_deg HM.out]; have := HS.out; omega)
          have e : ((md m : Nat) : Int) * 2 ^ s = ((md m * 2 ^ s : Nat) : Int) := by simp
          rw [e]
          exact IntWalk.wrap64_in _ ⟨by omega, by omega⟩
        have h0 : md m * 2 ^ s < 2 ^ 20 := shift_lt (by rw [md_deg HM.out]; have := HS.out; omega)
        show bits .xor .i64 (b : Int) (wrap64 (fmod (m : Int) * 2 ^ s)) = _
        rw [hw]
        exact xor_i64 _ _ (by omega) (by omega)
      go_wp2_with (go_at_call 86; refine (modulus_any _ _ (hl.ext h3)).mono ?_; rintro e w' ⟨rfl, hx2⟩)
      rw [X.out]
      refine (degree_any _ (by omega) _).mono ?_
      rintro e w2 ⟨rfl, rfl⟩
      go_wp2_with fail
      go_roundw
      case rel => exact ⟨_, hv, rfl, rfl, (Cg.symm (Cg.trans G1.out (Cg.symm h2.out))), ext_trans h3 hx2⟩
      case measure => simpa [intOf] using g2
    · have t : decide (((deg1 b : Int) - 1) ≥ m) = false := by simp; omega
      have hlt : b < 2 ^ m := Nat.lt_of_lt_of_le (lt_deg1 b) (Nat.pow_le_pow_right (by decide) (by omega))
      have E : Hid (b = r) := (Cg.uniq HM.out h2.out hr hlt).symm
      clear hb
      go_wp2_with fail
      go_ret
      exact ⟨ret_int (by rw [E.out]), h3⟩


theorem shl_cast (b s : Nat) (h : b * 2 ^ s < 2 ^ 30) : wrap64 ((b : Int) * 2 ^ s) = ((b * 2 ^ s : Nat) : Int) := by
  have e : (b : Int) * 2 ^ s = ((b * 2 ^ s : Nat) : Int) := by simp
  rw [e]
  exact IntWalk.wrap64_in _ ⟨by omega, by omega⟩
theorem xor_shl (a b s k : Nat) (ha : a < 2 ^ 30) (h : deg1 b + s ≤ k) (hk : k ≤ 30) : bits .xor .i64 (a : Int) (wrap64 ((b : Int) * 2 ^ s)) = ((a ^^^ b * 2 ^ s : Nat) : Int) := by
  have h0 : b * 2 ^ s < 2 ^ k := shift_lt h
  have h1 : 2 ^ k ≤ 2 ^ 30 := Nat.pow_le_pow_right (by decide) hk
  rw [shl_cast b s (by omega)]
  exact xor_i64 _ _ (by omega) (by omega)
theorem lt_of_deg {a k : Nat} (h : deg1 a ≤ k) (hk : k ≤ 30) : a < 2 ^ 30 :=
  Nat.lt_of_lt_of_le (lt_deg1 a) (Nat.pow_le_pow_right (by decide) (by omega))

set_option maxHeartbeats 1000000 in
theorem inverse_any (m a : Nat) (hm : Fm m) (ha : a < 2 ^ m) (h0 : a ≠ 0) (w : World) (hl : Laid w) :
    Calls Tryd.prog 95 #[.int .i64 m, .int .i64 a] w (Ret w (.int .i64 (ginv m a))) := by
  have hm1 := hm.le.1
  have hm2 := hm.le.2
  have HM := Lib.hid hm
  have HF := Lib.hid (fmod_md hm)
  have HS := Lib.hid (EInv.start hm ha h0)
  have H0 := Lib.hid h0
  clear hm h0
  go_enter Tryd.func95, Tryd.ntmps95
  go_wp2_with (go_at_call 86; refine (modulus_any _ _ hl).mono ?_; rintro e w1 ⟨rfl, hx1⟩)
  rw [HF.out]
  go_loopw [5, 6, 7, 8] (fun a1 a2 a3 a4 wr => ∃ u v x y : Nat, a1 = .int .i64 u ∧ a2 = .int .i64 v ∧ a3 = .int .i64 x ∧ a4 = .int .i64 y ∧ Hid (EInv m a u v x y) ∧ Ext w wr) (fun a1 a2 _ _ _ => emu (intOf a1).toNat (intOf a2).toNat)
  case atStart => exact ⟨_, _, 1, 0, rfl, rfl, rfl, rfl, HS.out, hx1⟩
  case round =>
    obtain ⟨u, v, x, y, rfl, rfl, rfl, rfl, h1, h2⟩ := hrel
    have hdu := h1.out.du
    have hdv := h1.out.dv
    have hdx := h1.out.dx
    have hdy := h1.out.dy
    have bu := lt_of_deg hdu (by omega)
    have bv := lt_of_deg hdv (by omega)
    have bx : x < 2 ^ 30 := lt_of_deg (k := m + 2) (by omega) (by omega)
    have by_ : y < 2 ^ 30 := lt_of_deg (k := m + 2) (by omega) (by omega)
    by_cases hu : u = 1
    · subst hu
      have hxx : x < 2 ^ 20 := by
        have := lt_deg1 x
        have : 2 ^ deg1 x ≤ 2 ^ 20 := Nat.pow_le_pow_right (by decide) (by omega)
        omega
      have hc := EInv.done HM.out ha H0.out h1.out
      have HC := Lib.hid hc
      clear hc
      go_wp2_with (go_at_call 107; refine (reduce_any m x (ginv m a) HM.out hxx (ginv_lt HM.out ha) HC.out _ (hl.ext h2)).mono ?_; rintro e w2 ⟨rfl, hx2⟩)
      go_ret
      exact ⟨rfl, ext_trans h2 hx2⟩
    · have t : ((u : Int) != 1) = true := by simp; omega
      have HU := Lib.hid hu
      clear hu
      by_cases hlt : deg1 u < deg1 v
      · obtain ⟨s, hs⟩ : ∃ s, deg1 u + s = deg1 v := ⟨deg1 v - deg1 u, by omega⟩
        have G1 := Lib.hid (h1.out.swap.step hs)
        have G2 := Lib.hid (h1.out.less_swap HU.out hs)
        have E1 : Hid ((-((((deg1 u : Nat) : Int) - 1) - ((deg1 v : Int) - 1))).toNat = s) := by show _ = _; omega
        have X1 : Hid (bits .xor .i64 (v : Int) (wrap64 ((u : Int) * 2 ^ s)) = ((v ^^^ u * 2 ^ s : Nat) : Int)) := xor_shl v u s (m + 1) bv (by omega) (by omega)
        have X2 : Hid (bits .xor .i64 (y : Int) (wrap64 ((x : Int) * 2 ^ s)) = ((y ^^^ x * 2 ^ s : Nat) : Int)) := xor_shl y x s (m + 2) by_ (by omega) (by omega)
        have hs2 : s ≤ 20 := by omega
        have hs3 : 0 < s := by omega
        clear hs
        go_wp2_with fail
        refine (degree_any u (by omega) _).mono ?_
        rintro e w2 ⟨rfl, rfl⟩
        go_wp2_with fail
        refine (degree_any v (by omega) _).mono ?_
        rintro e w2 ⟨rfl, rfl⟩
        go_wp2_with fail
        rw [E1.out, X1.out, X2.out]
        exact ⟨⟨_, _, _, _, rfl, rfl, rfl, rfl, G1.out, h2⟩, by simpa [intOf] using G2.out⟩
      · obtain ⟨s, hs⟩ : ∃ s, deg1 v + s = deg1 u := ⟨deg1 u - deg1 v, by omega⟩
        have G1 := Lib.hid (h1.out.step hs)
        have G2 := Lib.hid (h1.out.less HU.out hs)
        have E1 : Hid (((((deg1 u : Nat) : Int) - 1) - ((deg1 v : Int) - 1)).toNat = s) := by show _ = _; omega
        have X1 : Hid (bits .xor .i64 (u : Int) (wrap64 ((v : Int) * 2 ^ s)) = ((u ^^^ v * 2 ^ s : Nat) : Int)) := xor_shl u v s (m + 1) bu (by omega) (by omega)
        have X2 : Hid (bits .xor .i64 (x : Int) (wrap64 ((y : Int) * 2 ^ s)) = ((x ^^^ y * 2 ^ s : Nat) : Int)) := xor_shl x y s (m + 2) bx (by omega) (by omega)
        have hge : deg1 v ≤ deg1 u := by omega
        clear hs hlt
        go_wp2_with fail
        refine (degree_any u (by omega) _).mono ?_
        rintro e w2 ⟨rfl, rfl⟩
        go_wp2_with fail
        refine (degree_any v (by omega) _).mono ?_
        rintro e w2 ⟨rfl, rfl⟩
        go_wp2_with fail
        rw [E1.out, X1.out, X2.out]
        exact ⟨⟨_, _, _, _, rfl, rfl, rfl, rfl, G1.out, h2⟩, by simpa [intOf] using G2.out⟩

end Go.Proofs.YtgflflpeilfinaaDoor

/- The walks of slices.IndexFunc, slices.ContainsFunc at elements of one cell, whatever the predicate. -/
set_option linter.unusedVariables false
set_option linter.unusedSimpArgs false
namespace Go.Proofs.YtgflflpeilfinaaDoor
open Go.RowKit

/-- The place of the first element of which p holds; -1. -/
def idxOf (p : Value → Bool) (vs : List Value) : Int := match vs.findIdx? p with | some i => i | none => -1

theorem idxOf_hit (p : Value → Bool) (vs : List Value) (k : Nat) (hk : k < vs.length) (hn : ∀ j (h : j < vs.length), j < k → p vs[j] = false) (hp : p vs[k] = true) : idxOf p vs = k := by
  have : vs.findIdx? p = some k := by
    rw [List.findIdx?_eq_some_iff_getElem]
    exact ⟨hk, hp, fun j hj => by simpa using hn j (by omega) hj⟩
  unfold idxOf
  rw [this]
theorem idxOf_none (p : Value → Bool) (vs : List Value) (hn : ∀ j (h : j < vs.length), p vs[j] = false) : idxOf p vs = -1 := by
  have : vs.findIdx? p = none := by
    rw [List.findIdx?_eq_none_iff]
    intro x hx
    obtain ⟨j, hj, rfl⟩ := List.getElem_of_mem hx
    exact hn j hj
  unfold idxOf
  rw [this]
theorem idx_next (p : Value → Bool) (vs : List Value) (k : Nat) (hk : k < vs.length) (hn : ∀ j (h : j < vs.length), j < k → p vs[j] = false) (hp : p vs[k] = false) : ∀ j (h : j < vs.length), j < k + 1 → p vs[j] = false := by
  intro j h hj
  by_cases e : j = k
  · subst e; exact hp
  · exact hn j h (by omega)
theorem idxOf_any (p : Value → Bool) (vs : List Value) : decide (0 ≤ idxOf p vs) = vs.any p := by
  unfold idxOf
  cases h : vs.findIdx? p with
  | none =>
    rw [List.findIdx?_eq_none_iff] at h
    have : vs.any p = false := by rw [List.any_eq_false]; intro x hx; simpa using h x hx
    rw [this]
    decide
  | some i =>
    rw [List.findIdx?_eq_some_iff_getElem] at h
    have : vs.any p = true := by rw [List.any_eq_true]; exact ⟨_, List.getElem_mem h.1, h.2.1⟩
    rw [this]
    simp

set_option maxHeartbeats 400000 in
theorem indexFunc_int (K : Nat) (cap : Array Value) (p : Value → Bool) (vs : List Value) (v : Value) (w : World) (hs : Sl w v vs) (hE : EntersF Tryd.prog K)
    (hf : ∀ u ∈ vs, ∀ w', Ext w w' → Calls Tryd.prog K (#[u] ++ cap) w' (Ret w' (.bool (p u)))) :
    Calls Tryd.prog 92 #[v, .func (.func K) #[] cap] w (Ret w (.int .i64 (idxOf p vs))) := by
  obtain ⟨A, c, rfl, hl, hseg⟩ := hs
  have HF := Lib.hid hf
  have HE := Lib.hid hE
  rw [lim_val] at hl
  clear hf hE
  go_enter Tryd.func92, Tryd.ntmps92
  go_wp2_with fail
  go_loopw [8] (fun i wr => ∃ k : Nat, k ≤ vs.length ∧ i = .int .i64 k ∧ Hid (∀ j (h : j < vs.length), j < k → p vs[j] = false) ∧ Ext w wr) (fun i _ => vs.length - (intOf i).toNat)
  case atStart => exact ⟨0, Nat.zero_le _, rfl, fun j _ h => absurd h (by omega), ext_refl w⟩
  case round =>
    obtain ⟨k, hk, rfl, hn, he⟩ := hrel
    by_cases hlt : k < vs.length
    · obtain ⟨b, o, rfl, hcell⟩ := (hseg.ext he).get (by omega)
      have hc := hcell k hlt
      obtain ⟨u, hu⟩ : ∃ u, u = vs[k] := ⟨_, rfl⟩
      rw [← hu] at hc
      have HU := Lib.hid hu
      clear hcell hu
      go_wp2_with (refine wpList_call_fn1 K cap HE.out u rfl _ _ _ rfl rfl rfl ?_; refine (HF.out u (by rw [HU.out]; exact List.getElem_mem _) wr he).mono ?_; rintro e w2 ⟨rfl, hx⟩)
      · go_ret
        exact ⟨ret_int (by rw [idxOf_hit p vs k hlt hn.out (by rw [← HU.out]; assumption)]), ext_trans he hx⟩
      · exact ⟨⟨k + 1, by omega, by go_num, idx_next p vs k hlt hn.out (by rw [← HU.out]; assumption), ext_trans he hx⟩, by simp [intOf]; omega⟩
    · have hk' : k = vs.length := by omega
      have HI : Hid (idxOf p vs = -1) := idxOf_none p vs (fun j h => hn.out j h (by omega))
      clear hk' hn
      go_wp2_with fail
      go_ret
      exact ⟨ret_int (by rw [HI.out]), he⟩

set_option maxHeartbeats 400000 in
theorem containsFunc_int (K : Nat) (cap : Array Value) (p : Value → Bool) (vs : List Value) (v : Value) (w : World) (hs : Sl w v vs) (hE : EntersF Tryd.prog K)
    (hf : ∀ u ∈ vs, ∀ w', Ext w w' → Calls Tryd.prog K (#[u] ++ cap) w' (Ret w' (.bool (p u)))) :
    Calls Tryd.prog 72 #[v, .func (.func K) #[] cap] w (Ret w (.bool (vs.any p))) := by
  have HC := Lib.hid (indexFunc_int K cap p vs v w hs hE hf)
  have HD := Lib.hid (idxOf_any p vs)
  clear hs hE hf
  go_enter Tryd.func72, Tryd.ntmps72
  go_wp2_with (go_at_call 92; refine HC.out.mono ?_; rintro e w' ⟨rfl, hx⟩)
  go_ret
  exact ⟨ret_bool HD.out, hx⟩

set_option maxHeartbeats 400000 in
theorem indexFunc_ints (K : Nat) (cap : Array Value) (p : Value → Bool) (vs : List Value) (v : Value) (w : World) (hs : Sl w v vs) (hE : EntersF Tryd.prog K)
    (hf : ∀ u ∈ vs, ∀ w', Ext w w' → Calls Tryd.prog K (#[u] ++ cap) w' (Ret w' (.bool (p u)))) :
    Calls Tryd.prog 91 #[v, .func (.func K) #[] cap] w (Ret w (.int .i64 (idxOf p vs))) := by
  obtain ⟨A, c, rfl, hl, hseg⟩ := hs
  have HF := Lib.hid hf
  have HE := Lib.hid hE
  rw [lim_val] at hl
  clear hf hE
  go_enter Tryd.func91, Tryd.ntmps91
  go_wp2_with fail
  go_loopw [8] (fun i wr => ∃ k : Nat, k ≤ vs.length ∧ i = .int .i64 k ∧ Hid (∀ j (h : j < vs.length), j < k → p vs[j] = false) ∧ Ext w wr) (fun i _ => vs.length - (intOf i).toNat)
  case atStart => exact ⟨0, Nat.zero_le _, rfl, fun j _ h => absurd h (by omega), ext_refl w⟩
  case round =>
    obtain ⟨k, hk, rfl, hn, he⟩ := hrel
    by_cases hlt : k < vs.length
    · obtain ⟨b, o, rfl, hcell⟩ := (hseg.ext he).get (by omega)
      have hc := hcell k hlt
      obtain ⟨u, hu⟩ : ∃ u, u = vs[k] := ⟨_, rfl⟩
      rw [← hu] at hc
      have HU := Lib.hid hu
      clear hcell hu
      go_wp2_with (refine wpList_call_fn1 K cap HE.out u rfl _ _ _ rfl rfl rfl ?_; refine (HF.out u (by rw [HU.out]; exact List.getElem_mem _) wr he).mono ?_; rintro e w2 ⟨rfl, hx⟩)
      · go_ret
        exact ⟨ret_int (by rw [idxOf_hit p vs k hlt hn.out (by rw [← HU.out]; assumption)]), ext_trans he hx⟩
      · exact ⟨⟨k + 1, by omega, by go_num, idx_next p vs k hlt hn.out (by rw [← HU.out]; assumption), ext_trans he hx⟩, by simp [intOf]; omega⟩
    · have hk' : k = vs.length := by omega
      have HI : Hid (idxOf p vs = -1) := idxOf_none p vs (fun j h => hn.out j h (by omega))
      clear hk' hn
      go_wp2_with fail
      go_ret
      exact ⟨ret_int (by rw [HI.out]), he⟩

set_option maxHeartbeats 400000 in
theorem containsFunc_ints (K : Nat) (cap : Array Value) (p : Value → Bool) (vs : List Value) (v : Value) (w : World) (hs : Sl w v vs) (hE : EntersF Tryd.prog K)
    (hf : ∀ u ∈ vs, ∀ w', Ext w w' → Calls Tryd.prog K (#[u] ++ cap) w' (Ret w' (.bool (p u)))) :
    Calls Tryd.prog 70 #[v, .func (.func K) #[] cap] w (Ret w (.bool (vs.any p))) := by
  have HC := Lib.hid (indexFunc_ints K cap p vs v w hs hE hf)
  have HD := Lib.hid (idxOf_any p vs)
  clear hs hE hf
  go_enter Tryd.func70, Tryd.ntmps70
  go_wp2_with (go_at_call 91; refine HC.out.mono ?_; rintro e w' ⟨rfl, hx⟩)
  go_ret
  exact ⟨ret_bool HD.out, hx⟩

set_option maxHeartbeats 400000 in
theorem indexFunc_str (K : Nat) (cap : Array Value) (p : Value → Bool) (vs : List Value) (v : Value) (w : World) (hs : Sl w v vs) (hE : EntersF Tryd.prog K)
    (hf : ∀ u ∈ vs, ∀ w', Ext w w' → Calls Tryd.prog K (#[u] ++ cap) w' (Ret w' (.bool (p u)))) :
    Calls Tryd.prog 104 #[v, .func (.func K) #[] cap] w (Ret w (.int .i64 (idxOf p vs))) := by
  obtain ⟨A, c, rfl, hl, hseg⟩ := hs
  have HF := Lib.hid hf
  have HE := Lib.hid hE
  rw [lim_val] at hl
  clear hf hE
  go_enter Tryd.func104, Tryd.ntmps104
  go_wp2_with fail
  go_loopw [8] (fun i wr => ∃ k : Nat, k ≤ vs.length ∧ i = .int .i64 k ∧ Hid (∀ j (h : j < vs.length), j < k → p vs[j] = false) ∧ Ext w wr) (fun i _ => vs.length - (intOf i).toNat)
  case atStart => exact ⟨0, Nat.zero_le _, rfl, fun j _ h => absurd h (by omega), ext_refl w⟩
  case round =>
    obtain ⟨k, hk, rfl, hn, he⟩ := hrel
    by_cases hlt : k < vs.length
    · obtain ⟨b, o, rfl, hcell⟩ := (hseg.ext he).get (by omega)
      have hc := hcell k hlt
      obtain ⟨u, hu⟩ : ∃ u, u = vs[k] := ⟨_, rfl⟩
      rw [← hu] at hc
      have HU := Lib.hid hu
      clear hcell hu
      go_wp2_with (refine wpList_call_fn1 K cap HE.out u rfl _ _ _ rfl rfl rfl ?_; refine (HF.out u (by rw [HU.out]; exact List.getElem_mem _) wr he).mono ?_; rintro e w2 ⟨rfl, hx⟩)
      · go_ret
        exact ⟨ret_int (by rw [idxOf_hit p vs k hlt hn.out (by rw [← HU.out]; assumption)]), ext_trans he hx⟩
      · exact ⟨⟨k + 1, by omega, by go_num, idx_next p vs k hlt hn.out (by rw [← HU.out]; assumption), ext_trans he hx⟩, by simp [intOf]; omega⟩
    · have hk' : k = vs.length := by omega
      have HI : Hid (idxOf p vs = -1) := idxOf_none p vs (fun j h => hn.out j h (by omega))
      clear hk' hn
      go_wp2_with fail
      go_ret
      exact ⟨ret_int (by rw [HI.out]), he⟩

set_option maxHeartbeats 400000 in
theorem containsFunc_str (K : Nat) (cap : Array Value) (p : Value → Bool) (vs : List Value) (v : Value) (w : World) (hs : Sl w v vs) (hE : EntersF Tryd.prog K)
    (hf : ∀ u ∈ vs, ∀ w', Ext w w' → Calls Tryd.prog K (#[u] ++ cap) w' (Ret w' (.bool (p u)))) :
    Calls Tryd.prog 84 #[v, .func (.func K) #[] cap] w (Ret w (.bool (vs.any p))) := by
  have HC := Lib.hid (indexFunc_str K cap p vs v w hs hE hf)
  have HD := Lib.hid (idxOf_any p vs)
  clear hs hE hf
  go_enter Tryd.func84, Tryd.ntmps84
  go_wp2_with (go_at_call 104; refine HC.out.mono ?_; rintro e w' ⟨rfl, hx⟩)
  go_ret
  exact ⟨ret_bool HD.out, hx⟩


end Go.Proofs.YtgflflpeilfinaaDoor

/- The walks of package field: all, Valid, Mul, Inv. -/
set_option linter.unusedVariables false
set_option linter.unusedSimpArgs false
namespace Go.Proofs.YtgflflpeilfinaaDoor
open Go.RowKit

/-- Is a an element of the field with 2^m elements? -/
def elemB (m a : Int) : Bool := decide ((m = 8 ∨ m = 16) ∧ 0 ≤ a ∧ a < 2 ^ m.toNat)
def allB (m : Int) (xs : List Int) : Bool := decide (m = 8 ∨ m = 16) && xs.all (elemB m)
theorem elemB_nat {m : Int} {a : Int} (h : elemB m a = true) : ∃ m' a' : Nat, m = m' ∧ a = a' ∧ Fm m' ∧ a' < 2 ^ m' := by
  have := of_decide_eq_true h
  obtain ⟨h1, h2, h3⟩ := this
  obtain ⟨a', rfl⟩ := Int.eq_ofNat_of_zero_le h2
  rcases h1 with rfl | rfl
  · exact ⟨8, a', rfl, rfl, .inl rfl, by simp at h3; omega⟩
  · exact ⟨16, a', rfl, rfl, .inr rfl, by simp at h3; omega⟩

set_option maxHeartbeats 400000 in
theorem all1_any (m : Nat) (hm : Fm m) (a : Int) (p : Addr) (w : World) (hp : w.cell? p = some (.int .i64 m)) :
    Calls Tryd.prog 87 #[.int .i64 a, .pointer (some p)] w (Ret w (.bool (!elemB m a))) := by
  have hm1 := hm.le.1
  have hm2 := hm.le.2
  by_cases ha : a < 0
  · have e : elemB m a = false := by unfold elemB; simp; omega
    have E := Lib.hid e
    clear e
    go_enter Tryd.func87, Tryd.ntmps87
    go_wp2
    go_ret
    exact ⟨ret_bool (by rw [E.out]; rfl), ext_refl w⟩
  · have e : (!elemB m a) = (a / 2 ^ m != 0) := by
      rcases hm with rfl | rfl <;> (unfold elemB; rw [Bool.eq_iff_iff]; simp; omega)
    have E := Lib.hid e
    have h0 : 0 ≤ a := by omega
    have t : decide (a < 0) = false := by simpa using ha
    clear e ha hm
    go_enter Tryd.func87, Tryd.ntmps87
    go_wp2
    go_ret
    exact ⟨ret_bool (by rw [E.out]), ext_refl w⟩


theorem enters_all1 : EntersF Tryd.prog 87 := entersF_of Tryd.func87 (by kernel_rfl) rfl
def notEl (m : Int) : Value → Bool
  | .int _ a => !elemB m a
  | _ => false
theorem any_notEl (m : Int) (xs : List Int) : (xs.map (Value.int .i64)).any (notEl m) = !xs.all (elemB m) := by
  induction xs with
  | nil => rfl
  | cons x xs ih => simp only [List.map_cons, List.any_cons, List.all_cons, ih, notEl, Bool.not_and]

set_option maxHeartbeats 400000 in
theorem all_any (m : Int) (xs : List Int) (v : Value) (w : World) (hl : Laid w) (hv : RInts w v xs) :
    Calls Tryd.prog 65 #[.int .i64 m, v] w (Ret w (.bool (allB m xs))) := by
  by_cases hm : m = 8 ∨ m = 16
  · obtain ⟨m', rfl, hm'⟩ : ∃ m' : Nat, m = m' ∧ Fm m' := by
      rcases hm with rfl | rfl
      · exact ⟨8, rfl, .inl rfl⟩
      · exact ⟨16, rfl, .inr rfl⟩
    have t : (fmod (m' : Int) != 0) = true := by rcases hm' with rfl | rfl <;> rfl
    have E : Hid (allB m' xs = !((xs.map (Value.int .i64)).any (notEl m'))) := by
      show _ = _
      rw [any_notEl, allB, decide_eq_true hm]
      simp
    have HM := Lib.hid hm'
    have HV := Lib.hid hv
    clear hm hm' hv
    go_enter Tryd.func65, Tryd.ntmps65
    go_wp2_with fail
    refine (modulus_any _ _ (hl.ext (ext_alloc (ext_refl w) _))).mono ?_
    rintro e w1 ⟨rfl, hx1⟩
    have hx2 : Ext w w1 := ext_trans (ext_alloc (ext_refl w) _) hx1
    have hc1 : w1.cell? ⟨w.heap.size, 0, none⟩ = some (.int .i64 m') := ext_cell hx1 (by simp)
    go_wp2_with fail
    refine (containsFunc_int 87 _ (notEl m') _ _ _ (HV.out.ext hx2) enters_all1 ?_).mono ?_
    · intro u hu w' hw'
      obtain ⟨x, hx, rfl⟩ := List.mem_map.1 hu
      exact all1_any m' HM.out x _ w' (ext_cell hw' hc1)
    · rintro e w2 ⟨rfl, hx3⟩
      go_wp2_with fail
      go_ret
      exact ⟨ret_bool (by rw [E.out, List.any_map]), ext_trans hx2 hx3⟩
  · have t : (fmod m != 0) = false := by
      have e : fmod m = 0 := by simp [fmod]; omega
      rw [e]; rfl
    have E : Hid (allB m xs = false) := by show _ = _; rw [allB, decide_eq_false hm]; rfl
    clear hm
    go_enter Tryd.func65, Tryd.ntmps65
    go_wp2_with fail
    refine (modulus_any _ _ (hl.ext (ext_alloc (ext_refl w) _))).mono ?_
    rintro e w1 ⟨rfl, hx1⟩
    have hx2 : Ext w w1 := ext_trans (ext_alloc (ext_refl w) _) hx1
    go_wp2_with fail
    go_ret
    exact ⟨ret_bool (by rw [E.out]), hx2⟩

set_option maxHeartbeats 400000 in
theorem fieldValid_any (m a : Int) (w : World) (hl : Laid w) :
    Calls Tryd.prog 45 #[.int .i64 m, .int .i64 a] w (Ret w (.bool (elemB m a))) := by
  have E : Hid (allB m [a] = elemB m a) := by show _ = _; rw [Bool.eq_iff_iff]; simp [allB, elemB]; try omega
  go_enter Tryd.func45, Tryd.ntmps45
  go_wp2_with fail
  refine (all_any m [a] _ _ (hl.ext (ext_alloc (ext_refl w) _)) (sl_new w [.int .i64 a] _ 1 (by simp [lim]))).mono ?_
  rintro e w1 ⟨rfl, hx1⟩
  go_wp2_with fail
  go_ret
  exact ⟨ret_bool (by rw [E.out]), ext_trans (ext_alloc (ext_refl w) _) hx1⟩

/-- The product of two whole numbers that are elements. -/
def imul (m a b : Int) : Int := (gmul m.toNat a.toNat b.toNat : Nat)

set_option maxHeartbeats 400000 in
theorem fieldMul_any (m a b : Nat) (hm : Fm m) (ha : a < 2 ^ m) (hb : b < 2 ^ m) (w : World) (hl : Laid w) :
    Calls Tryd.prog 96 #[.int .i64 m, .int .i64 a, .int .i64 b] w (Ret w (.tuple #[.int .i64 (gmul m a b), .int .i64 0])) := by
  have E : Hid (allB m [(a : Int), (b : Int)] = true) := by
    show _ = _
    rcases hm with rfl | rfl <;> (simp [allB, elemB]; omega)
  go_enter Tryd.func96, Tryd.ntmps96
  go_wp2_with fail
  refine (all_any m [(a : Int), (b : Int)] _ _ (hl.ext (ext_alloc (ext_refl w) _)) (sl_new w [.int .i64 a, .int .i64 b] _ 2 (by simp [lim]))).mono ?_
  rintro e w1 ⟨rfl, hx1⟩
  have hx2 : Ext w w1 := ext_trans (ext_alloc (ext_refl w) _) hx1
  rw [E.out]
  go_wp2_with fail
  refine (product_any m a b hm ha hb _ (hl.ext hx2)).mono ?_
  rintro e w2 ⟨rfl, hx3⟩
  go_wp2_with fail
  go_ret2
  exact ⟨rfl, ext_trans hx2 hx3⟩

set_option maxHeartbeats 400000 in
theorem fieldInv_any (m a : Nat) (hm : Fm m) (ha : a < 2 ^ m) (h0 : a ≠ 0) (w : World) (hl : Laid w) :
    Calls Tryd.prog 76 #[.int .i64 m, .int .i64 a] w (Ret w (.tuple #[.int .i64 (ginv m a), .int .i64 0])) := by
  have E : Hid (allB m [(a : Int)] = true) := by
    show _ = _
    rcases hm with rfl | rfl <;> (simp [allB, elemB]; omega)
  have t : ((a : Int) == 0) = false := by simpa using h0
  have H0 := Lib.hid h0
  clear h0
  go_enter Tryd.func76, Tryd.ntmps76
  go_wp2_with fail
  refine (all_any m [(a : Int)] _ _ (hl.ext (ext_alloc (ext_refl w) _)) (sl_new w [.int .i64 a] _ 1 (by simp [lim]))).mono ?_
  rintro e w1 ⟨rfl, hx1⟩
  have hx2 : Ext w w1 := ext_trans (ext_alloc (ext_refl w) _) hx1
  rw [E.out]
  go_wp2_with fail
  refine (inverse_any m a hm ha H0.out _ (hl.ext hx2)).mono ?_
  rintro e w2 ⟨rfl, hx3⟩
  go_wp2_with fail
  go_ret2
  exact ⟨rfl, ext_trans hx2 hx3⟩

end Go.Proofs.YtgflflpeilfinaaDoor
