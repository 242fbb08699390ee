/- The walks of slices.Grow (of nil) and slices.Concat at rows of whole numbers. -/
import Derived.Test.YtgflflpeilfinaaDoorEraEnc
import Derived.Test.YtgflflpeilfinaaDoorWr
import Derived.Lib.AppendZerosOnto
set_option linter.unusedVariables false
set_option linter.unusedSimpArgs false
namespace Go.Proofs.YtgflflpeilfinaaDoor
open Go.RowKit

set_option maxRecDepth 100000 in
set_option maxHeartbeats 1000000 in
theorem grow_nil (k : Nat) (hk : k ≤ 1000000) (w : World) :
    Calls Tryd.prog 62 #[.slice none 0 0, .int .i64 k] w fun e w' => ∃ v', e = .returned v' ∧ w'.ownsRow w.heap.size 3 1 v' 0 [] ∧ Ext w w' := by
  obtain ⟨i0, hi0, hz0, hz1, hz2⟩ := info_parts info_int
  rcases Nat.eq_zero_or_pos k with h0 | h0
  · subst h0
    have H0 : Hid (w.ownsRow w.heap.size 3 1 (.slice none 0 0) 0 []) := own_nil' _ _ _ _
    go_enter Tryd.func62, Tryd.ntmps62
    go_wp2_with fail
    go_ret
    exact ⟨_, rfl, H0.out, ext_refl w⟩
  · have hb : (0 + k) * i0.bytes ≤ 140737488355328 := by rw [hz2]; omega
    have hrz : ∀ ty, (Builtin.append_ #[29, 3] ty #[.slice none 0 0, .int .i64 (k : Int)]).run Tryd.prog w =
        .ok (.slice (some ⟨w.heap.size, 0, none⟩) k (grownCap w k 0 3)) (w.drew.alloc (.cells (#[] ++ Builtin.zeroCells (Value.int .i64 0).cells k ++ Builtin.zeroCells (Value.int .i64 0).cells (grownCap w k 0 3 - k)) 3)) := fun ty => by
      have h := Lib.run_append_grow_zeros (P := Tryd.prog) w 29 3 ty 3 i0 (.int .i64 0) .i64 .i64 Tryd.underlying29 Tryd.underlying3 hi0 hz0 none 0 0 [] (run_firstCells_none (w := w.drew) i0.size 0 0 0) k h0 (by omega) (by omega) (by omega) (by rw [hz2]; omega)
        (growslice_fits (by omega) hb)
      rw [Nat.zero_add] at h
      exact h
    have hGn : k ≤ grownCap w k 0 3 := grownCap_ge w _ _ _
    have hG63 := grownCap_le_maxLen w k 0 3 (by unfold maxLen; omega)
    obtain ⟨G, hG⟩ : ∃ G, G = grownCap w k 0 3 := ⟨_, rfl⟩
    rw [← hG] at hrz hGn hG63
    have hG64 : G ≤ 9223372036854775807 := by unfold maxLen at hG63; omega
    have HOWN : Hid ((w.alloc (.cells (Builtin.zeroCells #[Value.int .i64 0] k ++ Builtin.zeroCells #[Value.int .i64 0] (G - k)) 3)).drew.ownsRow w.heap.size 3 1 (.slice (some ⟨w.heap.size, 0, none⟩) 0 G) 0 []) := by
      refine ⟨rfl, .inr ⟨w.heap.size, G, _, rfl, Nat.le_refl _, heap_alloc_new w _, Nat.zero_le _, hG63, ?_, ?_⟩⟩
      · simp only [Array.size_append, size_zeroCells]
        show k * 1 + (G - k) * 1 = G * 1
        omega
      · simp
    have HX : Hid (Ext w (w.alloc (.cells (Builtin.zeroCells #[Value.int .i64 0] k ++ Builtin.zeroCells #[Value.int .i64 0] (G - k)) 3)).drew) := ext_drew (ext_alloc (ext_refl w) _)
    clear hG hb
    go_enter Tryd.func62, Tryd.ntmps62
    go_wp2_with (at_builtin; refine Lib.wpList_append_run _ rfl _ _ _ _ rfl _ _ rfl rfl _ _ (hrz _) ?_)
    all_goals
      go_ret
      exact ⟨_, rfl, HOWN.out, HX.out⟩

abbrev ivs (xs : List Int) : List Value := xs.map (Value.int .i64)
def sumLen (par : List (List Int)) (k : Nat) : Nat := ((par.take k).flatten).length
theorem sumLen_succ {par : List (List Int)} {k : Nat} (hk : k < par.length) : sumLen par (k + 1) = sumLen par k + par[k].length := by
  unfold sumLen
  rw [List.take_succ_eq_append_getElem hk, List.flatten_append, List.length_append]
  simp only [List.flatten_cons, List.flatten_nil, List.append_nil]

set_option maxRecDepth 100000 in
set_option maxHeartbeats 1000000 in
theorem concat_any (par : List (List Int)) (vp : Value) (w : World) (hp : RRows w vp par) (hlen : ∀ k, k ≤ par.length → sumLen par k ≤ 1000000) :
    Calls Tryd.prog 40 #[vp] w fun e w' => ∃ v', e = .returned v' ∧ w'.ownsRow w.heap.size 3 1 v' par.flatten.length (ivs par.flatten) ∧ Ext w w' := by
  have HP := Lib.hid hp
  obtain ⟨A, c, rfl, hl, hvc⟩ := hp.form
  clear hp
  have HL := Lib.hid hlen
  clear hlen
  go_enter Tryd.func40, Tryd.ntmps40
  go_wp2_with fail
  go_loop [3, 11] (fun s i => ∃ k : Nat, k ≤ par.length ∧ i = .int .i64 k ∧ s = .int .i64 (sumLen par k)) (fun _ i => par.length - (intOf i).toNat)
  case atStart => exact ⟨0, Nat.zero_le _, rfl, rfl⟩
  case round =>
    obtain ⟨k, hk, rfl, rfl⟩ := hrel
    have hs := HL.out k hk
    by_cases hlt : k < par.length
    · obtain ⟨-, b, o, v, rfl, hcv, hrv⟩ := HP.out.get k hlt
      have hs2 := HL.out (k + 1) (by omega)
      have HSS := Lib.hid (sumLen_succ hlt)
      obtain ⟨r, hr⟩ : ∃ r, r = par[k] := ⟨_, rfl⟩
      rw [← hr] at hrv HSS
      obtain ⟨A', c', rfl, hl', -⟩ := hrv
      rw [List.length_map] at hcv hl'
      have hrl : r.length ≤ 1000000 := by have := HSS.out; omega
      clear hr hl'
      go_wp2_with fail
      refine ⟨⟨k + 1, by omega, by simp, by rw [HSS.out]; simp⟩, ?_⟩
      simp [intOf]; omega
    · have hk' : k = par.length := by omega
      clear hlt hk
      subst hk'
      have HG := Lib.hid (grow_nil (sumLen par par.length) hs)
      go_wp2_with fail
      refine (HG.out w).mono ?_
      rintro e w1 ⟨v1, rfl, ho1, hx1⟩
      have HO1 := Lib.hid ho1
      clear ho1
      go_wp2_with fail
      go_loopw [6, 27] (fun v i wr => ∃ k : Nat, k ≤ par.length ∧ i = .int .i64 k ∧ Hid (wr.ownsRow w.heap.size 3 1 v (sumLen par k) (ivs (par.take k).flatten)) ∧ Ext w wr) (fun _ i _ => par.length - (intOf i).toNat)
      case atStart => exact ⟨0, Nat.zero_le _, rfl, HO1.out, hx1⟩
      case round =>
        obtain ⟨k, hk, rfl, ho, hx⟩ := hrel
        by_cases hlt : k < par.length
        · obtain ⟨-, b, o, v, rfl, hcv, hrv⟩ := (HP.out.ext hx).get k hlt
          have hs1 := HL.out k (by omega)
          have hs2 := HL.out (k + 1) (by omega)
          have HSS := Lib.hid (sumLen_succ hlt)
          have HTK : Hid (ivs (par.take (k + 1)).flatten = ivs (par.take k).flatten ++ ivs par[k]) := by
            show _ = _
            rw [List.take_succ_eq_append_getElem hlt, List.flatten_append, ivs, List.map_append]
            simp only [List.flatten_cons, List.flatten_nil, List.append_nil]
          obtain ⟨r, hr⟩ : ∃ r, r = par[k] := ⟨_, rfl⟩
          rw [← hr] at hrv HSS HTK
          obtain ⟨A', c', rfl, hl', hsg⟩ := hrv
          rw [List.length_map] at hcv hl'
          have hrl : r.length ≤ 1000000 := by have := HSS.out; omega
          have HSG := Lib.hid hsg
          have hsz := hx.size
          clear hr hl' hsg
          go_wp2_with (at_builtin; refine wpList_app rfl _ _ 29 rfl w.heap.size 3 _ 1 8 Tryd.underlying29 info_int rfl (by omega) u6 (sumLen par k) _ rfl ho.out A' r.length c' (ivs r) rfl (by simp) HSG.out (one_ints r) (by simp only [maxLen]; omega) (by omega) (by omega) ?_; intro v1 w2 hown hgrow hat)
          have hx2 : Ext w w2 := ext_grown hx hgrow (fun i hi => own_base' ho.out i hi)
          have HO2 : Hid (w2.ownsRow w.heap.size 3 1 v1 (sumLen par (k + 1)) (ivs (par.take (k + 1)).flatten)) := by
            show World.ownsRow _ _ _ _ _ _ _
            rw [HSS.out, HTK.out]; exact hown
          clear hown hgrow hat
          go_wp2_with fail
          go_roundw
          case rel => exact ⟨k + 1, by omega, by simp, HO2, hx2⟩
          case measure => simp [intOf]; omega
        · have hk' : k = par.length := by omega
          have HF : Hid (wr.ownsRow w.heap.size 3 1 u6 par.flatten.length (ivs par.flatten)) := by
            have := ho.out
            rw [hk'] at this
            unfold sumLen at this
            rw [List.take_length] at this
            exact this
          clear hk'
          go_wp2_with fail
          go_ret
          exact ⟨_, rfl, HF.out, hx⟩

end Go.Proofs.YtgflflpeilfinaaDoor
