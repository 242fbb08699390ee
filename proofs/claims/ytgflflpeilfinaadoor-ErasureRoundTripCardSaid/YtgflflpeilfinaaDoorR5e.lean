/- The walks of the reference of layer 5: polynomial, Valid, times, Mul. -/
import Derived.Test.YtgflflpeilfinaaDoorFieldC
import Derived.Test.YtgflflpeilfinaaDoorGfE
import Derived.Test.YtgflflpeilfinaaDoorEraEnc
import Derived.Test.YtgflflpeilfinaaDoorComb
import Derived.Deep.RegionHeld3
import Derived.StillTailTactics
set_option linter.unusedVariables false
set_option linter.unusedSimpArgs false
namespace Go.Proofs.YtgflflpeilfinaaDoor
open Go.RowKit

set_option maxHeartbeats 400000 in
theorem r5poly_any (m : Int) (w : World) : Calls Tryd.prog 74 #[.int .i64 m] w fun e w' => e = .returned (.int .i64 (fmod m)) ∧ w = w' := by
  by_cases e8 : m = 8
  · subst e8
    go_enter Tryd.func74, Tryd.ntmps74
    go_wp2
    go_ret
    exact ⟨rfl, rfl⟩
  · have n8 : (m == 8) = false := by simpa using e8
    by_cases e16 : m = 16
    · subst e16
      clear e8
      go_enter Tryd.func74, Tryd.ntmps74
      go_wp2
      go_ret
      exact ⟨rfl, rfl⟩
    · have n16 : (m == 16) = false := by simpa using e16
      have Hf := Lib.hid (show fmod m = 0 by simp [fmod, e8, e16])
      clear e8 e16
      go_enter Tryd.func74, Tryd.ntmps74
      go_wp2
      go_ret
      exact ⟨by rw [Hf.out]; rfl, rfl⟩

set_option maxHeartbeats 400000 in
theorem r5valid_any (m a : Int) (w : World) : Calls Tryd.prog 51 #[.int .i64 m, .int .i64 a] w fun e w' => e = .returned (.bool (elemB m a)) ∧ w = w' := by
  by_cases hm : m = 8 ∨ m = 16
  · obtain ⟨m', rfl, hm'⟩ : ∃ m' : Nat, m = m' ∧ Fm m' := by
      rcases hm with rfl | rfl
      · exact ⟨8, rfl, .inl rfl⟩
      · exact ⟨16, rfl, .inr rfl⟩
    have t : (fmod (m' : Int) != 0) = true := by rcases hm' with rfl | rfl <;> rfl
    have hm1 := hm'.le.1
    have hm2 := hm'.le.2
    have hx : (2 : Int) ^ m' ≤ 65536 := by rcases hm' with rfl | rfl <;> decide
    have hx0 : (0 : Int) < 2 ^ m' := by rcases hm' with rfl | rfl <;> decide
    have E : Hid (elemB m' a = (decide (0 ≤ a) && decide (a < 2 ^ m'))) := by
      show _ = _
      rw [Bool.eq_iff_iff]
      simp [elemB]
      intro _ _
      omega
    clear hm hm'
    by_cases ha : 0 ≤ a
    · go_enter Tryd.func51, Tryd.ntmps51
      go_wp2_with (go_at_call 74; refine (r5poly_any _ _).mono ?_; rintro e w' ⟨rfl, rfl⟩)
      go_ret
      exact ⟨ret_bool (by rw [E.out, decide_eq_true ha]; simp), rfl⟩
    · go_enter Tryd.func51, Tryd.ntmps51
      have t2 : decide (0 ≤ a) = false := by simpa using ha
      go_wp2_with (go_at_call 74; refine (r5poly_any _ _).mono ?_; rintro e w' ⟨rfl, rfl⟩)
      go_ret
      exact ⟨ret_bool (by rw [E.out, t2]; rfl), rfl⟩
  · have t : (fmod m != 0) = false := by
      have e : fmod m = 0 := by simp [fmod]; omega
      rw [e]; rfl
    have E : Hid (elemB m a = false) := by
      show _ = _
      unfold elemB
      exact decide_eq_false (fun h => hm h.1)
    clear hm
    go_enter Tryd.func51, Tryd.ntmps51
    go_wp2_with (go_at_call 74; refine (r5poly_any _ _).mono ?_; rintro e w' ⟨rfl, rfl⟩)
    go_ret
    exact ⟨ret_bool (by rw [E.out]), rfl⟩


/-- What holds at every round of the reference's product. -/
structure TInv (m a0 b0 a b out : Nat) : Prop where
  cg : Cg m (out ^^^ cl b a) (cl b0 a0)
  la : a < 2 ^ m
  lb : b < 2 ^ m
  lo : out < 2 ^ m
def dbl (m a : Nat) : Nat := if 2 ^ m ≤ 2 * a then (2 * a) ^^^ md m else 2 * a
theorem TInv.step {m a0 b0 a b out : Nat} (hm : Fm m) (h : TInv m a0 b0 a b out) (hb : b ≠ 0) : TInv m a0 b0 (dbl m a) (b / 2) (if b % 2 = 1 then out ^^^ a else out) := by
  obtain ⟨cg, la, lb, lo⟩ := h
  have hd : Cg m (dbl m a) (2 * a) := by
    unfold dbl
    split
    · have := (Cg.refl m (2 * a)).add (Cg.of_mod m)
      rwa [Nat.xor_zero] at this
    · exact Cg.refl _ _
  have hdl : dbl m a < 2 ^ m := by
    unfold dbl
    split
    · rename_i h2
      rw [Nat.mul_comm] at h2 ⊢
      exact shl_xor_lt hm la h2
    · omega
  refine ⟨?_, hdl, by omega, ?_⟩
  · refine Cg.trans ?_ cg
    have e : out ^^^ cl b a = (if b % 2 = 1 then out ^^^ a else out) ^^^ cl (b / 2) (2 * a) := by
      rw [cl_step b a, ← Nat.xor_assoc]
      congr 1
      split <;> simp
    rw [e]
    exact (Cg.refl _ _).add (hd.mul _)
  · split
    · exact Nat.xor_lt_two_pow lo la
    · exact lo
theorem TInv.done {m a0 b0 a out : Nat} (hm : Fm m) (ha : a0 < 2 ^ m) (hb : b0 < 2 ^ m) (h : TInv m a0 b0 a 0 out) : out = gmul m a0 b0 := by
  have := h.cg
  rw [cl_zero, Nat.xor_zero] at this
  exact Cg.uniq hm (this.trans (gmul_cg hb).symm) h.lo (gmul_lt hm ha)

theorem test_dbl {m : Nat} (hm : Fm m) (a : Nat) (la : a < 2 ^ m) : decide (2 * (a : Int) ≥ 2 ^ m) = decide (2 ^ m ≤ 2 * a) := by
  rcases hm with rfl | rfl <;> (rw [Bool.eq_iff_iff]; simp; omega)

set_option maxHeartbeats 800000 in
theorem r5times_any (m a b : Nat) (hm : Fm m) (ha : a < 2 ^ m) (hb : b < 2 ^ m) (w : World) :
    Calls Tryd.prog 54 #[.int .i64 m, .int .i64 a, .int .i64 b] w fun e w' => e = .returned (.int .i64 (gmul m a b)) ∧ w = w' := by
  have hm1 := hm.le.1
  have hm2 := hm.le.2
  have hp := pow_lt hm
  have hpi : (2 : Int) ^ m ≤ 65536 := by rcases hm with rfl | rfl <;> decide
  have hpi0 : (0 : Int) < 2 ^ m := by rcases hm with rfl | rfl <;> decide
  have HPI : Hid (((2 ^ m : Nat) : Int) = (2 : Int) ^ m) := by show _ = _; simp
  have hmd := md_lt hm
  have HM := Lib.hid hm
  have HF := Lib.hid (fmod_md hm)
  clear hm
  go_enter Tryd.func54, Tryd.ntmps54
  go_wp2_with (go_at_call 74; refine (r5poly_any _ _).mono ?_; rintro e w' ⟨rfl, rfl⟩)
  rw [HF.out]
  go_loop [1, 2, 8] (fun x y o => ∃ a' b' out : Nat, x = .int .i64 a' ∧ y = .int .i64 b' ∧ o = .int .i64 out ∧ Hid (TInv m a b a' b' out)) (fun _ y _ => (intOf y).toNat)
  case atStart => exact ⟨a, b, 0, rfl, rfl, rfl, ⟨by rw [Nat.zero_xor]; exact Cg.refl _ _, ha, hb, Nat.two_pow_pos m⟩⟩
  case round =>
    obtain ⟨a', b', out, rfl, rfl, rfl, h⟩ := hrel
    have la := h.out.la
    have lb := h.out.lb
    have lo := h.out.lo
    by_cases h0 : b' = 0
    · subst h0
      have E := Lib.hid (TInv.done HM.out ha hb h.out)
      go_wp2
      go_ret
      exact ⟨ret_int (by rw [E.out]), rfl⟩
    · have hpos : 0 < b' := by omega
      have N := Lib.hid (h.out.step HM.out h0)
      clear h0
      have X1 : bits .xor .i64 (out : Int) a' = ((out ^^^ a' : Nat) : Int) := xor_i64 _ _ (by omega) (by omega)
      have X2 : Hid (bits .xor .i64 (2 * (a' : Int)) (md m) = (((2 * a') ^^^ md m : Nat) : Int)) := by
        have := xor_i64 (2 * a') (md m) (by omega) (by omega)
        rw [Int.natCast_mul] at this
        exact this
      have t1 : ((b' : Int) % 2 == 1) = decide (b' % 2 = 1) := by rw [Bool.eq_iff_iff]; simp; omega
      have t2 := test_dbl HM.out a' la
      by_cases c1 : b' % 2 = 1 <;> by_cases c2 : 2 ^ m ≤ 2 * a'
      all_goals
        simp only [c1, c2, decide_true, decide_false, ge_iff_le] at t1 t2
        have N2 := N.out
        simp only [dbl, c1, c2, if_true, if_false] at N2
        have N3 := Lib.hid N2
        clear N2 c1 c2
        go_wp2
      all_goals try rw [X2.out]
      all_goals
        refine ⟨⟨_, _, _, ?_, ?_, ?_, N3.out⟩, ?_⟩
        · first | rfl | simp
        · simp
        · rfl
        · simp [intOf]; omega

end Go.Proofs.YtgflflpeilfinaaDoor

/- The walks of the reference of layer 5: Xor. -/
set_option linter.unusedVariables false
set_option linter.unusedSimpArgs false
namespace Go.Proofs.YtgflflpeilfinaaDoor
open Go.RowKit

theorem info_u8 : (Tryd.prog.info? 5).map (fun i => (i.zero, i.size, i.bytes)) = some (some (.int .u8 0), 1, 1) := by kernel_rfl
/-- The bytes of a row as values of a list. -/
def bvs (l : List Nat) : List Value := l.map fun x : Nat => Value.int .u8 (x : Int)
theorem conv_own {P : Program} {w : World} {base n : Nat} {e e' src dst : TypeId} {v : Value} {l : List Nat} (hs : P.underlying src = some (.slice e)) (he : P.underlying e = some (.int .u8)) (hd : P.underlying dst = some .string)
    (h : w.ownsRow base e' 1 v n (bvs l)) : (convert src dst v).run P w = .ok (.string (strOf l)) w := by
  obtain ⟨A, c, rfl, hseg⟩ := own_seg h (by omega)
  have hl : l.length = n := by have := h.1; simpa [bvs] using this
  rcases Nat.eq_zero_or_pos n with h0 | h0
  · subst h0
    obtain rfl : l = [] := List.eq_nil_of_length_eq_zero hl
    cases A with
    | none => exact run_convert_bytes_nil w src e hs he 0 c dst hd
    | some ad =>
      have ea : ad = ⟨ad.block, ad.off, none⟩ := by
        rcases h.2 with ⟨h, _⟩ | ⟨g, cap, cur, h, _⟩
        · cases h
        · injection h with h; injection h with h; rw [h]
      rw [ea]
      exact run_convert_bytes_arg w src e hs he _ _ 0 c [] rfl (fun i hi => absurd hi (by omega)) dst hd
  · obtain ⟨b, o, rfl, hc⟩ := hseg.get (by simp [bvs]; omega)
    have := run_convert_bytes_arg (P := P) w src e hs he b o n c (l.map fun x : Nat => (x : Int)) (by simpa using hl) (fun i hi => by
      rw [hc i (by simp [bvs]; omega)]
      simp [bvs, List.getD_eq_getElem?_getD, List.getElem?_eq_getElem (show i < l.length by omega)]) dst hd
    rw [this]
    simp [strOf, strOfNums, List.map_map, Function.comp_def]

/-- A byte of a string. -/
theorem run_index_byt {P : Program} (w : World) (t : TypeId) (s : ByteArray) (k : Nat) (h : P.underlying t = some .string) (hk : k < s.size) :
    (Instr.index t (.string s) (.int .i64 (k : Int))).run P w = .ok (.int .u8 (byt s k : Nat)) w := by
  rw [run_index_string w t s .i64 k h]
  simp [byt, hk]

/-- The exclusive or, byte by byte. -/
def xorTo (a b : ByteArray) (k : Nat) : List Nat := (List.range k).map fun j => byt a j ^^^ byt b j
def xorS (a b : ByteArray) : ByteArray := strOf (xorTo a b a.size)

set_option maxHeartbeats 400000 in
theorem r5xor_err (a b : ByteArray) (w : World) (h : a.size ≠ b.size) : Calls Tryd.prog 24 #[.string a, .string b] w (Ret w (.tuple #[.string ⟨#[]⟩, .int .i64 1])) := by
  have t : ((a.size : Int) != (b.size : Int)) = true := by simp; omega
  go_enter Tryd.func24, Tryd.ntmps24
  go_wp2
  go_ret2
  exact ⟨rfl, ext_refl w⟩

set_option maxRecDepth 100000 in
set_option maxHeartbeats 1000000 in
theorem r5xor_ok (a b : ByteArray) (w : World) (h : a.size = b.size) (hl : a.size ≤ lim) : Calls Tryd.prog 24 #[.string a, .string b] w (Ret w (.tuple #[.string (xorS a b), .int .i64 0])) := by
  have t : ((a.size : Int) != (b.size : Int)) = false := by simp; omega
  rw [lim_val] at hl
  have hle : a.size ≤ b.size := by omega
  clear h
  go_enter Tryd.func24, Tryd.ntmps24
  go_wp2_with fail
  go_loopw [6, 7] (fun v i wr => ∃ k : Nat, k ≤ a.size ∧ i = .int .i64 k ∧ Hid (wr.ownsRow w.heap.size 5 1 v k (bvs (xorTo a b k))) ∧ Ext w wr) (fun _ i _ => a.size - (intOf i).toNat)
  case atStart => exact ⟨0, Nat.zero_le _, rfl, own_nil' _ _ _ _, ext_refl w⟩
  case round =>
    obtain ⟨k, hk, rfl, ho, hx⟩ := hrel
    by_cases hlt : k < a.size
    · have hltb : k < b.size := by omega
      have i1 : ∀ W : World, (Instr.index 9 (.string a) (.int .i64 (k : Int))).run Tryd.prog W = .ok (.int .u8 (byt a k : Nat)) W := fun W => run_index_byt W _ a k Tryd.underlying9 hlt
      have i2 : ∀ W : World, (Instr.index 9 (.string b) (.int .i64 (k : Int))).run Tryd.prog W = .ok (.int .u8 (byt b k : Nat)) W := fun W => run_index_byt W _ b k Tryd.underlying9 hltb
      have x1 : bits .xor .u8 (byt a k : Int) (byt b k : Int) = ((byt a k ^^^ byt b k : Nat) : Int) := xor_u8 _ _ (by have := byt_lt a k; omega) (by have := byt_lt b k; omega)
      go_wp2_with fail
      obtain ⟨i0, hi0, hz0, hz1, hz2⟩ := info_parts info_u8
      have hsz := hx.size
      go_region_held3 (fun w' => w.heap.size ≤ w'.heap.size) (first | (simp [go_sem]; omega) | (exact hsz) | (have hz := hgrow.size; simp [go_sem] at hz; omega))
        ((refine step_append_lies _ (by rfl) _ _ _ (by rfl) w.heap.size 5 i0 _ 1 1 Tryd.underlying75 hi0 hz0 hz1 hz2 rfl (by omega) u6 k (bvs (xorTo a b k)) (by rfl) ((ho.out.alloc _).drew)
            ⟨wr.heap.size, 0, none⟩ 1 1 [.int .u8 ((byt a k ^^^ byt b k : Nat) : Int)] (by rfl) (by rfl) (World.news_of_block (cs := #[.int .u8 ((byt a k ^^^ byt b k : Nat) : Int)]) (t := 5) (fr := (0, 0)) (heap_alloc_new wr _)) (by simp [Value.oneCell'])
            (by omega) (by simp only [maxLen]; omega) (by omega) (by simp; omega) (wr.heap.size + 1) (by simp) ?_; intro gg cap w1 hown1 hgrow hat hlt1))
      all_goals
        have hx1 : Ext w w1 := ext_grown (ext_alloc hx _).drew hgrow (fun i hi => own_base' ho.out i hi)
        have hown2 : Hid (w1.ownsRow w.heap.size 5 1 (.slice (some ⟨gg, 0, none⟩) (k + 1) cap) (k + 1) (bvs (xorTo a b (k + 1)))) := by
          have e : bvs (xorTo a b (k + 1)) = bvs (xorTo a b k) ++ [Value.int .u8 ((byt a k ^^^ byt b k : Nat) : Int)] := by
            simp [bvs, xorTo, List.range_succ]
          rw [e]; exact hown1
        clear hown1 ho
        go_wp2_with fail
        go_roundw
        case rel => exact ⟨k + 1, by omega, by simp, hown2, hx1⟩
        case measure => simp [intOf]; omega
    · have hk' : k = a.size := by omega
      have HF : Hid (strOf (xorTo a b k) = xorS a b) := by show _ = _; rw [hk']; rfl
      have hcv := conv_own (P := Tryd.prog) (src := 75) (dst := 9) Tryd.underlying75 Tryd.underlying5 Tryd.underlying9 ho.out
      clear hk'
      go_wp2_with fail
      go_ret2
      exact ⟨by rw [HF.out]; rfl, hx⟩

end Go.Proofs.YtgflflpeilfinaaDoor

/- The walks of the reference of layer 5: Mul, Scale. -/
set_option linter.unusedVariables false
set_option linter.unusedSimpArgs false
namespace Go.Proofs.YtgflflpeilfinaaDoor
open Go.RowKit

theorem elemB_of {m a : Nat} (hm : Fm m) (ha : a < 2 ^ m) : elemB (m : Int) (a : Int) = true := by
  unfold elemB
  rcases hm with rfl | rfl <;> simp <;> simp at ha <;> omega

set_option maxHeartbeats 400000 in
theorem r5mul_ok (m a b : Nat) (hm : Fm m) (ha : a < 2 ^ m) (hb : b < 2 ^ m) (w : World) :
    Calls Tryd.prog 27 #[.int .i64 m, .int .i64 a, .int .i64 b] w fun e w' => e = .returned (.tuple #[.int .i64 (gmul m a b), .int .i64 0]) ∧ w = w' := by
  have HT := Lib.hid (r5times_any m a b hm ha hb)
  have E1 := Lib.hid (elemB_of hm ha)
  have E2 := Lib.hid (elemB_of hm hb)
  clear hm ha hb
  go_enter Tryd.func27, Tryd.ntmps27
  go_wp2_with fail
  refine (r5valid_any _ _ _).mono ?_
  rintro e w1 ⟨rfl, rfl⟩
  rw [E1.out]
  go_wp2_with fail
  refine (r5valid_any _ _ _).mono ?_
  rintro e w1 ⟨rfl, rfl⟩
  rw [E2.out]
  go_wp2_with fail
  refine (HT.out _).mono ?_
  rintro e w1 ⟨rfl, rfl⟩
  go_wp2_with fail
  go_ret2
  exact ⟨rfl, rfl⟩

theorem seg_new (w : World) (cs : List Value) (t : TypeId) : Seg (w.alloc (.cells cs.toArray t)) (some ⟨w.heap.size, 0, none⟩) cs :=
  .inr ⟨_, 0, rfl, fun j u hu => by
    rw [World.cell?_alloc_at _ _ _ _ rfl]
    simpa using hu⟩
/-- The bytes of c times the unit u, the first k. -/
def scTo (m c : Nat) (u : ByteArray) (k : Nat) : List Nat := (List.range k).map (scB m c u)
def scS (m c : Nat) (u : ByteArray) : ByteArray := strOf (scTo m c u u.size)

set_option maxRecDepth 100000 in
set_option maxHeartbeats 1000000 in
theorem r5scale8_ok (c : Nat) (u : ByteArray) (hc : c < 256) (hl : u.size ≤ lim) (w : World) :
    Calls Tryd.prog 69 #[.int .i64 8, .int .i64 c, .string u] w (Ret w (.tuple #[.string (scS 8 c u), .int .i64 0])) := by
  rw [lim_val] at hl
  have E1 := Lib.hid (elemB_of (m := 8) (.inl rfl) hc)
  go_enter Tryd.func69, Tryd.ntmps69
  go_wp2_with fail
  refine (r5valid_any _ _ _).mono ?_
  rintro e w1 ⟨rfl, rfl⟩
  rw [show elemB 8 (c : Int) = true from E1.out]
  go_wp2_with fail
  go_loopw [9, 10] (fun v i wr => ∃ k : Nat, k ≤ u.size ∧ i = .int .i64 k ∧ Hid (wr.ownsRow w.heap.size 5 1 v k (bvs (scTo 8 c u k))) ∧ Ext w wr) (fun _ i _ => u.size - (intOf i).toNat)
  case atStart => exact ⟨0, Nat.zero_le _, rfl, own_nil' _ _ _ _, ext_refl w⟩
  case round =>
    obtain ⟨k, hk, rfl, ho, hx⟩ := hrel
    by_cases hlt : k < u.size
    · have i1 : ∀ W : World, (Instr.index 9 (.string u) (.int .i64 (k : Int))).run Tryd.prog W = .ok (.int .u8 (byt u k : Nat)) W := fun W => run_index_byt W _ u k Tryd.underlying9 hlt
      have hby := byt_lt u k
      have hg : gmul 8 c (byt u k) < 256 := gmul_lt (m := 8) (.inl rfl) hc
      have hsz := hx.size
      have HT := r5times_any 8 c (byt u k) (.inl rfl) hc hby
      go_wp2_with fail
      refine (HT _).mono ?_
      rintro e w1 ⟨rfl, rfl⟩
      have HO1 : Hid ((wr.alloc (.cells #[.int .u8 ((gmul 8 c (byt u k) : Nat) : Int)] 5)).ownsRow w.heap.size 5 1 u9 k (bvs (scTo 8 c u k))) := own_ext ho.out (ext_alloc (ext_refl wr) _)
      have hx1 : Ext w (wr.alloc (.cells #[.int .u8 ((gmul 8 c (byt u k) : Nat) : Int)] 5)) := ext_alloc hx _
      go_wp2_with (at_builtin; refine wpList_app rfl _ _ 75 rfl w.heap.size 5 _ 1 1 Tryd.underlying75 info_u8 rfl (by omega) u9 k (bvs (scTo 8 c u k)) rfl HO1.out (some ⟨wr.heap.size, 0, none⟩) 1 1 [.int .u8 ((gmul 8 c (byt u k) : Nat) : Int)] rfl (by simp) (seg_new _ _ _) (by simp [Value.oneCell']) (by simp only [maxLen]; omega) (by omega) (by simp; omega) ?_; intro v1 w1 hown hgrow hat)
      have hx2 : Ext w w1 := ext_grown hx1 hgrow (fun i hi => own_base' HO1.out i hi)
      have hown2 : Hid (w1.ownsRow w.heap.size 5 1 v1 (k + 1) (bvs (scTo 8 c u (k + 1)))) := by
        have e : bvs (scTo 8 c u (k + 1)) = bvs (scTo 8 c u k) ++ [Value.int .u8 ((gmul 8 c (byt u k) : Nat) : Int)] := by
          simp [bvs, scTo, List.range_succ, scB]
        rw [e]; exact hown
      clear hown HO1
      go_roundw
      case rel => exact ⟨k + 1, by omega, by simp, hown2, hx2⟩
      case measure => simp [intOf]; omega
    · have hk' : k = u.size := by omega
      have HF : Hid (strOf (scTo 8 c u k) = scS 8 c u) := by show _ = _; rw [hk']; rfl
      have hcv := conv_own (P := Tryd.prog) (src := 75) (dst := 9) Tryd.underlying75 Tryd.underlying5 Tryd.underlying9 ho.out
      clear hk'
      go_wp2_with fail
      go_ret2
      exact ⟨by rw [HF.out]; rfl, hx⟩

set_option maxRecDepth 100000 in
set_option maxHeartbeats 1000000 in
theorem r5scale16_ok (c : Nat) (u : ByteArray) (hc : c < 65536) (h2 : u.size % 2 = 0) (hl : u.size ≤ lim) (w : World) :
    Calls Tryd.prog 69 #[.int .i64 16, .int .i64 c, .string u] w (Ret w (.tuple #[.string (scS 16 c u), .int .i64 0])) := by
  rw [lim_val] at hl
  have E1 := Lib.hid (elemB_of (m := 16) (.inr rfl) hc)
  have t0 : ((u.size : Int) % 2 == 1) = false := by
    rw [beq_eq_false_iff_ne]; omega
  go_enter Tryd.func69, Tryd.ntmps69
  go_wp2_with fail
  refine (r5valid_any _ _ _).mono ?_
  rintro e w1 ⟨rfl, rfl⟩
  rw [show elemB 16 (c : Int) = true from E1.out]
  go_wp2_with fail
  go_loopw [9, 10] (fun v i wr => ∃ k : Nat, 2 * k ≤ u.size ∧ i = .int .i64 (2 * (k : Int)) ∧ Hid (wr.ownsRow w.heap.size 5 1 v (2 * k) (bvs (scTo 16 c u (2 * k)))) ∧ Ext w wr) (fun _ i _ => u.size - (intOf i).toNat)
  case atStart => exact ⟨0, Nat.zero_le _, rfl, own_nil' _ _ _ _, ext_refl w⟩
  case round =>
    obtain ⟨k, hk, rfl, ho, hx⟩ := hrel
    by_cases hlt : 2 * k < u.size
    · have hlt2 : 2 * k + 1 < u.size := by omega
      have t1 : decide (2 * (k : Int) < (u.size : Int)) = true := by simp; omega
      have i1 : ∀ W : World, (Instr.index 9 (.string u) (.int .i64 (2 * (k : Int)))).run Tryd.prog W = .ok (.int .u8 (byt u (2 * k) : Nat)) W := fun W => by
        have := run_index_byt (P := Tryd.prog) W 9 u (2 * k) Tryd.underlying9 hlt
        simpa using this
      have i2 : ∀ W : World, (Instr.index 9 (.string u) (.int .i64 (2 * (k : Int) + 1))).run Tryd.prog W = .ok (.int .u8 (byt u (2 * k + 1) : Nat)) W := fun W => by
        have := run_index_byt (P := Tryd.prog) W 9 u (2 * k + 1) Tryd.underlying9 hlt2
        simpa using this
      have hby := byt_lt u (2 * k)
      have hby1 := byt_lt u (2 * k + 1)
      obtain ⟨x, hx0⟩ : ∃ x, x = byt u (2 * k) * 256 + byt u (2 * k + 1) := ⟨_, rfl⟩
      have hxl : x < 65536 := by omega
      have hxe : 256 * (byt u (2 * k) : Int) + (byt u (2 * k + 1) : Int) = (x : Int) := by omega
      obtain ⟨g, hg0⟩ : ∃ g, g = gmul 16 c x := ⟨_, rfl⟩
      have hg : g < 65536 := by rw [hg0]; exact gmul_lt (m := 16) (.inr rfl) hc
      have hsz := hx.size
      have HT : Hid (∀ w, Calls Tryd.prog 54 #[.int .i64 16, .int .i64 c, .int .i64 x] w fun e w' => e = .returned (.int .i64 g) ∧ w' = w) := by
        show ∀ w, _
        intro w
        rw [hg0]
        exact (r5times_any 16 c x (.inr rfl) hc hxl w).mono fun e w2 h => ⟨h.1, h.2.symm⟩
      have HX0 := Lib.hid hx0
      have HG0 := Lib.hid hg0
      clear hx0 hg0
      have w1 : IntKind.i64.wrap (2 * (k : Int) + 1) = 2 * (k : Int) + 1 := IntWalk.i64_in _ (by omega)
      have w2 : IntKind.i64.wrap (256 * (byt u (2 * k) : Int)) = 256 * (byt u (2 * k) : Int) := IntWalk.i64_in _ (by omega)
      have w3 : IntKind.i64.wrap (256 * (byt u (2 * k) : Int) + (byt u (2 * k + 1) : Int)) = (x : Int) := by rw [hxe]; exact IntWalk.i64_in _ (by omega)
      have w4 : IntKind.i64.wrap (byt u (2 * k) : Int) = (byt u (2 * k) : Int) := IntWalk.i64_in _ (by omega)
      have w5 : IntKind.i64.wrap (byt u (2 * k + 1) : Int) = (byt u (2 * k + 1) : Int) := IntWalk.i64_in _ (by omega)
      go_wp2_with fail
      go_quiet ((go_at_call 54; exact Calls.quiet_of_same (HT.out _)))
      obtain ⟨W2, hW2⟩ : ∃ W2, W2 = wr.drewN nq := ⟨_, rfl⟩
      rw [← hW2]
      have hx1 : Ext w W2 := by rw [hW2]; exact hx.trans ⟨rfl, rfl, rfl, Nat.le_refl _, fun _ _ => rfl⟩
      have ho1 : Hid (W2.ownsRow w.heap.size 5 1 u9 (2 * k) (bvs (scTo 16 c u (2 * k)))) := by rw [hW2]; exact ho.out
      clear ho hx hW2 hsz
      have hsz := hx1.size
      have HO1 : Hid ((W2.alloc (.cells #[.int .u8 ((g : Int) / 256), .int .u8 ((g : Int) % 256)] 5)).ownsRow w.heap.size 5 1 u9 (2 * k) (bvs (scTo 16 c u (2 * k)))) := own_ext ho1.out (ext_alloc (ext_refl W2) _)
      have hx2 : Ext w (W2.alloc (.cells #[.int .u8 ((g : Int) / 256), .int .u8 ((g : Int) % 256)] 5)) := ext_alloc hx1 _
      go_wp2_with (at_builtin; refine wpList_app rfl _ _ 75 rfl w.heap.size 5 _ 1 1 Tryd.underlying75 info_u8 rfl (by omega) u9 (2 * k) (bvs (scTo 16 c u (2 * k))) rfl HO1.out (some ⟨W2.heap.size, 0, none⟩) 2 2 [.int .u8 ((g : Int) / 256), .int .u8 ((g : Int) % 256)] rfl (by simp) (seg_new _ _ _) (by simp [Value.oneCell']) (by simp only [maxLen]; omega) (by omega) (by simp; omega) ?_; intro v1 w1 hown hgrow hat)
      have hx3 : Ext w w1 := ext_grown hx2 hgrow (fun i hi => own_base' HO1.out i hi)
      have hown2 : Hid (w1.ownsRow w.heap.size 5 1 v1 (2 * (k + 1)) (bvs (scTo 16 c u (2 * (k + 1))))) := by
        have e1 : scB 16 c u (2 * k) = g / 256 := by
          rw [HG0.out, HX0.out]
          simp [scB, symAt, show 2 * k % 2 = 0 by omega, show 2 * k / 2 = k by omega]
        have e2 : scB 16 c u (2 * k + 1) = g % 256 := by
          rw [HG0.out, HX0.out]
          simp [scB, symAt, show (2 * k + 1) % 2 = 1 by omega, show (2 * k + 1) / 2 = k by omega]
        have e : bvs (scTo 16 c u (2 * (k + 1))) = bvs (scTo 16 c u (2 * k)) ++ [Value.int .u8 ((g : Int) / 256), .int .u8 ((g : Int) % 256)] := by
          rw [show 2 * (k + 1) = 2 * k + 1 + 1 by omega]
          simp [bvs, scTo, List.range_succ, e1, e2]
        rw [e]; exact hown
      clear hown HO1 ho1
      go_roundw
      case rel => exact ⟨k + 1, by omega, by simp; omega, hown2, hx3⟩
      case measure => simp [intOf]; omega
    · have hk' : 2 * k = u.size := by omega
      have t1 : decide (2 * (k : Int) < (u.size : Int)) = false := by simp; omega
      have HF : Hid (strOf (scTo 16 c u (2 * k)) = scS 16 c u) := by show _ = _; rw [hk']; rfl
      have hcv := conv_own (P := Tryd.prog) (src := 75) (dst := 9) Tryd.underlying75 Tryd.underlying5 Tryd.underlying9 ho.out
      clear hk'
      go_wp2_with fail
      go_ret2
      exact ⟨by rw [HF.out]; rfl, hx⟩

end Go.Proofs.YtgflflpeilfinaaDoor

/- The walks of the reference of layer 5: Combine. -/
set_option linter.unusedVariables false
set_option linter.unusedSimpArgs false
namespace Go.Proofs.YtgflflpeilfinaaDoor
open Go.RowKit

theorem strOf_size (cs : List Nat) : (strOf cs).size = cs.length := by
  show ((cs.map fun x => UInt8.ofNat x).toArray).size = _
  simp
theorem byt_strOf (cs : List Nat) (hb : ∀ x ∈ cs, x < 256) (j : Nat) (hj : j < cs.length) : byt (strOf cs) j = cs[j] := by
  unfold byt
  rw [dif_pos (by rw [strOf_size]; exact hj)]
  show (((cs.map fun x => UInt8.ofNat x).toArray)[j]'(by simpa using hj)).toNat = _
  have := hb cs[j] (List.getElem_mem hj)
  simp
  omega
theorem xorS_acc {m c : Nat} (hm : Fm m) (hc : c < 2 ^ m) (u : ByteArray) (cs : List Nat) (hb : ∀ x ∈ cs, x < 256) (hn : u.size = cs.length) :
    xorS (strOf cs) (scS m c u) = strOf (accL m c u cs cs.length) := by
  unfold xorS
  congr 1
  apply List.ext_getElem
  · simp [xorTo, strOf_size, accL_length]
  · intro j h1 h2
    have hj : j < cs.length := by simpa [accL_length] using h2
    rw [accL_get m c u cs _ j hj, if_pos hj]
    simp only [xorTo, List.getElem_map, List.getElem_range]
    rw [byt_strOf cs hb j hj]
    unfold scS
    rw [byt_strOf _ (by
      intro x hx
      obtain ⟨i, _, rfl⟩ := List.mem_map.1 hx
      exact scB_lt hm hc u i) j (by simp [scTo]; omega)]
    simp [scTo]
theorem scS_size (m c : Nat) (u : ByteArray) : (scS m c u).size = u.size := by
  rw [scS, strOf_size]; simp [scTo]
theorem r5scale_ok (m c : Nat) (hm : Fm m) (hc : c < 2 ^ m) (u : ByteArray) (h2 : u.size % (m / 8) = 0) (hl : u.size ≤ lim) (w : World) :
    Calls Tryd.prog 69 #[.int .i64 m, .int .i64 c, .string u] w (Ret w (.tuple #[.string (scS m c u), .int .i64 0])) := by
  rcases hm with rfl | rfl
  · exact r5scale8_ok c u hc hl w
  · exact r5scale16_ok c u hc h2 hl w

set_option maxRecDepth 100000 in
set_option maxHeartbeats 1000000 in
theorem r5combine_ok (m : Nat) (hm : Fm m) (coefs : List Nat) (us : List ByteArray) (n : Nat) (hc : ∀ c ∈ coefs, c < 2 ^ m) (hne : coefs ≠ []) (hlen : coefs.length = us.length) (hus : ∀ u ∈ us, u.size = n) (hn : n % (m / 8) = 0) (hl : n ≤ lim)
    (vc vu : Value) (w : World) (hvc : RInts w vc (coefs.map fun (c : Nat) => (c : Int))) (hvu : RStrs w vu us) :
    Calls Tryd.prog 44 #[.int .i64 m, vc, vu] w (Ret w (.tuple #[.string (combR m coefs us n), .int .i64 0])) := by
  have HVC := Lib.hid hvc
  have HVU := Lib.hid hvu
  obtain ⟨A, cA, rfl, hlA, hsA⟩ := hvc
  obtain ⟨B, cB, rfl, hlB, hsB⟩ := hvu
  simp only [List.length_map, lim_val] at hlA hlB hl HVC HVU ⊢
  have hpos : 0 < coefs.length := List.length_pos_iff.2 hne
  obtain ⟨bA, oA, rfl, hcA⟩ := hsA.get (by simpa using hpos)
  obtain ⟨bB, oB, rfl, hcB⟩ := hsB.get (by simp; omega)
  simp only [List.length_map] at hcA hcB
  have h0 : w.cell? ⟨bB, oB, none⟩ = some (.string us[0]) := by
    have := hcB 0 (by omega)
    simpa using this
  have hz : us[0].size = n := hus _ (List.getElem_mem _)
  obtain ⟨u0, hu0⟩ : ∃ u0, u0 = us[0] := ⟨_, rfl⟩
  rw [← hu0] at h0 hz
  have HU0 := Lib.hid hu0
  clear hu0
  have t1 : ((coefs.length : Int) == 0) = false := by rw [beq_eq_false_iff_ne]; omega
  have t2 : ((coefs.length : Int) != (us.length : Int)) = false := by simp; omega
  obtain ⟨i0, hi0, hz0, hz1, hz2⟩ := info_parts info_u8
  have HM := Lib.hid hm
  have HCC := Lib.hid hc
  have HUS := Lib.hid hus
  have HLEN := Lib.hid hlen
  have HCA := Lib.hid hcA
  have HCB := Lib.hid hcB
  clear hm hc hus hcA hcB hsA hsB
  have hmk := make_zero (P := Tryd.prog) w 75 5 _ (.int .u8 0) 1 Tryd.underlying75 rfl rfl rfl rfl rfl n (by omega) (by omega)
  have hcv := conv_string (P := Tryd.prog) (w.alloc (.cells (List.replicate n (Value.int .u8 0)).toArray 5)) 75 5 9 w.heap.size n (List.replicate n 0) n Tryd.underlying75 Tryd.underlying5 Tryd.underlying9 (by simp) (by rw [heap_alloc_new]; simp [byteVals])
  simp only [List.toArray_replicate] at hcv
  subst hz
  have hle : coefs.length ≤ us.length := by omega
  have hge : us.length ≤ coefs.length := by omega
  clear HU0 hlen hne
  go_enter Tryd.func44, Tryd.ntmps44
  go_wp2_with fail
  go_loopw [8, 9] (fun s i wr => ∃ k : Nat, k ≤ coefs.length ∧ i = .int .i64 k ∧ s = .string (strOf (combT m coefs us (List.replicate u0.size 0) k)) ∧ Ext w wr) (fun _ i _ => coefs.length - (intOf i).toNat)
  case atStart => exact ⟨0, Nat.zero_le _, rfl, rfl, ext_alloc (ext_refl w) _⟩
  case round =>
    obtain ⟨k, hk, rfl, rfl, hx⟩ := hrel
    by_cases hlt : k < coefs.length
    · have hltu : k < us.length := by omega
      have hck := ext_cell hx (HCA.out k (by omega))
      have huk := ext_cell hx (HCB.out k (by omega))
      simp only [List.getElem_map] at hck huk
      obtain ⟨c, hc⟩ : ∃ c, c = coefs[k] := ⟨_, rfl⟩
      obtain ⟨u, hu⟩ : ∃ u, u = us[k] := ⟨_, rfl⟩
      rw [← hc] at hck
      rw [← hu] at huk
      have hcl : c < 2 ^ m := by rw [hc]; exact HCC.out _ (List.getElem_mem _)
      have hsu : u.size = u0.size := by rw [hu]; exact HUS.out _ (List.getElem_mem _)
      have HS := Lib.hid (r5scale_ok m c HM.out hcl u (by rw [hsu]; exact hn) (by rw [hsu, lim_val]; exact hl))
      have HX := Lib.hid (r5xor_ok (strOf (combT m coefs us (List.replicate u0.size 0) k)) (scS m c u) · (by rw [strOf_size, scS_size, combT_length, List.length_replicate, hsu]) (by rw [strOf_size, combT_length, List.length_replicate, lim_val]; exact hl))
      have E : Hid (xorS (strOf (combT m coefs us (List.replicate u0.size 0) k)) (scS m c u) = strOf (combT m coefs us (List.replicate u0.size 0) (k + 1))) := by
        show _ = _
        rw [xorS_acc HM.out hcl u _ (combT_lt HM.out coefs HCC.out us _ (by intro x hx; rw [List.eq_of_mem_replicate hx]; omega) HLEN.out k hk) (by rw [combT_length, List.length_replicate, hsu])]
        rw [combT_succ m coefs us _ k hlt hltu, hc, hu]
      clear hc hu
      go_wp2_with fail
      go_region_held3 (fun w' => w'.cell? ⟨bA, oA + k, none⟩ = some (.int .i64 (c : Int)) ∧ w'.cell? ⟨bB, oB + k, none⟩ = some (.string u)) (first | exact ⟨hck, huk⟩ | exact ⟨ext_cell hx3 hck, ext_cell hx3 huk⟩)
        ((go_at_call 69; refine (HS.out _).mono ?_; rintro e w3 ⟨rfl, hx3⟩))
      all_goals
        have hx5 : Ext w w3 := ext_trans (ext_drew hx) hx3
        go_wp2_with fail
        refine (HX.out _).mono ?_
        rintro e w4 ⟨rfl, hx4⟩
        rw [E.out]
        go_wp2_with fail
        go_roundw
        case rel => exact ⟨k + 1, by omega, by simp, rfl, ext_trans hx5 hx4⟩
        case measure => simp [intOf]; omega
    · have hk' : k = coefs.length := by omega
      have HFIN := combT_all m coefs us u0.size HLEN.out
      rw [← hk'] at HFIN
      have HF := Lib.hid HFIN
      clear hk' HFIN
      go_wp2_with fail
      go_ret2
      exact ⟨by rw [HF.out]; rfl, hx⟩
end Go.Proofs.YtgflflpeilfinaaDoor

/- The walks of the reference of layer 5: power, Inv. -/
set_option linter.unusedVariables false
set_option linter.unusedSimpArgs false
namespace Go.Proofs.YtgflflpeilfinaaDoor
open Go.RowKit

/-- What holds at every round of power. -/
structure PInv (m a0 n0 a n out : Nat) : Prop where
  eq : gmul m out (npow m a n) = npow m a0 n0
  la : a < 2 ^ m
  lo : out < 2 ^ m
theorem PInv.step {m a0 n0 a n out : Nat} (hm : Fm m) (h : PInv m a0 n0 a n out) : PInv m a0 n0 (gmul m a a) (n / 2) (if n % 2 = 1 then gmul m out a else out) := by
  obtain ⟨eq, la, lo⟩ := h
  refine ⟨?_, gmul_lt hm la, ?_⟩
  · rw [← npow_two hm la, ← eq]
    split
    · have e : n = 1 + 2 * (n / 2) := by omega
      have e2 : npow m a n = gmul m (npow m a 1) (npow m a (2 * (n / 2))) := by
        rw [← npow_add hm la, ← e]
      rw [e2, gmul_assoc hm lo la (npow_lt hm la _)]
      have e3 : npow m a 1 = a := by
        show gmul m 1 a = a
        exact one_gmul hm la
      rw [e3]
    · have e : n = 2 * (n / 2) := by omega
      rw [← e]
  · split
    · exact gmul_lt hm lo
    · exact lo
theorem PInv.done {m a0 n0 a out : Nat} (hm : Fm m) (h : PInv m a0 n0 a 0 out) : out = npow m a0 n0 := by
  have := h.eq
  rw [show npow m a 0 = 1 from rfl, gmul_one hm h.lo] at this
  exact this

set_option maxHeartbeats 800000 in
theorem r5power_any (m a n : Nat) (hm : Fm m) (ha : a < 2 ^ m) (hn : n ≤ 2 ^ 17) (w : World) :
    Calls Tryd.prog 109 #[.int .i64 m, .int .i64 a, .int .i64 n] w fun e w' => e = .returned (.int .i64 (npow m a n)) ∧ w = w' := by
  have HM := Lib.hid hm
  have H0 : Hid (PInv m a n a n 1) := ⟨by rw [one_gmul hm (npow_lt hm ha n)], ha, one_lt hm⟩
  simp only [Nat.reducePow] at hn
  clear hm ha
  go_enter Tryd.func109, Tryd.ntmps109
  go_wp2_with fail
  go_loop [1, 2, 7] (fun x y o => ∃ a' n' out : Nat, x = .int .i64 a' ∧ y = .int .i64 n' ∧ o = .int .i64 out ∧ n' ≤ 131072 ∧ Hid (PInv m a n a' n' out)) (fun _ y _ => (intOf y).toNat)
  case atStart => exact ⟨a, n, 1, rfl, rfl, rfl, hn, H0.out⟩
  case round =>
    obtain ⟨a', n', out, rfl, rfl, rfl, hn', h⟩ := hrel
    by_cases h0 : n' = 0
    · subst h0
      have E := Lib.hid (PInv.done HM.out h.out)
      go_wp2
      go_ret
      exact ⟨ret_int (by rw [E.out]), rfl⟩
    · have hpos : 0 < n' := by omega
      have N := Lib.hid (h.out.step HM.out)
      have T1 := Lib.hid (r5times_any m out a' HM.out h.out.lo h.out.la)
      have T2 := Lib.hid (r5times_any m a' a' HM.out h.out.la h.out.la)
      clear h0
      have t1 : ((n' : Int) % 2 == 1) = decide (n' % 2 = 1) := by rw [Bool.eq_iff_iff]; simp; omega
      by_cases c1 : n' % 2 = 1
      all_goals
        simp only [c1, decide_true, decide_false] at t1
        have N2 := N.out
        simp only [c1, if_true, if_false] at N2
        have N3 := Lib.hid N2
        clear N2 N c1
        go_wp2_with fail
      · refine (T1.out _).mono ?_
        rintro e w1 ⟨rfl, rfl⟩
        go_wp2_with fail
        refine (T2.out _).mono ?_
        rintro e w1 ⟨rfl, rfl⟩
        go_wp2_with fail
        refine ⟨⟨_, _, _, rfl, ?_, rfl, ?_, N3.out⟩, ?_⟩
        · simp
        · omega
        · simp [intOf]; omega
      · refine (T2.out _).mono ?_
        rintro e w1 ⟨rfl, rfl⟩
        go_wp2_with fail
        refine ⟨⟨_, _, _, rfl, ?_, rfl, ?_, N3.out⟩, ?_⟩
        · simp
        · omega
        · simp [intOf]; omega

set_option maxHeartbeats 400000 in
theorem r5inv_ok (m a : Nat) (hm : Fm m) (ha : a < 2 ^ m) (h0 : a ≠ 0) (w : World) :
    Calls Tryd.prog 108 #[.int .i64 m, .int .i64 a] w fun e w' => e = .returned (.tuple #[.int .i64 (ginv m a), .int .i64 0]) ∧ w = w' := by
  have E1 := Lib.hid (elemB_of hm ha)
  have HT := Lib.hid (r5power_any m a (2 ^ m - 2) hm ha (by rcases hm with rfl | rfl <;> decide))
  have t0 : ((a : Int) == 0) = false := by simpa using h0
  have hcast : Hid (((2 ^ m - 2 : Nat) : Int) = 2 ^ m - 2) := by
    show _ = _
    rcases hm with rfl | rfl <;> rfl
  have hm1 := hm.le.1
  have hm2 := hm.le.2
  have hx : (2 : Int) ^ m ≤ 65536 := by rcases hm with rfl | rfl <;> decide
  have hx0 : (2 : Int) < 2 ^ m := by rcases hm with rfl | rfl <;> decide
  have HG := Lib.hid (show ginv m a = npow m a (2 ^ m - 2) from rfl)
  clear hm ha h0
  go_enter Tryd.func108, Tryd.ntmps108
  go_wp2_with fail
  refine (r5valid_any _ _ _).mono ?_
  rintro e w1 ⟨rfl, rfl⟩
  rw [E1.out]
  go_wp2_with fail
  rw [← hcast.out]
  refine (HT.out _).mono ?_
  rintro e w1 ⟨rfl, rfl⟩
  go_wp2_with fail
  go_ret2
  exact ⟨by rw [HG.out]; rfl, rfl⟩

end Go.Proofs.YtgflflpeilfinaaDoor
