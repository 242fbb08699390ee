/- The walks of erasure.spanOf where it refuses, (*span).terms. -/
import Derived.Test.YtgflflpeilfinaaDoorSpanE
set_option linter.unusedVariables false
set_option linter.unusedSectionVars false
set_option linter.unusedSimpArgs false
namespace Go.Proofs.YtgflflpeilfinaaDoor
open Go.RowKit

/-- Whether a code and a selection fit. -/
def hvB (f d : Int) (par : List (List Int)) (hs : List Bool) : Bool := okB f d par && decide ((hs.length : Int) = d + par.length)

set_option maxHeartbeats 1000000 in
theorem basis_err (nm : ByteArray) (f d dm : Int) (par : List (List Int)) (vp vh : Value) (hs : List Bool) (w : World) (hl : Laid w) (hp : RRows w vp par) (hh : RBools w vh hs) (hd0 : -9223372036854775808 ≤ d) (hd1 : d ≤ 9223372036854775807) (hb : hvB f d par hs = false) :
    Calls Tryd.prog 28 #[vCd nm f d vp dm, vh] w (Ret w (.tuple #[.slice none 0 0, .int .i64 1])) := by
  cases hok : okB f d par with
  | false => exact basis_err1 nm f d dm par vp vh w hl hp hd0 hd1 hok
  | true =>
    obtain ⟨m, n, rfl, rfl, hm, hn1, hn2, hrows⟩ := okB_facts hok
    refine basis_err2 nm m n dm par vp vh hs w hl hp hh hok (fun e => ?_)
    unfold hvB at hb
    rw [hok] at hb
    simp at hb
    omega

set_option maxHeartbeats 1000000 in
theorem spanOf_err (nm : ByteArray) (f d dm : Int) (par : List (List Int)) (vp vh : Value) (hs : List Bool) (w : World) (hl : Laid w) (hp : RRows w vp par) (hh : RBools w vh hs) (hd0 : -9223372036854775808 ≤ d) (hd1 : d ≤ 9223372036854775807) (hb : hvB f d par hs = false) :
    Calls Tryd.prog 52 #[vCd nm f d vp dm, vh] w (Ret w (.tuple #[.pointer none, .int .i64 1])) := by
  have HP := Lib.hid hp
  have HH := Lib.hid hh
  have HB := Lib.hid hb
  obtain ⟨A, c, rfl, hlen, hvc⟩ := hp.form
  have hx0 : Ext w (w.alloc (.cells #[.string nm, .int .i64 f, .int .i64 d, .slice A par.length c, .int .i64 dm] 24)) := ext_alloc (ext_refl w) _
  clear hp hh hb
  go_enter Tryd.func52, Tryd.ntmps52
  go_wp2_with fail
  go_step3
  go_wp2_with fail
  refine (basis_err nm f d dm par _ vh hs _ (hl.ext hx0) (HP.out.ext hx0) (RBools.ext HH.out hx0) hd0 hd1 HB.out).mono ?_
  rintro e w1 ⟨rfl, hx1⟩
  go_wp2_with fail
  try rw [Exit.noGoto_ret]
  go_ret2
  exact ⟨rfl, ext_trans hx0 hx1⟩

theorem info_term : (Tryd.prog.info? 49).map (fun i => (i.zero, i.size, i.bytes)) = some (some (.agg #[.int .i64 0, .int .i64 0]), 2, 16) := by kernel_rfl
/-- The terms with coefficients other than 0, among the first k. -/
def termsTo (b coef : List Nat) (k : Nat) : List (Int × Int) := ((List.range k).filter fun j => decide (ate coef j ≠ 0)).map fun j => (((b.getD j 0 : Nat) : Int), ((ate coef j : Nat) : Int))
def tmVals (t : Int × Int) : List Value := [Value.int .i64 t.1, Value.int .i64 t.2]
theorem termsTo_succ (b coef : List Nat) (k : Nat) : termsTo b coef (k + 1) = if ate coef k ≠ 0 then termsTo b coef k ++ [(((b.getD k 0 : Nat) : Int), ((ate coef k : Nat) : Int))] else termsTo b coef k := by
  unfold termsTo
  rw [List.range_succ, List.filter_append, List.map_append]
  by_cases h : ate coef k = 0
  · rw [if_neg (by simpa using h)]; simp [h]
  · rw [if_pos h]; simp [h]
theorem termsTo_len (b coef : List Nat) (k : Nat) : (termsTo b coef k).length ≤ k := by
  unfold termsTo
  rw [List.length_map]
  have := List.length_filter_le (fun j => decide (ate coef j ≠ 0)) (List.range k)
  simpa using this
def zeroB (l : List Nat) : Bool := l.all fun x => x == 0
/-- What is left of row u, and its coefficients. -/
def restL (m n : Nat) (par : List (List Int)) (b : List Nat) (reds : List Red) (u : Nat) : List Nat × List Nat := redL m reds (gRow n par u) b.length reds.length

set_option maxHeartbeats 400000 in
theorem terms1_any (a : Int) (w : World) : Calls Tryd.prog 78 #[.int .i64 a] w (Ret w (.bool (a == 0))) := by
  go_enter Tryd.func78, Tryd.ntmps78
  go_wp2_with fail
  go_ret
  exact ⟨rfl, ext_refl w⟩
theorem entersF_terms1 : EntersF Tryd.prog 78 := entersF_of Tryd.func78 (by kernel_rfl) rfl

/-- What terms needs of the span. -/
structure SpanOk (m n : Nat) (par : List (List Int)) (b : List Nat) (reds : List Red) : Prop where
  bl : b.length ≤ 32
  rl : reds.length ≤ b.length
  good : RedOk m n b.length reds

/-- What terms answers: the terms L where z holds, else that the unit is lost. -/
def TermsPost (z : Bool) (L : List (Int × Int)) (w : World) (e : Ending) (w' : World) : Prop :=
  (z = true → ∃ v', e = .returned (.tuple #[v', .int .i64 0]) ∧ w'.ownsRow w.heap.size 49 2 v' L.length (L.flatMap tmVals)) ∧ (z = false → e = .returned (.tuple #[.slice none 0 0, .int .i64 11])) ∧ Ext w w'
theorem TermsPost.lost {z : Bool} {L : List (Int × Int)} {w w' : World} {e : Ending} (hz : z = false) (he : e = .returned (.tuple #[.slice none 0 0, .int .i64 11])) (hx : Ext w w') : TermsPost z L w e w' :=
  ⟨(fun h => absurd (hz.symm.trans h) (by decide)), fun _ => he, hx⟩
theorem TermsPost.found {z : Bool} {L : List (Int × Int)} {w w' : World} {v' : Value} (hz : z = true) (ho : w'.ownsRow w.heap.size 49 2 v' L.length (L.flatMap tmVals)) (hx : Ext w w') : TermsPost z L w (.returned (.tuple #[v', .int .i64 0])) w' :=
  ⟨fun _ => ⟨v', rfl, ho⟩, (fun h => absurd (hz.symm.trans h) (by decide)), hx⟩

set_option maxRecDepth 100000 in
set_option maxHeartbeats 4000000 in
theorem terms_any (nm : ByteArray) (m n : Nat) (dm : Int) (par : List (List Int)) (vp : Value) (b : List Nat) (reds : List Red) (u S : Nat) (w : World) (hl : Laid w) (hp : RRows w vp par) (hok : okB m n par = true) (hu : u < n + par.length)
    (hS : SpanAt w S nm m n vp dm b reds) (hso : SpanOk m n par b reds) :
    Calls Tryd.prog 53 #[.pointer (some ⟨S, 0, none⟩), .int .i64 u] w (TermsPost (zeroB (restL m n par b reds u).1) (termsTo b (restL m n par b reds u).2 b.length) w) := by
  have HP := Lib.hid hp
  have HK := Lib.hid hok
  have HS := Lib.hid hS
  have HSO := Lib.hid hso
  obtain ⟨A, c, rfl, hlen, hvc⟩ := hp.form
  obtain ⟨m', n', em, en, hm, hn1, hn2, hrows⟩ := okB_facts hok
  obtain rfl : m = m' := by omega
  obtain rfl : n = n' := by omega
  have hrw : ∀ row ∈ par, row.length = n ∧ row.all (elemB m) = true := fun row h => ⟨(hrows row h).1, (hrows row h).2.1⟩
  have HRX := Lib.hid (fun row h => (hrw row h).1)
  have HM := Lib.hid hm
  have HGN := Lib.hid fun W h1 h2 => eragen_ok nm m n dm par (.slice A par.length c) W h1 h2 hok
  have HFL : Hid (ivs (genL n par) = nvs (flatM (n + par.length) n (gEl n par))) := by show _ = _; rw [genL_flat hm hrw]; rfl
  have hrowl := Lib.hid (show (gRow n par u).length = n ∧ Bl m (gRow n par u) from ⟨gRow_len hm hrw hu, gRow_bd hm hrw hu⟩)
  obtain ⟨N, hNe⟩ : ∃ N, N = n + par.length := ⟨_, rfl⟩
  have HNE := Lib.hid hNe
  rw [← hNe] at HGN HFL hn2 hu
  have hn0 : 0 < n := hn1
  have hn32 : n ≤ 32 := by omega
  obtain ⟨vb, vr, hrow, hvb, hvr⟩ := hS
  have HVB := Lib.hid hvb
  obtain ⟨Ab, cb, rfl, -, -⟩ := hvb
  obtain ⟨K, hKe⟩ : ∃ K, K = b.length := ⟨_, rfl⟩
  have hlb : (List.map (Value.int .i64) (nints b)).length = K := by simp [nints, hKe]
  rw [hlb] at HVB hrow
  have HKE := Lib.hid hKe
  have HROW := Lib.hid hrow
  have HVR := Lib.hid hvr
  have s0 := row_cell hrow 0 (v := .string nm) rfl
  have s1 := row_cell hrow 1 (v := .int .i64 m) rfl
  have s2 := row_cell hrow 2 (v := .int .i64 n) rfl
  have s3 := row_cell hrow 3 (v := .slice A par.length c) rfl
  have s4 := row_cell hrow 4 (v := .int .i64 dm) rfl
  have s5 := row_cell hrow 5 (v := .slice Ab K cb) rfl
  have s6 := row_cell hrow 6 (v := vr) rfl
  have hK32 : K ≤ 32 := by have := hso.bl; omega
  clear hp hok hso hrows hrw hm hNe hrow hvr hlb hKe em en
  go_enter Tryd.func53, Tryd.ntmps53
  go_wp2_with fail
  refine (HGN.out _ hl HP.out).mono ?_
  rintro e w1 ⟨vg, rfl, hog, hx1⟩
  have hnN : n * 1 ≤ N * n := by have := HNE.out; rw [Nat.mul_comm N n]; exact Nat.mul_le_mul_left n (by omega)
  obtain ⟨gg, cg, rfl⟩ := own_some hog (by omega)
  have HOG := Lib.hid hog
  clear hog hnN
  have hx2 : Ext w1 (w1.alloc (.cells #[.int .i64 m, .int .i64 N, .int .i64 n, .slice (some ⟨gg, 0, none⟩) (N * n) cg] 31)) := ext_alloc (ext_refl w1) _
  have hM0 := row_alloc w1 #[.int .i64 m, .int .i64 N, .int .i64 n, .slice (some ⟨gg, 0, none⟩) (N * n) cg] 31 w1.heap.size rfl
  have m3 := row_cell hM0 3 (v := .slice (some ⟨gg, 0, none⟩) (N * n) cg) rfl
  go_wp2_with fail
  obtain ⟨W0, hW0⟩ : ∃ W0, W0 = w1.alloc (.cells #[.int .i64 m, .int .i64 N, .int .i64 n, .slice (some ⟨gg, 0, none⟩) (N * n) cg] 31) := ⟨_, rfl⟩
  rw [← hW0] at hx2 m3 ⊢
  clear hM0 hW0
  have hx3 := ext_trans hx1 hx2
  have t1 := ext_cell hx3 s1
  have t2 := ext_cell hx3 s2
  have t5 := ext_cell hx3 s5
  have t6 := ext_cell hx3 s6
  obtain ⟨GM, hGM⟩ : ∃ GM, GM = w1.heap.size := ⟨_, rfl⟩
  rw [← hGM] at m3 ⊢
  obtain ⟨p, hp⟩ : ∃ p, p = u * n := ⟨_, rfl⟩
  obtain ⟨q, hq⟩ : ∃ q, q = p + n := ⟨_, rfl⟩
  have hqN : q ≤ N * n := by
    have : (u + 1) * n ≤ N * n := Nat.mul_le_mul_right n (by omega)
    rw [Nat.add_mul, Nat.one_mul, ← hp, ← hq] at this
    exact this
  have hNn : N * n ≤ 1024 := Nat.le_trans (Nat.mul_le_mul (show N ≤ 32 by omega) hn32) (by omega)
  have hcap : N * n ≤ cg ∧ cg ≤ maxLen := by
    rcases HOG.out.2 with ⟨h, _⟩ | ⟨g, cap, cur, h, _, _, h3, h4, _⟩
    · cases h
    · injection h with h5 h6 h7; subst h7; exact ⟨h3, h4⟩
  obtain ⟨hcc, hcm⟩ := hcap
  unfold maxLen at hcm
  have y1 : IntKind.i64.wrap ((u : Int) * (n : Int)) = (p : Int) := by rw [← Int.natCast_mul, ← hp]; exact IntWalk.i64_in _ (by omega)
  have y2 : IntKind.i64.wrap ((u : Int) + 1) = (u : Int) + 1 := IntWalk.i64_in _ (by omega)
  have y3 : IntKind.i64.wrap (((u : Int) + 1) * (n : Int)) = (q : Int) := by
    have : ((u : Int) + 1) * (n : Int) = (q : Int) := by
      rw [show ((u : Int) + 1) = ((u + 1 : Nat) : Int) by simp, ← Int.natCast_mul, Nat.add_mul, Nat.one_mul, ← hp, ← hq]
    rw [this]; exact IntWalk.i64_in _ (by omega)
  have HVW : Hid (RInts W0 (.slice (some ⟨gg, p, none⟩) (q - p) (cg - p)) (nints (gRow n par u))) := by
    have hgl := hrowl.out.1
    refine ⟨_, cg - p, by rw [show (List.map (Value.int .i64) (nints (gRow n par u))).length = q - p by simp [nints, hgl]; omega], by rw [lim_val]; simp [nints, hgl]; omega, .inr ⟨gg, p, rfl, fun j v hv => ?_⟩⟩
    have hjn : j < n := by
      have := (List.getElem?_eq_some_iff.1 hv).1
      simpa [nints, hgl] using this
    have h1 := HOG.out.cells (g := gg) rfl (u * n + j) (.int .i64 (gEl n par u j : Nat)) (by
      rw [HFL.out]
      unfold nvs nints ivs
      rw [List.getElem?_map, List.getElem?_map, flatM_get _ hu hjn]
      rfl)
    rw [add_plain', Nat.zero_add] at h1
    have h2 := ext_cell hx2 h1
    rw [hp, h2]
    unfold gEl
    rw [ate_get (by omega)]
    obtain ⟨hv1, hv2⟩ := List.getElem?_eq_some_iff.1 hv
    rw [← hv2]
    simp [nints]
  have hpq : p ≤ q := by omega
  have hqc : q ≤ cg := by omega
  have hpc : p < cg := by omega
  have HRDC := Lib.hid fun Wx t1 t2 t3 t4 t5 t6 => spanReduce_any m n K HM.out hn0 hn32 hK32 (gRow n par u) hrowl.out.1 hrowl.out.2 reds (by have := HSO.out.rl; have := HKE.out; omega) (by have := HSO.out.rl; have := HKE.out; omega) (by rw [HKE.out]; exact HSO.out.good) S cb Ab vr (.slice (some ⟨gg, p, none⟩) (q - p) (cg - p)) Wx t1 t2 t3 t4 t5 t6
  have hxc : Ext W0 W0 := ext_refl W0
  have hxd : Ext W0 W0.drew := ext_drew (ext_refl W0)
  have hcp : ¬ cg = p := by omega
  clear hGM hp hqN hNn hcm hq hcc s0 s1 s2 s3 s4 s5 s6
  apply rest4 (F := fun W g1 c1 g2 => Ext W0 W ∧ W.ownsRow W0.heap.size 3 1 (.slice (some ⟨g1, 0, none⟩) n c1) n (nvs (restL m n par b reds u).1) ∧ W.ownsRow W0.heap.size 3 1 (.slice (some ⟨g2, 0, none⟩) K K) K (nvs (restL m n par b reds u).2))
  case h1 =>
    intro REST
    go_region_held3 (fun w' => Ext W0 w' ∧ w'.cell? ⟨S, 2, none⟩ = some (.int .i64 n) ∧ w'.cell? ⟨GM, 3, none⟩ = some (.slice (some ⟨gg, 0, none⟩) (N * n) cg)) (first
        | (refine (fun (h : Ext W0 _) => ⟨h, ext_cell h t2, ext_cell h m3⟩) ?_
           first | exact hxc | exact ext_drew hxc))
      (first
       | (go_at_call 75
          with_reducible refine (HRDC.out _ ((hl.ext hx3).ext hxd) (ext_cell hxd t1) (ext_cell hxd t5) (ext_cell hxd t6) ((HVR.out.ext hx3).ext hxd) (RInts.ext HVW.out hxd)).mono ?_
          rintro e w4 ⟨g1, c1, g2, rfl, ho1, ho2, hne, hx4⟩
          replace hxc : Ext W0 w4 := ext_trans hxd hx4))
    all_goals
      rw [show redL m reds (gRow n par u) K reds.length = restL m n par b reds u by rw [HKE.out]; rfl] at ho1 ho2
      replace ho1 := own_le (base' := W0.heap.size) hxd.size ho1
      replace ho2 := own_le (base' := W0.heap.size) hxd.size ho2
      exact REST _ _ _ _ ⟨hxc, ho1, ho2⟩
  case h2 =>
    intro W g1 c1 g2 hF
    obtain ⟨hxF, ho1, ho2⟩ := hF
    obtain ⟨r1, r2⟩ := hrowl.out
    obtain ⟨q1, q2, q3, q4⟩ := redL_ok (K := b.length) HM.out r1 r2 HSO.out.good reds.length (Nat.le_refl _)
    obtain ⟨rest, hrest⟩ : ∃ rest, rest = (restL m n par b reds u).1 := ⟨_, rfl⟩
    obtain ⟨coef, hcoef⟩ : ∃ coef, coef = (restL m n par b reds u).2 := ⟨_, rfl⟩
    have hcl : coef.length = K := by rw [hcoef, HKE.out]; exact q2
    have hrl : rest.length = n := by rw [hrest]; exact q1
    rw [← hrest] at ho1
    rw [← hcoef] at ho2
    have HRS := Lib.hid hrest
    have HCF := Lib.hid hcoef
    have HEV := Lib.hid (every_eint 78 #[] isZ (ivs (nints rest)) (.slice (some ⟨g1, 0, none⟩) n c1) W (own_sl ho1 (by have := nvs_len rest; show (nvs rest).length ≤ lim; rw [lim_val]; omega)) entersF_terms1 (fun v hv W' _ => by
      obtain ⟨x, hx, rfl⟩ := List.mem_map.1 hv
      exact terms1_any x W'))
    have HZE : Hid ((ivs (nints rest)).all isZ = zeroB rest) := by
      show _ = _
      rw [show ivs (nints rest) = (nints rest).map (Value.int .i64) from rfl, all_isZ]
      unfold nints zeroB
      rw [List.all_map]
      congr 1
      funext x
      rw [Bool.eq_iff_iff]
      simp [Function.comp]
    have HO2 := Lib.hid ho2
    have HCL := Lib.hid hcl
    have t5W := ext_cell hxF t5
    have HVBW := Lib.hid (RInts.ext (RInts.ext HVB.out hx3) hxF)
    have hxW := ext_trans hx3 hxF
    have HKL := HKE.out
    have HKH := Lib.hid HKL
    clear q1 q2 q3 q4 r1 r2 hrest hcoef ho1 ho2 hrl hcl HKL hxd hxc hcp y1 y2 y3 hpq hqc hpc
    go_wp2_with fail
    refine HEV.out.mono ?_
    rintro e w5 ⟨rfl, hx5⟩
    rw [HZE.out]
    cases hz : zeroB rest with
    | false =>
      go_wp2_with fail
      go_ret2
      exact TermsPost.lost (by rw [← HRS.out]; exact hz) rfl (ext_trans hxW hx5)
    | true =>
      have hxY := ext_trans hxW hx5
      have HO3 := Lib.hid (own_ext HO2.out hx5)
      have t5Y := ext_cell hx5 t5W
      have HVBY := Lib.hid (RInts.ext HVBW.out hx5)
      have hszY := hxY.size
      go_wp2_with fail
      go_loopw [10, 49] (fun v iv wr => ∃ k : Nat, k ≤ K ∧ iv = .int .i64 k ∧ Hid (wr.ownsRow w5.heap.size 49 2 v (termsTo b coef k).length ((termsTo b coef k).flatMap tmVals)) ∧ Ext w5 wr) (fun _ iv _ => K - (intOf iv).toNat)
      case atStart => exact ⟨0, Nat.zero_le _, rfl, own_nil' _ _ _ _, ext_refl _⟩
      case round =>
        obtain ⟨k, hk, rfl, ho, hx⟩ := hrel
        by_cases hlt : k < K
        · have hkc : k < coef.length := by have := HCL.out; omega
          obtain ⟨x, hxe⟩ : ∃ x, x = coef[k] := ⟨_, rfl⟩
          have hcx : wr.cell? ⟨g2, k, none⟩ = some (.int .i64 (x : Nat)) := by
            rw [(own_ext HO3.out hx).cellAt k (by omega), nvs_getl hkc, hxe]
          have hax : ate coef k = x := by rw [hxe, ate_get hkc]
          have hpl := termsTo_len b coef k
          have HTS := termsTo_succ b coef k
          rw [hax] at HTS
          by_cases hx0 : x = 0
          · have HTN : Hid (termsTo b coef (k + 1) = termsTo b coef k) := by show _ = _; rw [HTS, if_neg (by simpa using hx0)]
            rw [hx0] at hcx
            have HON : Hid (wr.ownsRow w5.heap.size 49 2 u10 (termsTo b coef (k + 1)).length ((termsTo b coef (k + 1)).flatMap tmVals)) := by
              show World.ownsRow _ _ _ _ _ _ _
              rw [HTN.out]; exact ho.out
            clear HTS hax hxe hx0
            go_wp2_with fail
            go_roundw
            case rel => exact ⟨k + 1, by omega, by simp, HON.out, hx⟩
            case measure => simp [intOf]; omega
          · have t2' : ((x : Int) != 0) = true := by simpa using hx0
            obtain ⟨bb, oo, hA, hcu⟩ := HVBY.out.get k (by have := HKH.out; simp [nints]; omega)
            subst hA
            have hkb : k < b.length := by have := HKH.out; omega
            obtain ⟨y, hy⟩ : ∃ y, y = b[k] := ⟨_, rfl⟩
            have hcu2 : wr.cell? ⟨bb, oo + k, none⟩ = some (.int .i64 (y : Nat)) := ext_cell hx (by rw [hcu, hy]; simp [nints])
            have t5r := ext_cell hx t5Y
            have HTN : Hid (termsTo b coef (k + 1) = termsTo b coef k ++ [(((y : Nat) : Int), ((x : Nat) : Int))]) := by
              show _ = _
              rw [HTS, if_pos hx0, hy, show b.getD k 0 = b[k] by simp [hkb]]
            obtain ⟨A3, c3, rfl, -⟩ := own_seg ho.out (by omega)
            have HO1 : Hid ((wr.alloc (.cells #[.int .i64 (y : Int), .int .i64 (x : Int)] 49)).ownsRow w5.heap.size 49 2 (.slice A3 (termsTo b coef k).length c3) (termsTo b coef k).length ((termsTo b coef k).flatMap tmVals)) := own_ext ho.out (ext_alloc (ext_refl wr) _)
            have hsz := hx.size
            clear HTS hax hxe hx0 hy hcu
            go_wp2_with (at_builtin; refine wpList_app rfl _ _ 45 rfl w5.heap.size 49 _ 2 16 Tryd.underlying45 info_term rfl (by omega) _ (termsTo b coef k).length _ rfl HO1.out (some ⟨wr.heap.size, 0, none⟩) 1 1 [.int .i64 (y : Int), .int .i64 (x : Int)] rfl (by simp) (seg_new _ _ _) (by simp [Value.oneCell']) (by simp only [maxLen]; omega) (by omega) (by simp; omega) ?_; intro v7 w7 hown hgrow hat)
            have hx7 := ext_grown (ext_alloc hx (.cells #[.int .i64 (y : Int), .int .i64 (x : Int)] 49)) hgrow (fun i hi => own_base' HO1.out i hi)
            have HON : Hid (w7.ownsRow w5.heap.size 49 2 v7 (termsTo b coef (k + 1)).length ((termsTo b coef (k + 1)).flatMap tmVals)) := by
              show World.ownsRow _ _ _ _ _ _ _
              rw [HTN.out, List.flatMap_append, List.length_append]
              simpa [tmVals] using hown
            clear hown hgrow hat
            go_wp2_with fail
            go_roundw
            case rel => exact ⟨k + 1, by omega, by simp, HON.out, hx7⟩
            case measure => simp [intOf]; omega
        · have hkK : K = k := by omega
          have HOF : Hid (wr.ownsRow w.heap.size 49 2 u10 (termsTo b coef b.length).length ((termsTo b coef b.length).flatMap tmVals)) := by
            show World.ownsRow _ _ _ _ _ _ _
            rw [← HKH.out, hkK]
            exact own_le hszY ho.out
          clear hkK
          go_wp2_with fail
          go_ret2
          exact TermsPost.found (by rw [← HRS.out]; exact hz) (by rw [← HCF.out]; exact HOF.out) (ext_trans hxY hx)

end Go.Proofs.YtgflflpeilfinaaDoor

/- The walks of erasure.Combination, Recoverable, Decodable, fit. -/
set_option linter.unusedVariables false
set_option linter.unusedSimpArgs false
namespace Go.Proofs.YtgflflpeilfinaaDoor
open Go.RowKit

def recB (m n : Nat) (par : List (List Int)) (hs : List Bool) (u : Nat) : Bool := zeroB (restL m n par (basisL m n par hs) (spanL m n par hs) u).1
def cmbT (m n : Nat) (par : List (List Int)) (hs : List Bool) (u : Nat) : List (Int × Int) := termsTo (basisL m n par hs) (restL m n par (basisL m n par hs) (spanL m n par hs) u).2 (basisL m n par hs).length

theorem basisL_len {m n : Nat} {par : List (List Int)} {hs : List Bool} (hm : Fm m) (hrw : ∀ row ∈ par, row.length = n ∧ row.all (elemB m) = true) (hN : hs.length = n + par.length) : (basisL m n par hs).length ≤ n := by
  unfold basisL
  rw [List.length_map]
  exact redTo_len hm (fun p q hp hq => by
    refine gEl_lt hm hrw ?_ p
    rw [show (presL hs).getD q 0 = (presL hs)[q] by simp [hq]]
    have := (presTo_lt _ (List.getElem_mem (l := presL hs) hq)).1
    omega)
theorem span_ok {m n : Nat} {par : List (List Int)} {hs : List Bool} (hm : Fm m) (hrw : ∀ row ∈ par, row.length = n ∧ row.all (elemB m) = true) (hN : hs.length = n + par.length) (h32 : n + par.length ≤ 32) : SpanOk m n par (basisL m n par hs) (spanL m n par hs) := by
  have hBF := basisL_facts (hs := hs) hm hrw hN
  have hb := basisL_len (hs := hs) hm hrw hN
  refine ⟨by omega, spanTo_len _, ?_⟩
  unfold spanL
  refine spanTo_ok hm _ (fun j hj => ?_)
  have hu : (basisL m n par hs).getD j 0 < n + par.length := by
    rw [show (basisL m n par hs).getD j 0 = (basisL m n par hs)[j] by simp [hj]]
    have := (presTo_lt _ (hBF.sub _ (List.getElem_mem hj))).1
    omega
  exact ⟨gRow_len hm hrw hu, gRow_bd hm hrw hu⟩

set_option maxHeartbeats 1000000 in
theorem comb_err (nm : ByteArray) (f d dm unit : Int) (par : List (List Int)) (vp vh : Value) (hs : List Bool) (w : World) (hl : Laid w) (hp : RRows w vp par) (hh : RBools w vh hs) (hd0 : -9223372036854775808 ≤ d) (hd1 : d ≤ 9223372036854775807) (hb : hvB f d par hs = false) :
    Calls Tryd.prog 25 #[vCd nm f d vp dm, vh, .int .i64 unit] w (Ret w (.tuple #[.slice none 0 0, .int .i64 1])) := by
  have HP := Lib.hid hp
  have HH := Lib.hid hh
  have HB := Lib.hid hb
  obtain ⟨A, c, rfl, hlen, hvc⟩ := hp.form
  have hx0 : Ext w (w.alloc (.cells #[.string nm, .int .i64 f, .int .i64 d, .slice A par.length c, .int .i64 dm] 24)) := ext_alloc (ext_refl w) _
  clear hp hh hb
  go_enter Tryd.func25, Tryd.ntmps25
  go_wp2_with fail
  refine (spanOf_err nm f d dm par _ vh hs _ (hl.ext hx0) (HP.out.ext hx0) (RBools.ext HH.out hx0) hd0 hd1 HB.out).mono ?_
  rintro e w1 ⟨rfl, hx1⟩
  go_wp2_with fail
  go_ret2
  exact ⟨rfl, ext_trans hx0 hx1⟩

set_option maxHeartbeats 1000000 in
theorem comb_out (nm : ByteArray) (m n : Nat) (dm unit : Int) (par : List (List Int)) (vp vh : Value) (hs : List Bool) (w : World) (hl : Laid w) (hp : RRows w vp par) (hh : RBools w vh hs) (hok : okB m n par = true) (hN : hs.length = n + par.length) (hu : unit < 0 ∨ (hs.length : Int) ≤ unit) :
    Calls Tryd.prog 25 #[vCd nm m n vp dm, vh, .int .i64 unit] w (Ret w (.tuple #[.slice none 0 0, .int .i64 1])) := by
  have HP := Lib.hid hp
  have HH := Lib.hid hh
  have HSP := Lib.hid fun W h1 h2 h3 => spanOf_ok nm m n dm par vp vh hs W h1 h2 h3 hok hN
  obtain ⟨A, c, rfl, hlen, hvc⟩ := hp.form
  obtain ⟨B, cB, rfl, hlB, -⟩ := hh
  rw [List.length_map] at hlB HH HSP ⊢
  rw [lim_val] at hlB
  have hx0 : Ext w (w.alloc (.cells #[.string nm, .int .i64 m, .int .i64 n, .slice A par.length c, .int .i64 dm] 24)) := ext_alloc (ext_refl w) _
  clear hp hok hN
  by_cases h0 : unit < 0
  · have t1 : decide (unit < 0) = true := by simpa using h0
    go_enter Tryd.func25, Tryd.ntmps25
    go_wp2_with fail
    refine (HSP.out _ (hl.ext hx0) (HP.out.ext hx0) (RBools.ext HH.out hx0)).mono ?_
    rintro e w1 ⟨S, rfl, hS, hS1, hx1⟩
    go_wp2_with fail
    go_ret2
    exact ⟨rfl, ext_trans hx0 hx1⟩
  · have t1 : decide (unit < 0) = false := by simpa using h0
    have t2 : decide (unit ≥ (hs.length : Int)) = true := by simp; omega
    go_enter Tryd.func25, Tryd.ntmps25
    go_wp2_with fail
    refine (HSP.out _ (hl.ext hx0) (HP.out.ext hx0) (RBools.ext HH.out hx0)).mono ?_
    rintro e w1 ⟨S, rfl, hS, hS1, hx1⟩
    go_wp2_with fail
    go_ret2
    exact ⟨rfl, ext_trans hx0 hx1⟩

theorem TermsPost.before {z : Bool} {L : List (Int × Int)} {w w1 w' : World} {e : Ending} (h : TermsPost z L w1 e w') (hx : Ext w w1) : TermsPost z L w e w' :=
  ⟨fun hz => by obtain ⟨v', he, ho⟩ := h.1 hz; exact ⟨v', he, own_le hx.size ho⟩, h.2.1, ext_trans hx h.2.2⟩

set_option maxHeartbeats 1000000 in
theorem comb_ok (nm : ByteArray) (m n : Nat) (dm : Int) (u : Nat) (par : List (List Int)) (vp vh : Value) (hs : List Bool) (w : World) (hl : Laid w) (hp : RRows w vp par) (hh : RBools w vh hs) (hok : okB m n par = true) (hN : hs.length = n + par.length) (hu : u < hs.length) :
    Calls Tryd.prog 25 #[vCd nm m n vp dm, vh, .int .i64 u] w (TermsPost (recB m n par hs u) (cmbT m n par hs u) w) := by
  obtain ⟨m', n', em, en, hm, hn1, hn2, hrows⟩ := okB_facts hok
  obtain rfl : m = m' := by omega
  obtain rfl : n = n' := by omega
  have hrw : ∀ row ∈ par, row.length = n ∧ row.all (elemB m) = true := fun row h => ⟨(hrows row h).1, (hrows row h).2.1⟩
  have hso := span_ok (hs := hs) hm hrw hN hn2
  have HP := Lib.hid hp
  have HH := Lib.hid hh
  have HSP := Lib.hid fun W h1 h2 h3 => spanOf_ok nm m n dm par vp vh hs W h1 h2 h3 hok hN
  have HTM := Lib.hid fun S W h1 h2 h3 => terms_any nm m n dm par vp (basisL m n par hs) (spanL m n par hs) u S W h1 h2 hok (by omega) h3 hso
  obtain ⟨A, c, rfl, hlen, hvc⟩ := hp.form
  obtain ⟨B, cB, rfl, hlB, -⟩ := hh
  rw [List.length_map] at hlB HH HSP ⊢
  rw [lim_val] at hlB
  have hx0 : Ext w (w.alloc (.cells #[.string nm, .int .i64 m, .int .i64 n, .slice A par.length c, .int .i64 dm] 24)) := ext_alloc (ext_refl w) _
  clear hp hok hN hrows hrw hso hm em en
  have t1 : decide ((u : Int) < 0) = false := by simp
  have t2 : decide (hs.length ≤ u) = false := by simp; omega
  obtain ⟨z, hz⟩ : ∃ z, z = recB m n par hs u := ⟨_, rfl⟩
  obtain ⟨L, hL⟩ : ∃ L, L = cmbT m n par hs u := ⟨_, rfl⟩
  have HT2 : Hid (∀ S W, Laid W → RRows W (.slice A par.length c) par → SpanAt W S nm m n (.slice A par.length c) dm (basisL m n par hs) (spanL m n par hs) → Calls Tryd.prog 53 #[.pointer (some ⟨S, 0, none⟩), .int .i64 u] W (TermsPost z L W)) := by
    show ∀ S W, _ → _ → _ → _
    intro S W h1 h2 h3
    rw [hz, hL]
    exact HTM.out S W h1 h2 h3
  rw [← hz, ← hL]
  clear HTM hz hL
  go_enter Tryd.func25, Tryd.ntmps25
  go_wp2_with fail
  refine (HSP.out _ (hl.ext hx0) (HP.out.ext hx0) (RBools.ext HH.out hx0)).mono ?_
  rintro e w1 ⟨S, rfl, hS, hS1, hx1⟩
  have HS := Lib.hid hS
  have hx2 := ext_trans hx0 hx1
  clear hS
  go_wp2_with fail
  refine (HT2.out S _ (hl.ext hx2) (HP.out.ext hx2) HS.out).mono ?_
  rintro e w2 hpost
  have HPO := Lib.hid (hpost.before hx2)
  cases z with
  | true =>
    obtain ⟨v', rfl, ho⟩ := hpost.1 rfl
    clear hpost
    go_wp2_with fail
    go_ret2
    exact HPO.out
  | false =>
    obtain rfl := hpost.2.1 rfl
    clear hpost
    go_wp2_with fail
    go_ret2
    exact HPO.out

end Go.Proofs.YtgflflpeilfinaaDoor

/- The walks of erasure.Recoverable, Decodable, fit. -/
set_option linter.unusedVariables false
set_option linter.unusedSimpArgs false
namespace Go.Proofs.YtgflflpeilfinaaDoor
open Go.RowKit

set_option maxHeartbeats 1000000 in
theorem recov_err (nm : ByteArray) (f d dm unit : Int) (par : List (List Int)) (vp vh : Value) (w : World) (hl : Laid w) (hp : RRows w vp par)
    (hC : ∀ W, Ext w W → Calls Tryd.prog 25 #[vCd nm f d vp dm, vh, .int .i64 unit] W (Ret W (.tuple #[.slice none 0 0, .int .i64 1]))) :
    Calls Tryd.prog 29 #[vCd nm f d vp dm, vh, .int .i64 unit] w (Ret w (.bool false)) := by
  have HC := Lib.hid hC
  obtain ⟨A, c, rfl, hlen, hvc⟩ := hp.form
  have hx0 : Ext w (w.alloc (.cells #[.string nm, .int .i64 f, .int .i64 d, .slice A par.length c, .int .i64 dm] 24)) := ext_alloc (ext_refl w) _
  clear hC hp
  go_enter Tryd.func29, Tryd.ntmps29
  go_wp2_with fail
  refine (HC.out _ hx0).mono ?_
  rintro e w1 ⟨rfl, hx1⟩
  go_wp2_with fail
  go_ret
  exact ⟨rfl, ext_trans hx0 hx1⟩

set_option maxHeartbeats 1000000 in
theorem recov_ok (nm : ByteArray) (m n : Nat) (dm : Int) (u : Nat) (par : List (List Int)) (vp vh : Value) (hs : List Bool) (w : World) (hl : Laid w) (hp : RRows w vp par) (hh : RBools w vh hs) (hok : okB m n par = true) (hN : hs.length = n + par.length) (hu : u < hs.length) :
    Calls Tryd.prog 29 #[vCd nm m n vp dm, vh, .int .i64 u] w (Ret w (.bool (recB m n par hs u))) := by
  have hx : ∀ W, Ext w W → Calls Tryd.prog 25 #[vCd nm m n vp dm, vh, .int .i64 u] W (TermsPost (recB m n par hs u) (cmbT m n par hs u) W) := fun W h => comb_ok nm m n dm u par vp vh hs W (hl.ext h) (hp.ext h) (RBools.ext hh h) hok hN hu
  have HC := Lib.hid hx
  obtain ⟨A, c, rfl, hlen, hvc⟩ := hp.form
  have hx0 : Ext w (w.alloc (.cells #[.string nm, .int .i64 m, .int .i64 n, .slice A par.length c, .int .i64 dm] 24)) := ext_alloc (ext_refl w) _
  obtain ⟨z, hz⟩ : ∃ z, z = recB m n par hs u := ⟨_, rfl⟩
  rw [← hz] at HC ⊢
  clear hx hp hok hN hh hz
  go_enter Tryd.func29, Tryd.ntmps29
  go_wp2_with fail
  refine (HC.out _ hx0).mono ?_
  rintro e w1 hpost
  have hx2 := ext_trans hx0 hpost.2.2
  cases z with
  | true =>
    obtain ⟨v', rfl, ho⟩ := hpost.1 rfl
    clear hpost
    go_wp2_with fail
    go_ret
    exact ⟨rfl, hx2⟩
  | false =>
    obtain rfl := hpost.2.1 rfl
    clear hpost
    go_wp2_with fail
    go_ret
    exact ⟨rfl, hx2⟩

set_option maxHeartbeats 1000000 in
theorem decod_err (nm : ByteArray) (f d dm : Int) (par : List (List Int)) (vp vh : Value) (hs : List Bool) (w : World) (hl : Laid w) (hp : RRows w vp par) (hh : RBools w vh hs) (hd0 : -9223372036854775808 ≤ d) (hd1 : d ≤ 9223372036854775807) (hb : hvB f d par hs = false) :
    Calls Tryd.prog 30 #[vCd nm f d vp dm, vh] w (Ret w (.bool false)) := by
  have HP := Lib.hid hp
  have HH := Lib.hid hh
  have HB := Lib.hid hb
  obtain ⟨A, c, rfl, hlen, hvc⟩ := hp.form
  have hx0 : Ext w (w.alloc (.cells #[.string nm, .int .i64 f, .int .i64 d, .slice A par.length c, .int .i64 dm] 24)) := ext_alloc (ext_refl w) _
  clear hp hh hb
  go_enter Tryd.func30, Tryd.ntmps30
  go_wp2_with fail
  refine (basis_err nm f d dm par _ vh hs _ (hl.ext hx0) (HP.out.ext hx0) (RBools.ext HH.out hx0) hd0 hd1 HB.out).mono ?_
  rintro e w1 ⟨rfl, hx1⟩
  go_wp2_with fail
  go_ret
  exact ⟨rfl, ext_trans hx0 hx1⟩

set_option maxHeartbeats 1000000 in
theorem decod_ok (nm : ByteArray) (m n : Nat) (dm : Int) (par : List (List Int)) (vp vh : Value) (hs : List Bool) (w : World) (hl : Laid w) (hp : RRows w vp par) (hh : RBools w vh hs) (hok : okB m n par = true) (hN : hs.length = n + par.length) :
    Calls Tryd.prog 30 #[vCd nm m n vp dm, vh] w (Ret w (.bool (decide ((basisL m n par hs).length = n)))) := by
  have HP := Lib.hid hp
  have HH := Lib.hid hh
  have HB := Lib.hid fun W h1 h2 h3 => basis_ok nm m n dm par vp vh hs W h1 h2 h3 hok hN
  obtain ⟨m', n', em, en, hm, hn1, hn2, hrows⟩ := okB_facts hok
  obtain rfl : m = m' := by omega
  obtain rfl : n = n' := by omega
  have hbl := basisL_len (hs := hs) hm (fun row h => ⟨(hrows row h).1, (hrows row h).2.1⟩) hN
  obtain ⟨A, c, rfl, hlen, hvc⟩ := hp.form
  have hx0 : Ext w (w.alloc (.cells #[.string nm, .int .i64 m, .int .i64 n, .slice A par.length c, .int .i64 dm] 24)) := ext_alloc (ext_refl w) _
  obtain ⟨b, hb⟩ : ∃ b, b = basisL m n par hs := ⟨_, rfl⟩
  rw [← hb] at HB hbl ⊢
  obtain ⟨K, hK⟩ : ∃ K, K = b.length := ⟨_, rfl⟩
  rw [← hK] at HB hbl ⊢
  have HE : Hid (((K : Int) == (n : Int)) = decide (K = n)) := by
    show _ = _
    rw [Bool.eq_iff_iff, beq_iff_eq, decide_eq_true_eq]
    constructor <;> intro h <;> omega
  clear hp hh hok hN hrows hm em en hb hK
  go_enter Tryd.func30, Tryd.ntmps30
  go_wp2_with fail
  refine (HB.out _ (hl.ext hx0) (HP.out.ext hx0) (RBools.ext HH.out hx0)).mono ?_
  rintro e w1 ⟨v', rfl, ho, hx1⟩
  obtain ⟨A2, c2, rfl, -⟩ := own_seg ho (by omega)
  have d2 : w1.cell? ⟨w.heap.size, 2, none⟩ = some (.int .i64 n) := ext_cell hx1 (by simp [go_sem])
  clear ho
  go_wp2_with fail
  go_ret
  exact ⟨ret_bool (by first | exact HE.out | (simp; done)), ext_trans hx0 hx1⟩

/-- The present units' contents, among the first k. -/
def puTo (us : List ByteArray) (hs : List Bool) (k : Nat) : List ByteArray := (presTo hs k).map fun i => us.getD i ByteArray.empty
theorem puTo_succ (us : List ByteArray) (hs : List Bool) (k : Nat) : puTo us hs (k + 1) = if hs.getD k false then puTo us hs k ++ [us.getD k ByteArray.empty] else puTo us hs k := by
  unfold puTo
  rw [presTo_succ]
  split <;> simp
def fitB (f d : Int) (par : List (List Int)) (us : List ByteArray) (hs : List Bool) : Bool := okB f d par && (decide ((us.length : Int) = d + par.length) && (decide ((hs.length : Int) = d + par.length) && uniB f (puTo us hs hs.length)))
theorem RStrs.get {w : World} {A : Option Addr} {n c : Nat} {xs : List ByteArray} (h : RStrs w (.slice A n c) xs) (k : Nat) (hk : k < xs.length) : ∃ b o, A = some ⟨b, o, none⟩ ∧ w.cell? ⟨b, o + k, none⟩ = some (.string xs[k]) := by
  obtain ⟨A', c', e, hl, hs⟩ := h
  injection e with e1 e2 e3
  subst e1
  obtain ⟨b, o, h1, h2⟩ := hs.get (by simp; omega)
  exact ⟨b, o, h1, by rw [h2 k (by simpa using hk)]; simp⟩

set_option maxHeartbeats 1000000 in
theorem fit_no (nm : ByteArray) (f d dm : Int) (par : List (List Int)) (vp vu vh : Value) (us : List ByteArray) (hs : List Bool) (w : World) (hl : Laid w) (hp : RRows w vp par) (hu : RStrs w vu us) (hh : RBools w vh hs) (hd0 : -9223372036854775808 ≤ d) (hd1 : d ≤ 9223372036854775807)
    (hb : (okB f d par && (decide ((us.length : Int) = d + par.length) && decide ((hs.length : Int) = d + par.length))) = false) :
    Calls Tryd.prog 59 #[vCd nm f d vp dm, vu, vh] w (Ret w (.bool false)) := by
  have HW := Lib.hid fun W h1 h2 => eraWidth_any nm f d dm par vp W h1 h2 hd0 hd1
  have HP := Lib.hid hp
  obtain ⟨A, c, rfl, hlen, hvc⟩ := hp.form
  obtain ⟨B, cB, rfl, hlB, -⟩ := hu
  obtain ⟨D, cD, rfl, hlD, -⟩ := hh
  rw [List.length_map] at hlB hlD ⊢
  rw [List.length_map]
  rw [lim_val] at hlB hlD
  have hx0 : Ext w (w.alloc (.cells #[.string nm, .int .i64 f, .int .i64 d, .slice A par.length c, .int .i64 dm] 24)) := ext_alloc (ext_refl w) _
  clear hp
  cases hok : okB f d par with
  | false =>
    have HWI : Hid (widthI f d par = 0) := by show _ = _; unfold widthI; rw [hok]; rfl
    clear hok hb
    go_enter Tryd.func59, Tryd.ntmps59
    go_wp2_with fail
    refine (HW.out _ (hl.ext hx0) (HP.out.ext hx0)).mono ?_
    rintro e w1 ⟨rfl, hx1⟩
    rw [HWI.out]
    go_wp2_with fail
    go_ret
    exact ⟨rfl, ext_trans hx0 hx1⟩
  | true =>
    obtain ⟨m, n, rfl, rfl, hm, hn1, hn2, hrows⟩ := okB_facts hok
    obtain ⟨N, hN⟩ : ∃ N, N = n + par.length := ⟨_, rfl⟩
    have HWI : Hid (widthI m n par = (N : Int)) := by show _ = _; unfold widthI; rw [hok, hN]; simp
    have t0 : ((N : Int) == 0) = false := by simp; omega
    rw [hok, Bool.true_and, Bool.and_eq_false_iff] at hb
    have hb' : us.length ≠ N ∨ hs.length ≠ N := by
      rcases hb with h | h
      · left; have := of_decide_eq_false h; omega
      · right; have := of_decide_eq_false h; omega
    clear hok hrows hm hb hN
    by_cases h1 : us.length = N
    · have t1 : ((us.length : Int) != (N : Int)) = false := by simp; omega
      have t2 : ((hs.length : Int) != (N : Int)) = true := by simp; omega
      clear h1 hb'
      go_enter Tryd.func59, Tryd.ntmps59
      go_wp2_with fail
      refine (HW.out _ (hl.ext hx0) (HP.out.ext hx0)).mono ?_
      rintro e w1 ⟨rfl, hx1⟩
      rw [HWI.out]
      go_wp2_with fail
      go_ret
      exact ⟨rfl, ext_trans hx0 hx1⟩
    · have t1 : ((us.length : Int) != (N : Int)) = true := by simp; omega
      clear h1 hb'
      go_enter Tryd.func59, Tryd.ntmps59
      go_wp2_with fail
      refine (HW.out _ (hl.ext hx0) (HP.out.ext hx0)).mono ?_
      rintro e w1 ⟨rfl, hx1⟩
      rw [HWI.out]
      go_wp2_with fail
      go_ret
      exact ⟨rfl, ext_trans hx0 hx1⟩

set_option maxRecDepth 100000 in
set_option maxHeartbeats 1000000 in
theorem fit_len (nm : ByteArray) (m n : Nat) (dm : Int) (par : List (List Int)) (vp vu vh : Value) (us : List ByteArray) (hs : List Bool) (w : World) (hl : Laid w) (hp : RRows w vp par) (hu : RStrs w vu us) (hh : RBools w vh hs) (hsz : ∀ u ∈ us, u.size ≤ lim) (hok : okB m n par = true)
    (h1 : us.length = n + par.length) (h2 : hs.length = n + par.length) :
    Calls Tryd.prog 59 #[vCd nm m n vp dm, vu, vh] w (Ret w (.bool (uniB m (puTo us hs hs.length)))) := by
  have HP := Lib.hid hp
  have HU := Lib.hid hu
  have HH := Lib.hid hh
  have HZ := Lib.hid hsz
  obtain ⟨m', n', em, en, hm, hn1, hn2, hrows⟩ := okB_facts hok
  obtain rfl : m = m' := by omega
  obtain rfl : n = n' := by omega
  have HW := Lib.hid fun W h1 h2 => eraWidth_any nm m n dm par vp W h1 h2 (by omega) (by omega)
  obtain ⟨N, hN⟩ : ∃ N, N = n + par.length := ⟨_, rfl⟩
  have HWI : Hid (widthI m n par = (N : Int)) := by show _ = _; unfold widthI; rw [hok, hN]; simp
  obtain ⟨A, c, rfl, hlen, hvc⟩ := hp.form
  obtain ⟨B, cB, rfl, -, -⟩ := hu
  obtain ⟨D, cD, rfl, -, -⟩ := hh
  rw [List.length_map] at HU HH ⊢
  rw [List.length_map]
  rw [← hN] at h1 h2 hn2
  rw [h1] at HU ⊢
  rw [h2] at HH ⊢
  have hx0 : Ext w (w.alloc (.cells #[.string nm, .int .i64 m, .int .i64 n, .slice A par.length c, .int .i64 dm] 24)) := ext_alloc (ext_refl w) _
  have t0 : ((N : Int) == 0) = false := by simp; omega
  have t1 : ((N : Int) != (N : Int)) = false := by simp
  have H1 := Lib.hid h1
  have H2 := Lib.hid h2
  clear hp hsz hok hrows hm em en h1 h2 hN
  go_enter Tryd.func59, Tryd.ntmps59
  go_wp2_with fail
  refine (HW.out _ (hl.ext hx0) (HP.out.ext hx0)).mono ?_
  rintro e w1 ⟨rfl, hx1⟩
  rw [HWI.out]
  have hx2 := ext_trans hx0 hx1
  have c0 := ext_cell hx1 (a := ⟨w.heap.size, 0, none⟩) (v := .string nm) (by simp [go_sem])
  have c1 := ext_cell hx1 (a := ⟨w.heap.size, 1, none⟩) (v := .int .i64 m) (by simp [go_sem])
  have c2 := ext_cell hx1 (a := ⟨w.heap.size, 2, none⟩) (v := .int .i64 n) (by simp [go_sem])
  have c3 := ext_cell hx1 (a := ⟨w.heap.size, 3, none⟩) (v := .slice A par.length c) (by simp [go_sem])
  have c4 := ext_cell hx1 (a := ⟨w.heap.size, 4, none⟩) (v := .int .i64 dm) (by simp [go_sem])
  have HU1 := Lib.hid (RStrs.ext HU.out hx2)
  have HH1 := Lib.hid (RBools.ext HH.out hx2)
  go_wp2_with fail
  go_loopw [8, 29] (fun v iv wr => ∃ k : Nat, k ≤ N ∧ iv = .int .i64 k ∧ Hid (wr.ownsRow w1.heap.size 9 1 v (presTo hs k).length ((puTo us hs k).map .string)) ∧ Ext w1 wr) (fun _ iv _ => N - (intOf iv).toNat)
  case atStart => exact ⟨0, Nat.zero_le _, rfl, own_nil' _ _ _ _, ext_refl _⟩
  case round =>
    obtain ⟨k, hk, rfl, ho, hx⟩ := hrel
    by_cases hlt : k < N
    · obtain ⟨b, o, hA, hcl⟩ := HU1.out.get k (by rw [H1.out]; exact hlt)
      obtain ⟨b', o', hA', hcl'⟩ := HH1.out.get k (by rw [H2.out]; exact hlt)
      subst hA
      subst hA'
      obtain ⟨x, hxe⟩ : ∃ x, x = us[k]'(by rw [H1.out]; exact hlt) := ⟨_, rfl⟩
      have hkh : k < hs.length := by rw [H2.out]; exact hlt
      have hku : k < us.length := by rw [H1.out]; exact hlt
      have hcx := ext_cell hx (show w1.cell? ⟨b, o + k, none⟩ = some (.string x) by rw [hcl, hxe])
      have hch := ext_cell hx hcl'
      have hPS : Hid (presTo hs (k + 1) = if hs[k] then presTo hs k ++ [k] else presTo hs k) := by
        show _ = _
        rw [presTo_succ, show hs.getD k false = hs[k] by simp [hkh]]
      have hPU : Hid (puTo us hs (k + 1) = if hs[k] then puTo us hs k ++ [x] else puTo us hs k) := by
        show _ = _
        rw [puTo_succ, show hs.getD k false = hs[k] by simp [hkh], hxe, show us.getD k ByteArray.empty = us[k] by simp [hku]]
      have hpl := presTo_len hs k
      clear hcl hcl' hxe
      cases hb : hs[k] with
      | false =>
        rw [hb] at hch hPS hPU
        have HON : Hid (wr.ownsRow w1.heap.size 9 1 u8 (presTo hs (k + 1)).length ((puTo us hs (k + 1)).map .string)) := by
          show World.ownsRow _ _ _ _ _ _ _
          rw [hPS.out, hPU.out]; exact ho.out
        clear hb
        go_wp2_with fail
        go_roundw
        case rel => exact ⟨k + 1, by omega, by simp, HON, hx⟩
        case measure => simp [intOf]; omega
      | true =>
        rw [hb] at hch hPS hPU
        obtain ⟨A3, c3', rfl, -⟩ := own_seg ho.out (by omega)
        clear hb
        have HO1 : Hid ((wr.alloc (.cells #[.string x] 9)).ownsRow w1.heap.size 9 1 (.slice A3 (presTo hs k).length c3') (presTo hs k).length ((puTo us hs k).map .string)) := own_ext ho.out (ext_alloc (ext_refl wr) _)
        have hsz := hx.size
        go_wp2_with (at_builtin; refine wpList_app rfl _ _ 25 rfl w1.heap.size 9 _ 1 16 Tryd.underlying25 info_str rfl (by omega) _ (presTo hs k).length ((puTo us hs k).map .string) rfl HO1.out (some ⟨wr.heap.size, 0, none⟩) 1 1 [.string x] rfl (by simp) (seg_new _ _ _) (by simp [Value.oneCell']) (by simp only [maxLen]; omega) (by omega) (by simp; omega) ?_; intro v7 w7 hown hgrow hat)
        have hx7 := ext_grown (ext_alloc hx (.cells #[.string x] 9)) hgrow (fun i hi => own_base' HO1.out i hi)
        have HON : Hid (w7.ownsRow w1.heap.size 9 1 v7 (presTo hs (k + 1)).length ((puTo us hs (k + 1)).map .string)) := by
          show World.ownsRow _ _ _ _ _ _ _
          rw [hPS.out, hPU.out]
          simp only [if_true]
          simpa using hown
        clear hown hgrow hat
        go_wp2_with fail
        go_roundw
        case rel => exact ⟨k + 1, by omega, by simp, HON, hx7⟩
        case measure => simp [intOf]; omega
    · have hk' : k = hs.length := by have := H2.out; omega
      have HPL : Hid (RStrs wr u8 (puTo us hs hs.length)) := by
        have := ho.out
        rw [hk'] at this
        refine own_sl this ?_
        have := presTo_len hs hs.length
        rw [List.length_map, lim_val]
        unfold puTo
        rw [List.length_map]
        have := H2.out
        omega
      have HPZ : Hid (∀ u ∈ puTo us hs hs.length, u.size ≤ lim) := by
        show ∀ u ∈ _, _
        intro u hu
        obtain ⟨i, hi, rfl⟩ := List.mem_map.1 hu
        have hil := (presTo_lt i hi).1
        have hiu : i < us.length := by have := H1.out; have := H2.out; omega
        rw [show us.getD i ByteArray.empty = us[i] by simp [hiu]]
        exact HZ.out _ (List.getElem_mem _)
      have d0 := ext_cell hx c0
      have d1 := ext_cell hx c1
      have d2 := ext_cell hx c2
      have d3 := ext_cell hx c3
      have d4 := ext_cell hx c4
      obtain ⟨A3, c3', rfl, -⟩ := own_seg ho.out (by omega)
      clear hk' ho
      go_wp2_with fail
      refine (uniform_any nm m n dm _ _ (puTo us hs hs.length) wr HPL.out HPZ.out rfl).mono ?_
      rintro e w2 ⟨rfl, hx3⟩
      go_wp2_with fail
      go_ret
      exact ⟨ret_bool (by rw [H2.out]), ext_trans hx2 (ext_trans hx hx3)⟩

end Go.Proofs.YtgflflpeilfinaaDoor
