/- The walks of package erasure: Valid, Width. -/
import Derived.Test.YtgflflpeilfinaaDoorFieldC
import Derived.Test.YtgflflpeilfinaaDoorEvery
import Derived.Test.YtgflflpeilfinaaDoorBase
import Derived.Maps.AppendAt
import Derived.WalkSpells
import Derived.Test.YtgflflpeilfinaaDoorComb
set_option linter.unusedVariables false
set_option linter.unusedSimpArgs false
namespace Go.Proofs.YtgflflpeilfinaaDoor
open Go.RowKit

/-- A code as data. -/
structure Cd where
  name : ByteArray
  field : Int
  data : Int
  par : List (List Int)
  dom : Int
def rowOk (f d : Int) (row : List Int) : Bool := decide ((row.length : Int) = d) && (row.all (elemB f) && !row.all fun x => x == 0)
/-- Is a code valid? -/
def okB (f d : Int) (par : List (List Int)) : Bool := decide ((f = 8 ∨ f = 16) ∧ 1 ≤ d ∧ d + par.length ≤ 32) && par.all (rowOk f d)

def isZ : Value → Bool
  | .int _ a => a == 0
  | _ => false
def isEl (m : Int) : Value → Bool
  | .int _ a => elemB m a
  | _ => false
theorem all_isZ (xs : List Int) : (xs.map (Value.int .i64)).all isZ = xs.all fun x => x == 0 := by rw [List.all_map]; rfl
theorem all_isEl (m : Int) (xs : List Int) : (xs.map (Value.int .i64)).all (isEl m) = xs.all (elemB m) := by rw [List.all_map]; rfl

set_option maxHeartbeats 400000 in
theorem valid11_any (f a : Int) (q : Addr) (w : World) (hl : Laid w) (hq : w.cell? ⟨q.block, q.off + 1, none⟩ = some (.int .i64 f)) (hs : q.spot = none) :
    Calls Tryd.prog 49 #[.int .i64 a, .pointer (some q)] w (Ret w (.bool (elemB f a))) := by
  obtain ⟨b, o, s⟩ := q
  simp only at hq hs
  subst hs
  go_enter Tryd.func49, Tryd.ntmps49
  go_wp2_with fail
  refine (fieldValid_any f a w hl).mono ?_
  rintro e w1 ⟨rfl, hx⟩
  go_wp2_with fail
  go_ret
  exact ⟨rfl, hx⟩
set_option maxHeartbeats 400000 in
theorem valid12_any (a : Int) (w : World) : Calls Tryd.prog 50 #[.int .i64 a] w (Ret w (.bool (a == 0))) := by
  go_enter Tryd.func50, Tryd.ntmps50
  go_wp2
  go_ret
  exact ⟨rfl, ext_refl w⟩
theorem entersF_valid11 : EntersF Tryd.prog 49 := entersF_of Tryd.func49 (by kernel_rfl) rfl
theorem entersF_valid12 : EntersF Tryd.prog 50 := entersF_of Tryd.func50 (by kernel_rfl) rfl

set_option maxHeartbeats 1000000 in
theorem valid1_any (f d : Int) (row : List Int) (v : Value) (b : Nat) (w : World) (hl : Laid w) (hv : RInts w v row) (h1 : w.cell? ⟨b, 1, none⟩ = some (.int .i64 f)) (h2 : w.cell? ⟨b, 2, none⟩ = some (.int .i64 d)) :
    Calls Tryd.prog 47 #[v, .pointer (some ⟨b, 0, none⟩)] w (Ret w (.bool (rowOk f d row))) := by
  have HV := Lib.hid hv
  have HR := Lib.hid (show rowOk f d row = (decide ((row.length : Int) = d) && (row.all (elemB f) && !row.all fun x => x == 0)) from rfl)
  obtain ⟨A, c, rfl, hlen, -⟩ := hv
  rw [List.length_map] at HV hlen ⊢
  by_cases hd : (row.length : Int) = d
  · have t1 : ((row.length : Int) == d) = true := by simpa using hd
    have HD := Lib.hid hd
    clear hd
    go_enter Tryd.func47, Tryd.ntmps47
    go_wp2_with fail
    refine (every_eint 49 _ (isEl f) _ _ _ HV.out entersF_valid11 ?_).mono ?_
    · intro u hu w' hw'
      obtain ⟨x, hx, rfl⟩ := List.mem_map.1 hu
      exact valid11_any f x ⟨b, 0, none⟩ w' (hl.ext hw') (by simpa using ext_cell hw' h1) rfl
    rintro e w1 ⟨rfl, hx1⟩
    rw [all_isEl]
    cases hel : row.all (elemB f) with
    | false =>
      have HE := Lib.hid hel
      clear hel
      go_wp2_with fail
      go_ret
      exact ⟨ret_bool (by rw [HR.out, HE.out]; simp), hx1⟩
    | true =>
      have HE := Lib.hid hel
      clear hel
      go_wp2_with fail
      refine (every_eint 50 _ isZ _ _ _ (RInts.ext HV.out hx1) entersF_valid12 ?_).mono ?_
      · intro u hu w' hw'
        obtain ⟨x, hx, rfl⟩ := List.mem_map.1 hu
        exact valid12_any x w'
      rintro e w2 ⟨rfl, hx2⟩
      rw [all_isZ]
      go_wp2_with fail
      go_ret
      exact ⟨ret_bool (by rw [HR.out, HE.out, decide_eq_true HD.out]; simp), ext_trans hx1 hx2⟩
  · have t1 : ((row.length : Int) == d) = false := by simpa using hd
    have HF : Hid (rowOk f d row = false) := by show _ = _; rw [HR.out, decide_eq_false hd]; rfl
    clear hd
    go_enter Tryd.func47, Tryd.ntmps47
    go_wp2_with fail
    go_ret
    exact ⟨ret_bool (by rw [HF.out]), ext_refl w⟩
theorem entersF_valid1 : EntersF Tryd.prog 47 := entersF_of Tryd.func47 (by kernel_rfl) rfl


/-- A code as a value. -/
abbrev vCd (nm : ByteArray) (f d : Int) (vp : Value) (dm : Int) : Value := .agg #[.string nm, .int .i64 f, .int .i64 d, vp, .int .i64 dm]

set_option maxHeartbeats 1000000 in
theorem eraValid_any (nm : ByteArray) (f d dm : Int) (par : List (List Int)) (vp : Value) (w : World) (hl : Laid w) (hp : RRows w vp par) (hd0 : -9223372036854775808 ≤ d) (hd1 : d ≤ 9223372036854775807) :
    Calls Tryd.prog 19 #[vCd nm f d vp dm] w (Ret w (.bool (okB f d par))) := by
  obtain ⟨vs, hs, ha⟩ := hp
  have hn := ha.length
  have HA := Lib.hid ha
  have HS := Lib.hid hs
  obtain ⟨A, c, rfl, hlen, -⟩ := hs
  rw [hn] at HS hlen ⊢
  rw [lim_val] at hlen
  have E0 : Hid (elemB f 0 = decide (f = 8 ∨ f = 16)) := by
    show _ = _
    rw [Bool.eq_iff_iff]
    simp only [elemB, decide_eq_true_eq]
    constructor
    · exact fun h => h.1
    · intro h
      refine ⟨h, by omega, ?_⟩
      rcases h with rfl | rfl <;> decide
  have H0 := Lib.hid (show okB f d par = (decide ((f = 8 ∨ f = 16) ∧ 1 ≤ d ∧ d + par.length ≤ 32) && par.all (rowOk f d)) from rfl)
  clear ha hn
  have hx0 : Ext w (w.alloc (.cells #[.string nm, .int .i64 f, .int .i64 d, .slice A par.length c, .int .i64 dm] 24)) := ext_alloc (ext_refl w) _
  by_cases hf : f = 8 ∨ f = 16
  · have E1 : Hid (elemB f 0 = true) := by show _ = _; rw [E0.out]; exact decide_eq_true hf
    by_cases hb : 1 ≤ d ∧ d + par.length ≤ 32
    · have HB : Hid (okB f d par = par.all (rowOk f d)) := by show _ = _; rw [H0.out, decide_eq_true ⟨hf, hb.1, hb.2⟩]; rfl
      obtain ⟨hb1, hb2⟩ := hb
      clear hf
      go_enter Tryd.func19, Tryd.ntmps19
      go_wp2_with fail
      refine (fieldValid_any f 0 _ (hl.ext hx0)).mono ?_
      rintro e w1 ⟨rfl, hx1⟩
      rw [E1.out]
      have hc1 : w1.cell? ⟨w.heap.size, 1, none⟩ = some (.int .i64 f) := ext_cell hx1 (by simp [go_sem])
      have hc2 : w1.cell? ⟨w.heap.size, 2, none⟩ = some (.int .i64 d) := ext_cell hx1 (by simp [go_sem])
      have hc3 : w1.cell? ⟨w.heap.size, 3, none⟩ = some (.slice A par.length c) := ext_cell hx1 (by simp [go_sem])
      have hx2 := ext_trans hx0 hx1
      go_wp2_with fail
      refine (every_eints 47 _ (fun v => rowOk f d (rdRow w v)) _ _ _ (Sl.ext HS.out hx2) entersF_valid1 ?_).mono ?_
      · intro u hu w' hw'
        obtain ⟨y, hy, hr⟩ := HA.out.mem u hu
        have := valid1_any f d y u w.heap.size w' (hl.ext (ext_trans hx2 hw')) (hr.ext (ext_trans hx2 hw')) (ext_cell hw' hc1) (ext_cell hw' hc2)
        rw [← rdRow_eq hr] at this
        exact this
      rintro e w3 ⟨rfl, hx3⟩
      have EF : Hid (vs.all (fun v => rowOk f d (rdRow w v)) = okB f d par) := by
        show _ = _
        rw [HB.out, ← rdRow_map HA.out, List.all_map]
        rfl
      rw [EF.out]
      go_wp2_with fail
      go_ret
      exact ⟨rfl, ext_trans hx2 hx3⟩
    · have HB : Hid (okB f d par = false) := by
        show _ = _
        rw [H0.out, decide_eq_false (by omega)]
        rfl
      clear hf
      go_enter Tryd.func19, Tryd.ntmps19
      go_wp2_with fail
      refine (fieldValid_any f 0 _ (hl.ext hx0)).mono ?_
      rintro e w1 ⟨rfl, hx1⟩
      rw [E1.out]
      have hc2 : w1.cell? ⟨w.heap.size, 2, none⟩ = some (.int .i64 d) := ext_cell hx1 (by simp [go_sem])
      have hc3 : w1.cell? ⟨w.heap.size, 3, none⟩ = some (.slice A par.length c) := ext_cell hx1 (by simp [go_sem])
      have hx2 := ext_trans hx0 hx1
      by_cases h1 : d < 1
      · go_wp2_with fail
        go_ret
        exact ⟨by rw [HB.out]; rfl, hx2⟩
      · have t1 : decide (d < 1) = false := by simpa using h1
        have h1' : 1 ≤ d := by omega
        by_cases h2 : 32 < par.length
        · clear hb
          go_wp2_with fail
          go_ret
          exact ⟨by rw [HB.out]; rfl, hx2⟩
        · have h2' : par.length ≤ 32 := by omega
          have h3 : (32 : Int) - par.length < d := by omega
          clear hb
          go_wp2_with fail
          go_ret
          exact ⟨by rw [HB.out]; rfl, hx2⟩
  · have E1 : Hid (elemB f 0 = false) := by show _ = _; rw [E0.out]; exact decide_eq_false hf
    have HB : Hid (okB f d par = false) := by
      show _ = _
      rw [H0.out, decide_eq_false (fun h => hf h.1)]
      rfl
    clear hf
    go_enter Tryd.func19, Tryd.ntmps19
    go_wp2_with fail
    refine (fieldValid_any f 0 _ (hl.ext hx0)).mono ?_
    rintro e w1 ⟨rfl, hx1⟩
    rw [E1.out]
    go_wp2_with fail
    go_ret
    exact ⟨by rw [HB.out]; rfl, ext_trans hx0 hx1⟩

end Go.Proofs.YtgflflpeilfinaaDoor

/- append onto a row of the call's own, whatever is appended; what is owned reads as a slice. -/
set_option linter.unusedVariables false
set_option linter.unusedSimpArgs false
namespace Go.Proofs.YtgflflpeilfinaaDoor
open Go.RowKit

theorem add_plain' (b o j : Nat) : (⟨b, o, none⟩ : Addr).add j = ⟨b, o + j, none⟩ := by unfold Addr.add; split <;> simp_all

section
variable {P : Program}
theorem run_append_nothing (w : World) (base : Nat) (t ty e : TypeId) (i : TypeInfo) (size : Nat) (ht : P.underlying t = some (.slice e)) (hi : P.info? e = some i)
    (v : Value) (n : Nat) (xs : List Value) (hown : w.ownsRow base e size v n xs) (c : Nat) :
    (Builtin.append_ #[t, t] ty #[v, .slice none 0 c]).run P w = .ok v w := by
  rcases hown.2 with ⟨rfl, rfl⟩ | ⟨g, cap, cur, rfl, _, _, hnc, _⟩
  · simp [Builtin.append_, run_underlying ht, sizeOf, typeInfo, hi, Builtin.lenOf, Builtin.firstCells]
  · simp [Builtin.append_, run_underlying ht, sizeOf, typeInfo, hi, Builtin.lenOf, Builtin.firstCells, hnc, storeCells]

variable {ops : Array Oper} {rest : List Oper} {o : Oper} {a : Act} {Q : Exit → Act → World → Prop} {w : World}
/-- 'append(v, x...)', v nil or a row of the call's own, x nil, empty or not. -/
theorem wpList_app (hgd : o.guard = none) (s x : Operand) (t : TypeId)
    (ho : o.op = .call { callee := .builtin .append, args := #[s, x], argTypes := #[t, t] })
    (base : Nat) (e : TypeId) (z : Value) (size bytes : Nat) (ht : P.underlying t = some (.slice e)) (hinfo : (P.info? e).map (fun i => (i.zero, i.size, i.bytes)) = some (some z, size, bytes))
    (hzs : z.cells.size = size) (hsz : 0 < size)
    (v : Value) (n : Nat) (xs : List Value) (hs : a.eval s = v) (hown : w.ownsRow base e size v n xs)
    (ao : Option Addr) (m c : Nat) (news : List Value) (hx : a.eval x = .slice ao m c) (hl : news.length = m * size) (hnews : Seg w ao news) (h1 : ∀ u ∈ news, u.oneCell' = true)
    (h63 : n + m ≤ maxLen) (hbytes : (n + m) * bytes ≤ 140737488355328) (hbase : base ≤ w.heap.size)
    (h : ∀ v' w', w'.ownsRow base e size v' (n + m) (xs ++ news) → w.grownBy w' v.ownBlock → (v'.ownBlock = v.ownBlock ∨ v'.ownBlock = some w.heap.size) → wpList P ops Q rest (a.put o.dst v') w') :
    wpList P ops Q (o :: rest) a w := by
  obtain ⟨i, hi, hz, hsize, hby⟩ := info_parts hinfo
  cases ao with
  | some ad =>
    by_cases hm : m = 0
    · subst hm
      have : news = [] := List.eq_nil_of_length_eq_zero (by simpa using hl)
      subst this
      refine wpList_append_own_at w hgd s x t ho base e i z size bytes ht hi hz hsize hby hzs hsz v n xs hs hown ad 0 c [] hx hl (fun j u hu => by simp at hu) h1 h63 hbytes hbase fun v' w' a1 a2 _ a4 => h v' w' a1 a2 a4
    · have hpos : 0 < news.length := by rw [hl]; exact Nat.mul_pos (by omega) hsz
      obtain ⟨b, o', hb, hc⟩ := hnews.get hpos
      injection hb with hb
      subst hb
      refine wpList_append_own_at w hgd s x t ho base e i z size bytes ht hi hz hsize hby hzs hsz v n xs hs hown _ m c news hx hl (fun j u hu => ?_) h1 h63 hbytes hbase fun v' w' a1 a2 _ a4 => h v' w' a1 a2 a4
      obtain ⟨hj, he⟩ := List.getElem?_eq_some_iff.1 hu
      rw [add_plain', hc j hj, he]
  | none =>
    have hnil : news = [] := by
      rcases hnews with h | ⟨_, _, h, _⟩
      · exact h
      · cases h
    subst hnil
    have hm : m = 0 := by
      rcases Nat.eq_zero_or_pos m with h | h
      · exact h
      · have : 0 < m * size := Nat.mul_pos h hsz
        simp at hl
        omega
    subst hm
    refine wpList_plain hgd fun K hK => ?_
    have hrun := run_append_nothing (P := P) w base t o.type e i size ht hi v n xs hown c
    unfold Oper.wp
    simp [execOp, ho, resolve, invoke, builtin, hs, hx, hrun, Result.andThen]
    exact hK _ _ (h v w (by simpa using hown) (World.grownBy.refl _ _) (.inl rfl))
end

theorem own_base' {w : World} {base : Nat} {e : TypeId} {size n : Nat} {v : Value} {xs : List Value} (h : w.ownsRow base e size v n xs) (k : Nat) (hk : v.ownBlock = some k) : base ≤ k := (h.lt k hk).1
/-- What is owned reads as a slice. -/
theorem own_seg {w : World} {base : Nat} {e : TypeId} {size n : Nat} {v : Value} {xs : List Value} (h : w.ownsRow base e size v n xs) (hsz : 0 < size) : ∃ A c, v = .slice A n c ∧ Seg w A xs := by
  rcases h.2 with ⟨rfl, rfl⟩ | ⟨g, cap, cur, rfl, _, hh, _⟩
  · exact ⟨none, 0, rfl, .inl (List.eq_nil_of_length_eq_zero (by simpa using h.1))⟩
  · exact ⟨_, cap, rfl, .inr ⟨g, 0, rfl, fun j u hu => by
      have := h.cells (g := g) rfl j u hu
      rwa [add_plain'] at this⟩⟩
theorem own_sl {w : World} {base : Nat} {e : TypeId} {n : Nat} {v : Value} {xs : List Value} (h : w.ownsRow base e 1 v n xs) (hl : xs.length ≤ lim) : Sl w v xs := by
  obtain ⟨A, c, rfl, hs⟩ := own_seg h (by omega)
  have : n = xs.length := by have := h.1; omega
  subst this
  exact ⟨A, c, rfl, hl, hs⟩
/-- A new block of no cells is an owned row. -/
theorem own_empty (w : World) (base : Nat) (e : TypeId) (size : Nat) (hb : base ≤ w.heap.size) : (w.alloc (.cells #[] e)).ownsRow base e size (.slice (some ⟨w.heap.size, 0, none⟩) 0 0) 0 [] := by
  have := World.ownsRow_lit (base := base) (e := e) (size := size) w #[] 0 hb (by simp [maxLen]) (by simp)
  simpa using this
theorem own_nil' (w : World) (base : Nat) (e : TypeId) (size : Nat) : w.ownsRow base e size (.slice none 0 0) 0 [] := World.ownsRow_nil w base e size
theorem own_ext {w w1 : World} {base : Nat} {e : TypeId} {size n : Nat} {v : Value} {xs : List Value} (h : w.ownsRow base e size v n xs) (hb : Ext w w1) : w1.ownsRow base e size v n xs :=
  h.kept ⟨hb.os, hb.tape, hb.output, hb.size, fun k hk _ => hb.block k hk⟩ (row := none) (by cases v.ownBlock <;> simp)
theorem ext_grown {w W W' : World} {row : Option Nat} (h : Ext w W) (hg : W.grownBy W' row) (hr : ∀ k, row = some k → w.heap.size ≤ k) : Ext w W' := Below.grown h hg h.size hr
theorem seg_grown {w w' : World} {A : Option Addr} {cs : List Value} {row : Option Nat} (h : Seg w A cs) (hg : w.grownBy w' row) (hne : ∀ b o, A = some ⟨b, o, none⟩ → some b ≠ row) : Seg w' A cs := by
  rcases h with h | ⟨b, o, h, hc⟩
  · exact .inl h
  · exact .inr ⟨b, o, h, fun j u hu => hg.cell (hc j u hu) (hne b o h)⟩
theorem one_strings (xs : List ByteArray) : ∀ u ∈ xs.map Value.string, u.oneCell' = true := by
  intro u hu
  obtain ⟨x, _, rfl⟩ := List.mem_map.1 hu
  rfl
theorem one_ints (xs : List Int) : ∀ u ∈ xs.map (Value.int .i64), u.oneCell' = true := by
  intro u hu
  obtain ⟨x, _, rfl⟩ := List.mem_map.1 hu
  rfl
theorem one_bools (xs : List Bool) : ∀ u ∈ xs.map Value.bool, u.oneCell' = true := by
  intro u hu
  obtain ⟨x, _, rfl⟩ := List.mem_map.1 hu
  rfl

theorem info_str : (Tryd.prog.info? 9).map (fun i => (i.zero, i.size, i.bytes)) = some (some (.string ⟨#[]⟩), 1, 16) := by kernel_rfl
theorem info_int : (Tryd.prog.info? 3).map (fun i => (i.zero, i.size, i.bytes)) = some (some (.int .i64 0), 1, 8) := by kernel_rfl
theorem info_ints : (Tryd.prog.info? 29).map (fun i => (i.zero, i.size, i.bytes)) = some (some (.slice none 0 0), 1, 24) := by kernel_rfl

set_option maxHeartbeats 400000 in
/-- slices.Clone. -/
theorem clone_str (xs : List ByteArray) (v : Value) (w : World) (hv : Sl w v (xs.map Value.string)) (hb : xs.length * 16 ≤ 140737488355328) :
    Calls Tryd.prog 42 #[v] w fun e w' => ∃ v', e = .returned v' ∧ w'.ownsRow w.heap.size 9 1 v' xs.length (xs.map Value.string) ∧ Ext w w' := by
  have HV := Lib.hid hv
  obtain ⟨A, c, rfl, hl, hs⟩ := hv
  rw [List.length_map] at hl HV ⊢
  rw [lim_val] at hl
  have he : ∀ w : World, (binOp .eql 25 (.slice A xs.length c) (.slice none 0 0)).run Tryd.prog w = .ok (.bool A.isNone) w := fun w => Lib.run_eql_slice_nil w 25 9 A xs.length c 0 0 Tryd.underlying25
  cases A with
  | none =>
    have hx : xs = [] := by
      rcases hs with h | ⟨_, _, h, _⟩
      · simpa using h
      · cases h
    subst hx
    clear hs HV hb
    simp only [List.length_nil, Option.isNone_none] at he hl
    have H0 : Hid (w.ownsRow w.heap.size 9 1 (.slice none 0 0) 0 []) := own_nil' _ _ _ _
    go_enter Tryd.func42, Tryd.ntmps42
    go_wp2_with fail
    go_ret
    exact ⟨_, rfl, H0.out, ext_refl w⟩
  | some ad =>
    have HS := Lib.hid hs
    have HO : Hid ((w.alloc (.cells #[] 9)).ownsRow w.heap.size 9 1 (.slice (some ⟨w.heap.size, 0, none⟩) 0 0) 0 []) := own_empty _ _ _ _ (Nat.le_refl _)
    have hx0 : Ext w (w.alloc (.cells #[] 9)) := ext_alloc (ext_refl w) _
    clear hs
    go_enter Tryd.func42, Tryd.ntmps42
    go_wp2_with (at_builtin; go_loud (refine wpList_app rfl _ _ 25 rfl w.heap.size 9 _ 1 16 Tryd.underlying25 info_str rfl (by omega) _ 0 [] rfl HO.out _ xs.length c (xs.map Value.string) rfl (by simp) (HS.out.ext hx0) (one_strings xs) (by simp only [maxLen]; omega) (by omega) (by simp) ?_; intro v1 w1 ho hg hat))
    rw [Nat.zero_add, List.nil_append] at ho
    have HH := Lib.hid ho
    have HX : Hid (Ext w w1) := ext_grown hx0 hg (fun k hk => by cases hk; exact Nat.le_refl _)
    clear ho hg hat
    go_wp2_with fail
    go_ret
    exact ⟨_, rfl, HH.out, HX.out⟩

set_option maxHeartbeats 400000 in
/-- slices.Clone. -/
theorem clone_int (xs : List Int) (v : Value) (w : World) (hv : Sl w v (xs.map (Value.int .i64))) (hb : xs.length * 8 ≤ 140737488355328) :
    Calls Tryd.prog 93 #[v] w fun e w' => ∃ v', e = .returned v' ∧ w'.ownsRow w.heap.size 3 1 v' xs.length (xs.map (Value.int .i64)) ∧ Ext w w' := by
  have HV := Lib.hid hv
  obtain ⟨A, c, rfl, hl, hs⟩ := hv
  rw [List.length_map] at hl HV ⊢
  rw [lim_val] at hl
  have he : ∀ w : World, (binOp .eql 29 (.slice A xs.length c) (.slice none 0 0)).run Tryd.prog w = .ok (.bool A.isNone) w := fun w => Lib.run_eql_slice_nil w 29 3 A xs.length c 0 0 Tryd.underlying29
  cases A with
  | none =>
    have hx : xs = [] := by
      rcases hs with h | ⟨_, _, h, _⟩
      · simpa using h
      · cases h
    subst hx
    clear hs HV hb
    simp only [List.length_nil, Option.isNone_none] at he hl
    have H0 : Hid (w.ownsRow w.heap.size 3 1 (.slice none 0 0) 0 []) := own_nil' _ _ _ _
    go_enter Tryd.func93, Tryd.ntmps93
    go_wp2_with fail
    go_ret
    exact ⟨_, rfl, H0.out, ext_refl w⟩
  | some ad =>
    have HS := Lib.hid hs
    have HO : Hid ((w.alloc (.cells #[] 3)).ownsRow w.heap.size 3 1 (.slice (some ⟨w.heap.size, 0, none⟩) 0 0) 0 []) := own_empty _ _ _ _ (Nat.le_refl _)
    have hx0 : Ext w (w.alloc (.cells #[] 3)) := ext_alloc (ext_refl w) _
    clear hs
    go_enter Tryd.func93, Tryd.ntmps93
    go_wp2_with (at_builtin; go_loud (refine wpList_app rfl _ _ 29 rfl w.heap.size 3 _ 1 8 Tryd.underlying29 info_int rfl (by omega) _ 0 [] rfl HO.out _ xs.length c (xs.map (Value.int .i64)) rfl (by simp) (HS.out.ext hx0) (one_ints xs) (by simp only [maxLen]; omega) (by omega) (by simp) ?_; intro v1 w1 ho hg hat))
    rw [Nat.zero_add, List.nil_append] at ho
    have HH := Lib.hid ho
    have HX : Hid (Ext w w1) := ext_grown hx0 hg (fun k hk => by cases hk; exact Nat.le_refl _)
    clear ho hg hat
    go_wp2_with fail
    go_ret
    exact ⟨_, rfl, HH.out, HX.out⟩

end Go.Proofs.YtgflflpeilfinaaDoor

/- The walks of package erasure: Width, uniform, Encode. -/
set_option linter.unusedVariables false
set_option linter.unusedSimpArgs false
namespace Go.Proofs.YtgflflpeilfinaaDoor
open Go.RowKit

def widthI (f d : Int) (par : List (List Int)) : Int := if okB f d par then d + par.length else 0

set_option maxHeartbeats 400000 in
theorem eraWidth_any (nm : ByteArray) (f d dm : Int) (par : List (List Int)) (vp : Value) (w : World) (hl : Laid w) (hp : RRows w vp par) (hd0 : -9223372036854775808 ≤ d) (hd1 : d ≤ 9223372036854775807) :
    Calls Tryd.prog 21 #[vCd nm f d vp dm] w (Ret w (.int .i64 (widthI f d par))) := by
  have HP := Lib.hid hp
  obtain ⟨vs, ⟨A, c, rfl, hlen, -⟩, ha⟩ := hp
  have hn := ha.length
  rw [hn] at HP hlen ⊢
  clear ha hn
  have hx0 : Ext w (w.alloc (.cells #[.string nm, .int .i64 f, .int .i64 d, .slice A par.length c, .int .i64 dm] 24)) := ext_alloc (ext_refl w) _
  go_enter Tryd.func21, Tryd.ntmps21
  go_wp2_with fail
  refine (eraValid_any nm f d dm par _ _ (hl.ext hx0) (HP.out.ext hx0) hd0 hd1).mono ?_
  rintro e w1 ⟨rfl, hx1⟩
  have hx2 := ext_trans hx0 hx1
  have hc2 : w1.cell? ⟨w.heap.size, 2, none⟩ = some (.int .i64 d) := ext_cell hx1 (by simp [go_sem])
  have hc3 : w1.cell? ⟨w.heap.size, 3, none⟩ = some (.slice A par.length c) := ext_cell hx1 (by simp [go_sem])
  cases hb : okB f d par with
  | false =>
    have HB : Hid (widthI f d par = 0) := by show _ = _; rw [widthI, if_neg (by rw [hb]; decide)]
    clear hb
    go_wp2_with fail
    go_ret
    exact ⟨ret_int (by rw [HB.out]), hx2⟩
  | true =>
    have HB : Hid (widthI f d par = d + par.length) := by show _ = _; rw [widthI, if_pos hb]
    have hok : (f = 8 ∨ f = 16) ∧ 1 ≤ d ∧ d + par.length ≤ 32 := by
      unfold okB at hb
      rw [Bool.and_eq_true] at hb
      exact of_decide_eq_true hb.1
    obtain ⟨-, hd2, hd3⟩ := hok
    clear hb
    go_wp2_with fail
    go_ret
    exact ⟨ret_int (by rw [HB.out]), hx2⟩

def uniOne (f : Int) (n : Nat) (u : ByteArray) : Bool := decide (u.size = n) && (decide (f = 8) || decide (u.size % 2 = 0))
def uniB (f : Int) (us : List ByteArray) : Bool := us.all (uniOne f ((us[0]?.getD ByteArray.empty).size))
def uniV (f : Int) (n : Nat) : Value → Bool
  | .string u => uniOne f n u
  | _ => false

set_option maxHeartbeats 400000 in
theorem uniform1_any (f : Int) (us : List ByteArray) (u : ByteArray) (vu : Value) (p : Addr) (b : Nat) (w : World) (hu : RStrs w vu us) (hp : w.cell? p = some vu) (hf : w.cell? ⟨b, 1, none⟩ = some (.int .i64 f)) (hpos : 0 < us.length) (hsz : u.size < 9223372036854775807) :
    Calls Tryd.prog 64 #[.string u, .pointer (some p), .pointer (some ⟨b, 0, none⟩)] w (Ret w (.bool (uniOne f ((us[0]?.getD ByteArray.empty).size) u))) := by
  obtain ⟨A, c, rfl, hlen, hs⟩ := hu
  rw [List.length_map] at hlen hp
  obtain ⟨b0, o0, rfl, hc⟩ := hs.get (by simpa using hpos)
  have h0 := hc 0 (by simpa using hpos)
  rw [List.getElem_map, Nat.add_zero] at h0
  obtain ⟨x, hx⟩ : ∃ x, x = us[0] := ⟨_, rfl⟩
  rw [← hx] at h0
  have he : us[0]?.getD ByteArray.empty = x := by rw [List.getElem?_eq_getElem hpos, hx]; rfl
  rw [he]
  have HU := Lib.hid (show uniOne f x.size u = (decide (u.size = x.size) && (decide (f = 8) || decide (u.size % 2 = 0))) from rfl)
  clear hc hs he hx
  by_cases h1 : u.size = x.size
  · have t1 : ((u.size : Int) == (x.size : Int)) = true := beq_iff_eq.2 (by omega)
    have H1 := Lib.hid h1
    clear h1
    by_cases h2 : f = 8
    · have t2 : (f == 8) = true := by simpa using h2
      have H2 := Lib.hid h2
      clear h2
      go_enter Tryd.func64, Tryd.ntmps64
      go_wp2_with fail
      go_ret
      exact ⟨ret_bool (by rw [HU.out, decide_eq_true H1.out, decide_eq_true H2.out]; rfl), ext_refl w⟩
    · have t2 : (f == 8) = false := by simpa using h2
      have H2 := Lib.hid h2
      clear h2
      have T3 : Hid (((u.size : Int) % 2 == 0) = decide (u.size % 2 = 0)) := by
        show _ = _
        rw [Bool.eq_iff_iff]
        simp
        omega
      go_enter Tryd.func64, Tryd.ntmps64
      go_wp2_with fail
      go_ret
      exact ⟨ret_bool (by rw [HU.out, decide_eq_true H1.out, decide_eq_false H2.out, T3.out]; rfl), ext_refl w⟩
  · have t1 : ((u.size : Int) == (x.size : Int)) = false := beq_eq_false_iff_ne.2 (by omega)
    have H1 := Lib.hid h1
    clear h1
    go_enter Tryd.func64, Tryd.ntmps64
    go_wp2_with fail
    go_ret
    exact ⟨ret_bool (by rw [HU.out, decide_eq_false H1.out]; rfl), ext_refl w⟩
theorem entersF_uniform1 : EntersF Tryd.prog 64 := entersF_of Tryd.func64 (by kernel_rfl) rfl

set_option maxHeartbeats 400000 in
theorem uniform_any (nm : ByteArray) (f d dm : Int) (vp vu : Value) (us : List ByteArray) (w : World) (hu : RStrs w vu us) (hsz : ∀ u ∈ us, u.size ≤ lim) (hvp : vp.cells = #[vp]) :
    Calls Tryd.prog 41 #[vCd nm f d vp dm, vu] w (Ret w (.bool (uniB f us))) := by
  have HU := Lib.hid hu
  have HZ := Lib.hid hsz
  obtain ⟨A, c, rfl, hlen, -⟩ := hu
  rw [List.length_map] at HU hlen ⊢
  clear hsz
  have hx0 : Ext w ((w.alloc (.cells #[.string nm, .int .i64 f, .int .i64 d, vp, .int .i64 dm] 24)).alloc (.cells #[.slice A us.length c] 25)) := ext_alloc (ext_alloc (ext_refl w) _) _
  go_enter Tryd.func41, Tryd.ntmps41
  go_wp2_with fail
  refine (every_estr 64 _ (uniV f ((us[0]?.getD ByteArray.empty).size)) _ _ _ (RStrs.ext HU.out hx0) entersF_uniform1 ?_).mono ?_
  · intro u hu w' hw'
    obtain ⟨x, hx, rfl⟩ := List.mem_map.1 hu
    have hl := HZ.out x hx
    rw [lim_val] at hl
    exact uniform1_any f us x _ _ _ w' (RStrs.ext HU.out (ext_trans hx0 hw')) (ext_cell hw' (by simp [go_sem])) (ext_cell hw' (by simp [go_sem])) (List.length_pos_of_mem hx) (by omega)
  rintro e w1 ⟨rfl, hx1⟩
  have E : Hid ((us.map Value.string).all (uniV f ((us[0]?.getD ByteArray.empty).size)) = uniB f us) := by show _ = _; rw [List.all_map]; rfl
  rw [E.out]
  go_wp2_with fail
  go_ret
  exact ⟨rfl, ext_trans hx0 hx1⟩

/-- A row as natural numbers. -/
def natRow (row : List Int) : List Nat := row.map Int.toNat
theorem natRow_of {m : Nat} {row : List Int} (h : row.all (elemB m) = true) : (natRow row).map (fun (n : Nat) => (n : Int)) = row ∧ ∀ n ∈ natRow row, n < 2 ^ m := by
  rw [List.all_eq_true] at h
  constructor
  · unfold natRow
    rw [List.map_map]
    conv => rhs; rw [← List.map_id row]
    apply List.map_congr_left
    intro x hx
    obtain ⟨m', a', e, rfl, _, _⟩ := elemB_nat (h x hx)
    simp
  · intro n hn
    obtain ⟨x, hx, rfl⟩ := List.mem_map.1 hn
    obtain ⟨m', a', e, rfl, _, hlt⟩ := elemB_nat (h x hx)
    have : m = m' := by omega
    subst this
    simpa using hlt
theorem okB_facts {f d : Int} {par : List (List Int)} (h : okB f d par = true) : ∃ m n : Nat, f = m ∧ d = n ∧ Fm m ∧ 1 ≤ n ∧ n + par.length ≤ 32 ∧ ∀ row ∈ par, row.length = n ∧ row.all (elemB m) = true ∧ (row.all fun x => x == 0) = false := by
  unfold okB at h
  rw [Bool.and_eq_true] at h
  obtain ⟨h1, h2⟩ := h
  obtain ⟨hf, hd1, hd2⟩ := of_decide_eq_true h1
  obtain ⟨m, rfl, hm⟩ : ∃ m : Nat, f = m ∧ Fm m := by
    rcases hf with rfl | rfl
    · exact ⟨8, rfl, .inl rfl⟩
    · exact ⟨16, rfl, .inr rfl⟩
  obtain ⟨n, rfl⟩ := Int.eq_ofNat_of_zero_le (show 0 ≤ d by omega)
  refine ⟨m, n, rfl, rfl, hm, by omega, by omega, fun row hr => ?_⟩
  have := List.all_eq_true.1 h2 row hr
  unfold rowOk at this
  simp only [Bool.and_eq_true, decide_eq_true_eq, Bool.not_eq_true'] at this
  exact ⟨by omega, this.2.1, this.2.2⟩
/-- The parity unit of a row. -/
def parU (m : Nat) (data : List ByteArray) (row : List Int) : ByteArray := combR m (natRow row) data ((data[0]?.getD ByteArray.empty).size)
def encB (f d : Int) (par : List (List Int)) (data : List ByteArray) : Bool := okB f d par && (decide ((data.length : Int) = d) && uniB f data)
def encL (m : Nat) (par : List (List Int)) (data : List ByteArray) : List ByteArray := data ++ par.map (parU m data)

end Go.Proofs.YtgflflpeilfinaaDoor

/- The walk of erasure.Encode. -/
set_option linter.unusedVariables false
set_option linter.unusedSimpArgs false
namespace Go.Proofs.YtgflflpeilfinaaDoor
open Go.RowKit

theorem all2_split {R : Value → List Int → Prop} : ∀ {vs : List Value} {xss : List (List Int)}, All2 R vs xss → ∀ k (h : k < xss.length), ∃ v, vs[k]? = some v ∧ R v xss[k]
  | v :: vs, x :: xs, h, 0, _ => ⟨v, rfl, h.1⟩
  | v :: vs, x :: xs, h, k + 1, hk => by
    obtain ⟨u, h1, h2⟩ := all2_split h.2 k (by simpa using hk)
    exact ⟨u, by simpa using h1, by simpa using h2⟩
  | [], [], _, _, hk => by simp at hk
  | [], _ :: _, h, _, _ => h.elim
  | _ :: _, [], h, _, _ => h.elim
/-- The k-th row of a list of rows: the cell that holds it. -/
theorem RRows.get {w : World} {A : Option Addr} {c n : Nat} {xss : List (List Int)} (h : RRows w (.slice A n c) xss) (k : Nat) (hk : k < xss.length) :
    n = xss.length ∧ ∃ b o v, A = some ⟨b, o, none⟩ ∧ w.cell? ⟨b, o + k, none⟩ = some v ∧ RInts w v xss[k] := by
  obtain ⟨vs, ⟨A', c', e, hl, hs⟩, ha⟩ := h
  injection e with e1 e2 e3
  subst e1 e3
  have hn := ha.length
  obtain ⟨v, h1, h2⟩ := all2_split ha k hk
  obtain ⟨hkv, he⟩ := List.getElem?_eq_some_iff.1 h1
  obtain ⟨b, o, h3, h4⟩ := hs.get (by omega)
  exact ⟨by omega, b, o, v, h3, by rw [h4 k hkv, he], h2⟩
theorem RRows.form {w : World} {v : Value} {xss : List (List Int)} (h : RRows w v xss) : ∃ A c, v = .slice A xss.length c ∧ xss.length ≤ 140737488355328 ∧ v.cells = #[v] := by
  obtain ⟨vs, ⟨A, c, rfl, hl, hs⟩, ha⟩ := h
  rw [ha.length] at hl ⊢
  exact ⟨A, c, rfl, hl, rfl⟩

set_option maxHeartbeats 1000000 in
theorem encode_err (nm : ByteArray) (f d dm : Int) (par : List (List Int)) (vp vu : Value) (data : List ByteArray) (w : World) (hl : Laid w) (hp : RRows w vp par) (hd0 : -9223372036854775808 ≤ d) (hd1 : d ≤ 9223372036854775807)
    (hu : RStrs w vu data) (hsz : ∀ u ∈ data, u.size ≤ lim) (he : encB f d par data = false) :
    Calls Tryd.prog 16 #[vCd nm f d vp dm, vu] w (Ret w (.tuple #[.slice none 0 0, .int .i64 1])) := by
  have HP := Lib.hid hp
  have HU := Lib.hid hu
  have HZ := Lib.hid hsz
  have HE := Lib.hid he
  obtain ⟨A, c, rfl, hlen, hvc⟩ := hp.form
  obtain ⟨B, cB, rfl, hlB, -⟩ := hu
  rw [List.length_map] at hlB HU ⊢
  rw [lim_val] at hlB
  clear hp hsz he
  have hx0 : Ext w (w.alloc (.cells #[.string nm, .int .i64 f, .int .i64 d, .slice A par.length c, .int .i64 dm] 24)) := ext_alloc (ext_refl w) _
  go_enter Tryd.func16, Tryd.ntmps16
  go_wp2_with fail
  refine (eraValid_any nm f d dm par _ _ (hl.ext hx0) (HP.out.ext hx0) hd0 hd1).mono ?_
  rintro e w1 ⟨rfl, hx1⟩
  have hx2 := ext_trans hx0 hx1
  have hc0 : w1.cell? ⟨w.heap.size, 0, none⟩ = some (.string nm) := ext_cell hx1 (by simp [go_sem])
  have hc1 : w1.cell? ⟨w.heap.size, 1, none⟩ = some (.int .i64 f) := ext_cell hx1 (by simp [go_sem])
  have hc2 : w1.cell? ⟨w.heap.size, 2, none⟩ = some (.int .i64 d) := ext_cell hx1 (by simp [go_sem])
  have hc3 : w1.cell? ⟨w.heap.size, 3, none⟩ = some (.slice A par.length c) := ext_cell hx1 (by simp [go_sem])
  have hc4 : w1.cell? ⟨w.heap.size, 4, none⟩ = some (.int .i64 dm) := ext_cell hx1 (by simp [go_sem])
  cases hb : okB f d par with
  | false =>
    clear hb
    go_wp2_with fail
    go_ret2
    exact ⟨rfl, hx2⟩
  | true =>
    have HB := Lib.hid hb
    clear hb
    by_cases h1 : (data.length : Int) = d
    · have t1 : ((data.length : Int) != d) = false := by simp [h1]
      have EF : Hid (uniB f data = false) := by
        have := HE.out
        unfold encB at this
        rw [HB.out, decide_eq_true h1] at this
        exact (by simpa using this : uniB f data = false)
      clear h1
      go_wp2_with fail
      refine (uniform_any nm f d dm _ _ data w1 (RStrs.ext HU.out hx2) HZ.out rfl).mono ?_
      rintro e w2 ⟨rfl, hx3⟩
      rw [EF.out]
      go_wp2_with fail
      go_ret2
      exact ⟨rfl, ext_trans hx2 hx3⟩
    · have t1 : ((data.length : Int) != d) = true := by simpa using h1
      clear h1
      go_wp2_with fail
      go_ret2
      exact ⟨rfl, hx2⟩


theorem combR_size (m : Nat) (coefs : List Nat) (us : List ByteArray) (n : Nat) : (combR m coefs us n).size = n := by
  show ((combL m coefs us (List.replicate n 0)).map fun x => UInt8.ofNat x).toArray.size = n
  simp [combL_length]

set_option maxRecDepth 100000 in
set_option maxHeartbeats 1000000 in
theorem encode_ok (nm : ByteArray) (m n : Nat) (dm : Int) (par : List (List Int)) (vp vu : Value) (data : List ByteArray) (w : World) (hl : Laid w) (hp : RRows w vp par)
    (hu : RStrs w vu data) (hsz : ∀ u ∈ data, u.size ≤ lim) (he : encB m n par data = true) :
    Calls Tryd.prog 16 #[vCd nm m n vp dm, vu] w fun e w' => ∃ v', e = .returned (.tuple #[v', .int .i64 0]) ∧ w'.ownsRow w.heap.size 9 1 v' (encL m par data).length ((encL m par data).map .string) ∧ Ext w w' := by
  have HP := Lib.hid hp
  have HU := Lib.hid hu
  have HZ := Lib.hid hsz
  obtain ⟨hb, hd, hun⟩ : okB m n par = true ∧ data.length = n ∧ uniB m data = true := by
    unfold encB at he
    simp only [Bool.and_eq_true, decide_eq_true_eq] at he
    exact ⟨he.1, by omega, he.2.2⟩
  obtain ⟨m', n', em, en, hm, hn1, hn2, hrows⟩ := okB_facts hb
  obtain rfl : m = m' := by omega
  obtain rfl : n = n' := by omega
  have HB := Lib.hid hb
  have HN := Lib.hid hun
  have HM := Lib.hid hm
  have HR := Lib.hid hrows
  subst hd
  obtain ⟨A, c, rfl, hlen, hvc⟩ := hp.form
  obtain ⟨B, cB, rfl, hlB, -⟩ := hu
  rw [List.length_map] at hlB HU ⊢
  rw [lim_val] at hlB
  have t1 : ((data.length : Int) != (data.length : Int)) = false := by simp
  obtain ⟨sz, hsz0⟩ : ∃ sz, sz = (data[0]?.getD ByteArray.empty).size := ⟨_, rfl⟩
  have hus : ∀ u ∈ data, u.size = sz ∧ (m = 8 ∨ u.size % 2 = 0) := by
    intro u hm'
    have := List.all_eq_true.1 hun u hm'
    unfold uniOne at this
    simp only [Bool.and_eq_true, Bool.or_eq_true, decide_eq_true_eq] at this
    exact ⟨by rw [hsz0]; exact this.1, this.2.imp (fun h => by omega) id⟩
  have hd0 : data[0]'(by omega) ∈ data := List.getElem_mem _
  have hszl : sz ≤ lim := by rw [← (hus _ hd0).1]; exact hsz _ hd0
  have hszm : sz % (m / 8) = 0 := by
    have h0 := hus _ hd0
    rcases hm with rfl | rfl
    · simp; omega
    · simp; omega
  have HUS := Lib.hid hus
  have HSL := Lib.hid hszl
  have HSM := Lib.hid hszm
  have HS0 := Lib.hid hsz0
  clear hp hsz he hb hun hm hrows hus hd0 hszl hszm em en hsz0
  have hx0 : Ext w (w.alloc (.cells #[.string nm, .int .i64 m, .int .i64 data.length, .slice A par.length c, .int .i64 dm] 24)) := ext_alloc (ext_refl w) _
  go_enter Tryd.func16, Tryd.ntmps16
  go_wp2_with fail
  refine (eraValid_any nm m data.length dm par _ _ (hl.ext hx0) (HP.out.ext hx0) (by omega) (by omega)).mono ?_
  rintro e w1 ⟨rfl, hx1⟩
  rw [HB.out]
  have hx2 := ext_trans hx0 hx1
  have hc0 : w1.cell? ⟨w.heap.size, 0, none⟩ = some (.string nm) := ext_cell hx1 (by simp [go_sem])
  have hc1 : w1.cell? ⟨w.heap.size, 1, none⟩ = some (.int .i64 m) := ext_cell hx1 (by simp [go_sem])
  have hc2 : w1.cell? ⟨w.heap.size, 2, none⟩ = some (.int .i64 data.length) := ext_cell hx1 (by simp [go_sem])
  have hc3 : w1.cell? ⟨w.heap.size, 3, none⟩ = some (.slice A par.length c) := ext_cell hx1 (by simp [go_sem])
  have hc4 : w1.cell? ⟨w.heap.size, 4, none⟩ = some (.int .i64 dm) := ext_cell hx1 (by simp [go_sem])
  go_wp2_with fail
  refine (uniform_any nm m data.length dm _ _ data w1 (RStrs.ext HU.out hx2) HZ.out rfl).mono ?_
  rintro e w2 ⟨rfl, hx3⟩
  rw [HN.out]
  have hx4 := ext_trans hx2 hx3
  go_wp2_with fail
  refine (clone_str data _ w2 (RStrs.ext HU.out hx4) (by omega)).mono ?_
  rintro e w3 ⟨vo, rfl, ho, hx5⟩
  have hd1 := ext_cell hx3 hc1
  have hd3 := ext_cell hx3 hc3
  have hd3' := ext_cell hx5 hd3
  have hsz2 := hx4.size
  have HO := Lib.hid ho
  clear ho hc0 hc1 hc2 hc3 hc4 hx0 hx1 hx2 hx3
  go_wp2_with fail
  go_loopw [6, 32] (fun v i wr => ∃ k : Nat, k ≤ par.length ∧ i = .int .i64 k ∧ Hid (wr.ownsRow w2.heap.size 9 1 v (data.length + k) ((data ++ (par.take k).map (parU m data)).map .string)) ∧ Ext w2 wr) (fun _ i _ => par.length - (intOf i).toNat)
  case atStart => exact ⟨0, Nat.zero_le _, rfl, by show World.ownsRow _ _ _ _ _ _ _; simpa using HO.out, hx5⟩
  case round =>
    obtain ⟨k, hk, rfl, ho, hx⟩ := hrel
    have he1 := ext_cell hx hd1
    by_cases hlt : k < par.length
    · obtain ⟨-, b, o, rv, hA, hcell, hrv⟩ := (RRows.ext HP.out (ext_trans hx4 hx)).get k hlt
      subst hA
      obtain ⟨row, hrow⟩ : ∃ row, row = par[k] := ⟨_, rfl⟩
      rw [← hrow] at hrv
      obtain ⟨hr1, hr2, -⟩ := HR.out row (by rw [hrow]; exact List.getElem_mem _)
      obtain ⟨hn1', hn2'⟩ := natRow_of hr2
      have hnl : (natRow row).length = data.length := by rw [natRow, List.length_map]; exact hr1
      rw [← hn1'] at hrv
      have hcc := combine_ok m HM.out (natRow row) data sz hn2' (by intro h; rw [h] at hnl; simp at hnl; omega) hnl (fun u hu => (HUS.out u hu).1) HSM.out HSL.out rv _ wr (hl.ext (ext_trans hx4 hx)) hrv (RStrs.ext HU.out (ext_trans hx4 hx))
      have HCC := Lib.hid hcc
      obtain ⟨p, hp⟩ : ∃ p, p = combR m (natRow row) data sz := ⟨_, rfl⟩
      have HPU : Hid (data ++ (par.take (k + 1)).map (parU m data) = data ++ (par.take k).map (parU m data) ++ [p]) := by
        show _ = _
        rw [List.take_succ_eq_append_getElem hlt, List.map_append, ← List.append_assoc, hp, ← hrow]
        simp only [List.map_cons, List.map_nil, parU, HS0.out]
      rw [← hp] at HCC
      clear hrow hr1 hr2 hn1' hn2' hnl hrv hcc hp
      go_wp2_with fail
      refine HCC.out.mono ?_
      rintro e w4 ⟨rfl, hx7⟩
      have HO4 := Lib.hid (own_ext ho.out hx7)
      have hx8 := ext_trans hx hx7
      go_wp2_with (at_builtin; refine wpList_app rfl _ _ 25 rfl w2.heap.size 9 _ 1 16 Tryd.underlying25 info_str rfl (by omega) _ (data.length + k) _ rfl (HO4.out.alloc _) _ 1 1 [.string p] rfl (by simp) (.inr ⟨w4.heap.size, 0, rfl, fun j u hu => by (rw [World.cell?_alloc_at _ _ _ _ rfl, Nat.zero_add]; simpa using hu)⟩) (by simp [Value.oneCell']) (by simp only [maxLen]; omega) (by omega) (by have := hx8.size; simp; omega) ?_; intro v1 w5 ho5 hg5 hat5)
      have HO5 : Hid (w5.ownsRow w2.heap.size 9 1 v1 (data.length + (k + 1)) ((data ++ (par.take (k + 1)).map (parU m data)).map .string)) := by
        show World.ownsRow _ _ _ _ _ _ _
        rw [HPU.out, List.map_append]
        simpa [Nat.add_assoc] using ho5
      have hx9 : Ext w2 w5 := ext_grown (ext_alloc hx8 _) hg5 (fun i hi => own_base' HO4.out i hi)
      clear ho5 hg5 hat5
      go_wp2_with fail
      go_roundw
      case rel => exact ⟨k + 1, by omega, by go_num, HO5.out, hx9⟩
      case measure => simp [intOf]; omega
    · have hk' : k = par.length := by omega
      have HOF : Hid (wr.ownsRow w.heap.size 9 1 u6 (encL m par data).length ((encL m par data).map .string)) := by
        have := ho.out
        rw [hk', List.take_length] at this
        have e : (encL m par data).length = data.length + par.length := by simp [encL]
        rw [e]
        exact ⟨this.1, this.2.imp id fun ⟨g, cap, cur, h1, h2, h3⟩ => ⟨g, cap, cur, h1, by omega, h3⟩⟩
      clear hk'
      go_wp2_with fail
      go_ret2
      exact ⟨_, rfl, HOF.out, ext_trans hx4 hx⟩

end Go.Proofs.YtgflflpeilfinaaDoor
