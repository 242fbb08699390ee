/- An argument that holds a code and three things more, opened to what the walks read. -/
import Derived.Test.YtgflflpeilfinaaDoorRowB
set_option linter.unusedVariables false
set_option linter.unusedSectionVars false
set_option linter.unusedSimpArgs false
namespace Go.Proofs.YtgflflpeilfinaaDoor
open Go.Joins Go.ChangeShapes Go.WideShapes Go.RowKit Go.Deep

section
variable {H : Type} {enc : TypeId × Value → H} {W : World} {base : Nat} {held : Bool}
set_option maxRecDepth 100000 in
theorem open_agg8 {spare : Nat → Bool} {r : Reach} {b0 : Nat} {t : TypeId} {f0 f1 f2 f3 : Field} {v : Value} {d : DataW H} {p : List MemPlace} (hs : Tryd.prog.underlying t = some (.struct #[f0, f1, f2, f3]))
    (o0 : f0.offset = 0) (o1 : f1.offset = 5) (o2 : f2.offset = 6) (o3 : f3.offset = 7) (k0 : Tryd.prog.cellsOf f0.type = 5) (k1 : Tryd.prog.cellsOf f1.type = 1) (k2 : Tryd.prog.cellsOf f2.type = 1) (k3 : Tryd.prog.cellsOf f3.type = 1) (hC : Tryd.prog.cellsOf t = 8)
    (hv : Value.okWide Tryd.prog W r b0 t v) (h : DataW.Trod enc Tryd.prog W base spare held t v d p) :
    ∃ (v0 v1 v2 v3 v4 v5 v6 v7 : Value) (y0 y1 y2 y3 : DataW H × List MemPlace) (n : Nat), v = .agg #[v0, v1, v2, v3, v4, v5, v6, v7] ∧ d = .agg [y0.1, y1.1, y2.1, y3.1] ∧
      DataW.trod enc Tryd.prog W base spare held n f0.type [v0, v1, v2, v3, v4] = some y0 ∧ DataW.trod enc Tryd.prog W base spare held n f1.type [v5] = some y1 ∧ DataW.trod enc Tryd.prog W base spare held n f2.type [v6] = some y2 ∧ DataW.trod enc Tryd.prog W base spare held n f3.type [v7] = some y3 := by
  obtain ⟨cs, rfl, hsz⟩ := okWide_struct hs hv
  obtain ⟨l⟩ := cs
  match l, hsz.trans hC with
  | [c0, c1, c2, c3, c4, c5, c6, c7], _ =>
    obtain ⟨fuel, hf⟩ := h
    obtain ⟨xs, n, _, hx, _, hlen, hg⟩ := DataW.trod_struct hs hf
    match xs, hlen with
    | [y0, y1, y2, y3], _ =>
      simp only [Prod.mk.injEq] at hx
      exact ⟨c0, c1, c2, c3, c4, c5, c6, c7, y0, y1, y2, y3, n, rfl, by simpa using hx.1, by simpa [Value.cells, o0, k0] using hg 0 f0 rfl, by simpa [Value.cells, o1, k1] using hg 1 f1 rfl, by simpa [Value.cells, o2, k2] using hg 2 f2 rfl, by simpa [Value.cells, o3, k3] using hg 3 f3 rfl⟩
set_option maxRecDepth 100000 in
theorem open_codeL {k : Nat} {v0 v1 v2 v3 v4 : Value} {y : DataW H × List MemPlace} (h : DataW.trod enc Tryd.prog W base (fun _ => true) held k 24 [v0, v1, v2, v3, v4] = some y) (hw : Wt Tryd.prog 24 y.1) :
    ∃ (nm : ByteArray) (f n dm : Int) (par : List (List Int)), v0 = .string nm ∧ v1 = .int .i64 f ∧ v2 = .int .i64 n ∧ v4 = .int .i64 dm ∧ RRows W v3 par ∧ -9223372036854775808 ≤ n ∧ n ≤ 9223372036854775807 := by
  obtain ⟨xs, j, _, hx, _, hlen, hg⟩ := DataW.trod_struct Tryd.underlying24 h
  match xs, hlen with
  | [y0, y1, y2, y3, y4], _ =>
    subst hx
    have t0 := hg 0 _ rfl
    have t1 := hg 1 _ rfl
    have t2 := hg 2 _ rfl
    have t3 := hg 3 _ rfl
    have t4 := hg 4 _ rfl
    have hc3 : Tryd.prog.cellsOf 22 = 1 := by kernel_rfl
    simp [cells_str] at t0
    simp [cells_int] at t1 t2 t4
    simp [hc3] at t3
    obtain ⟨s, e0, _, _⟩ := DataW.trod_string Tryd.underlying9 t0
    obtain ⟨z1, e1, _, _⟩ := DataW.trod_int Tryd.underlying3 t1
    obtain ⟨z2, e2, _, w2⟩ := DataW.trod_int Tryd.underlying3 t2
    obtain ⟨z4, e4, _, _⟩ := DataW.trod_int Tryd.underlying3 t4
    obtain ⟨par, hpar⟩ := open_par (v := v3) (y := y3) t3 (fun n hn => hw n (by
      simp only [DataW.weights, Tryd.underlying24]
      exact DataW.weights_mem_each (j := 3) rfl rfl n hn))
    simp at e0 e1 e2 e4
    exact ⟨s, z1, z2, z4, par, e0, e1, e2, e4, hpar, (i64_wf w2).1, (i64_wf w2).2⟩
end

end Go.Proofs.YtgflflpeilfinaaDoor
