/- The statement ErasureRoundTrip: for every input the function answers true, and each argument reads behind the call as it read before. Its condition: the table field.fields starts as the program's text lays it (the card ties it). -/
import Derived.Test.YtgflflpeilfinaaDoorLawTi
import Derived.Test.YtgflflpeilfinaaDoorRowB
import Derived.Test.YtgflflpeilfinaaDoorRowI
set_option linter.unusedVariables false
set_option linter.unusedSimpArgs false
namespace Go.Proofs.YtgflflpeilfinaaDoor
open Go.Joins Go.ChangeShapes Go.WideShapes Go.ChangeAt Go.RowKit Go.Deep

set_option maxRecDepth 100000 in
set_option maxHeartbeats 1000000 in
theorem contract_ErasureRoundTrip (H : Type) (enc : TypeId × Value → H) (W : World) (base : Nat) (args : Array Value) (ds gs : List (DataW H)) (before : List MemPlace)
    (hval : ∀ (j : Nat) t v, Tryd.f10.params[j]? = some t → args[j]? = some v → Value.okWide Tryd.prog W .any base t v)
    (hW : DataW.Whole enc Tryd.prog Tryd.f10.params.toList Rows.erasureRoundTripSpec.vars false W args.toList ds gs before)
    (hR : (DataW.weightsEach Tryd.prog (Tryd.f10.params.toList ++ (OpenSpec.ofChange Rows.erasureRoundTripSpec).bare.plain.varTypes Tryd.prog) (ds ++ gs)).all (· ≤ reachBytes) = true) (hL : laidMetH Tryd.prog Rows.erasureRoundTripRow.laid W) :
    Calls Tryd.prog 10 args W fun e W' => ∃ v, e = .returned v ∧ Rows.erasureRoundTripSpec.post enc Tryd.prog Tryd.f10 false true false false W args v W' := by
  have hLd : Laid W := laid_of hL
  have hW' := hW
  obtain ⟨p, q, hA0, hV, rfl, hfz, hnd⟩ := hW
  have hA : DataW.TrodAll enc Tryd.prog W 0 (fun _ => true) true Tryd.f10.params.toList args.toList ds p := hA0
  rw [Tryd.params10] at hA hval hR
  obtain ⟨v0, vs0, d0, ds0, p0, q0, hargs0, rfl, rfl, h0, r0⟩ := trodAll_cons hA
  obtain ⟨rfl, rfl, rfl⟩ := trodAll_nil r0
  obtain rfl : args = #[v0] := by cases args; simp_all
  obtain ⟨rfl, rfl⟩ := trodVars_none hV
  have w0 : Wt Tryd.prog 65 d0 := wt_of hR (j := 0) rfl rfl
  have ok0 := hval 0 65 v0 rfl rfl
  clear hA0 hR hval
  simp only [List.append_nil] at hW'
  have k0 := h0
  obtain ⟨u0, u1, u2, u3, u4, u5, u6, u7, y0, y1, y2, y3, fu, rfl, rfl, t0, t1, t2, t3⟩ := open_agg8 Tryd.underlying65 rfl rfl rfl rfl (by kernel_rfl) (by kernel_rfl) (by kernel_rfl) (by kernel_rfl) (by kernel_rfl) ok0 h0
  have wt : ∀ (j : Nat) (t : TypeId) (dd : DataW H), Tryd.f10.params = Tryd.f10.params → [24, 25, 44, 9][j]? = some t → [y0.1, y1.1, y2.1, y3.1][j]? = some dd → Wt Tryd.prog t dd := fun j t dd _ ht hd nn hn => w0 nn (by
      simp only [DataW.weights, Tryd.underlying65]
      exact DataW.weights_mem_each (j := j) ht hd nn hn)
  obtain ⟨nm0, f0, n0, dm0, par0, rfl, rfl, rfl, rfl, hp0, hn0, hn0'⟩ := open_codeL t0 (wt 0 _ _ rfl rfl rfl)
  obtain ⟨us1, hu1, hz1⟩ := open_us t1 (wt 1 _ _ rfl rfl rfl)
  obtain ⟨hs2, hh2⟩ := open_hv t2 (wt 2 _ _ rfl rfl rfl)
  obtain ⟨s3, ex3, _, _⟩ := DataW.trod_string Tryd.underlying9 t3
  simp only [List.cons.injEq, and_true] at ex3
  subst ex3
  refine (lawT_any nm0 f0 n0 dm0 par0 u3 _ us1 _ hs2 s3 W hLd hp0 hu1 hz1 hh2  hn0 hn0' ).mono fun e W' ⟨he, hx⟩ => ?_
  subst he
  exact ⟨_, rfl, post_of_below hW' (fun _ _ _ => trodAll_cons_mk (shut_bool Tryd.underlying4 _) trodAll_mk0) (fun sp hsp => (trodAll_cons_mk (WideElems.Trod_stays laidOut_ (by kernel_rfl) (of_decide_eq_true (by kernel_rfl)) k0 (fun x hx0 => hx.same (hW'.lt x hx0)) (fun x hx0 => hsp x hx0)) (trodAll_mk0))) (fun _ _ => rfl) (by simp) hx (ok_one (by kernel_rfl) rfl (okWide_bool_mk Tryd.underlying4 _))⟩

theorem laidMet_ErasureRoundTrip (os : Os) : laidMet Tryd.prog Rows.erasureRoundTripRow.laid ((laidWorld os).forCall (fun _ _ => 0) ⟨#[], #[(.agg #[.string ⟨#[]⟩, .int .i64 0, .int .i64 0, .slice none 0 0, .int .i64 0, .slice none 0 0, .slice none 0 0, .string ⟨#[]⟩] : Value)], []⟩).memory :=
  laidMet_of_run' 8 (by kernel_rfl) (by kernel_rfl)
theorem reads_ErasureRoundTrip (os : Os) {H : Type} (enc : TypeId × Value → H) : ∃ places, DataW.whole enc Tryd.prog ((laidWorld os).forCall (fun _ _ => 0) ⟨#[], #[(.agg #[.string ⟨#[]⟩, .int .i64 0, .int .i64 0, .slice none 0 0, .int .i64 0, .slice none 0 0, .slice none 0 0, .string ⟨#[]⟩] : Value)], []⟩).memory Tryd.f10.params.toList Rows.erasureRoundTripSpec.vars false #[(.agg #[.string ⟨#[]⟩, .int .i64 0, .int .i64 0, .slice none 0 0, .int .i64 0, .slice none 0 0, .slice none 0 0, .string ⟨#[]⟩] : Value)].toList 8 = some ([.agg [.agg [.lit (.string []), .lit (.int .i64 0), .lit (.int .i64 0), .nil, .lit (.int .i64 0)], .nil, .nil, .lit (.string [])]], [], places) :=
  ⟨[], by kernel_rfl⟩
set_option maxRecDepth 100000 in
theorem lifted_ErasureRoundTrip (os : Os) (started : os.Started) (H : Type) (enc : TypeId × Value → H) (F : Stop.Interp) :
    ReturnsInHanded {} Tryd.checked os 10 .any ((OpenSpec.ofChange Rows.erasureRoundTripSpec).preRow enc Tryd.prog Tryd.f10 Rows.erasureRoundTripRow.domain false Rows.erasureRoundTripRow.laid) (((OpenSpec.ofChange Rows.erasureRoundTripSpec).at F).post enc Tryd.prog Tryd.f10 false true false false) := by
  obtain ⟨places, hx⟩ := reads_ErasureRoundTrip os enc
  refine returnsInHanded_of_row (C := Tryd.checked) (s := OpenSpec.ofChange Rows.erasureRoundTripSpec) ownKnob_ started (by kernel_rfl) Tryd.func10
    (witness_row_at (enc := enc) (C := Tryd.checked) false (laidWorld os) #[(.agg #[.string ⟨#[]⟩, .int .i64 0, .int .i64 0, .slice none 0 0, .int .i64 0, .slice none 0 0, .slice none 0 0, .string ⟨#[]⟩] : Value)] rfl (by kernel_rfl) (by kernel_rfl) (by kernel_rfl)
      (OpenSpec.preRow_of_cond 8 hx (by kernel_rfl) (fun k hk => by cases hk) (by kernel_rfl) (laidMet_ErasureRoundTrip os))) ?_
  intro W base args ds gs before hval hW _ _ hR hL _ _
  exact contract_ErasureRoundTrip H enc W base args ds gs before hval hW hR hL
theorem said_ErasureRoundTrip : Rows.ErasureRoundTripSaid :=
  OpenClaim.holds_of_cond 10 Tryd.f10 rfl rfl rfl rfl rfl rfl rfl ⟨rfl, rfl, rfl, rfl, rfl⟩ rfl rfl rfl rfl rfl (by kernel_rfl) Tryd.func10 (by kernel_rfl)
    (of_decide_eq_true (by kernel_rfl)) (by unfold Func.isWrapper; first | (rw [if_pos (by decide +kernel)]; kernel_rfl) | (rw [if_neg (by decide +kernel)]; exact ⟨rfl, rfl⟩))
    (fun os started H enc _ F => by rw [OpenClaim.pre_eq_preRow]; exact lifted_ErasureRoundTrip os started H enc F)
theorem plain_ErasureRoundTrip (f : FuncId) (fn : Func) (hf : Tryd.pinned.checked.prog.funcNamed "solvent/solventlaw08.ErasureRoundTrip" = some f) (hfn : Tryd.pinned.checked.prog.funcs[f]? = some fn) :
    false = Tryd.pinned.checked.prog.looks [] ∧ ∀ (j : Nat) t, fn.params[j]? = some t → Tryd.pinned.checked.prog.wantsStandIn t = false := by
  obtain rfl : f = 10 := Option.some.inj ((show Tryd.prog.funcNamed "solvent/solventlaw08.ErasureRoundTrip" = some 10 by kernel_rfl).symm.trans hf) |>.symm
  obtain rfl : fn = Tryd.f10 := (Option.some.inj (Tryd.func10.symm.trans hfn)).symm
  refine ⟨by kernel_rfl, fun j t ht => ?_⟩
  rw [Tryd.params10] at ht
  have hm := Array.mem_of_getElem? ht
  have hm2 : t = 65 := by simpa using hm
  rcases hm2 with rfl
  · exact (show Tryd.prog.wantsStandIn 65 = false by kernel_rfl)

/-- The card. -/
theorem card_ErasureRoundTrip : Rows.ErasureRoundTripCardSaid :=
  Claim7.holds_tied_plain_at .later [] _ _ _ _ said_ErasureRoundTrip (fun _ h => by cases h) (by kernel_rfl) (fun _ h => by cases h) erasureRoundTrip_row_tie rfl ⟨rfl, rfl⟩ (by kernel_rfl) rfl plain_ErasureRoundTrip (by kernel_rfl)

#print axioms card_ErasureRoundTrip
end Go.Proofs.YtgflflpeilfinaaDoor
