/- The walks of every, at elements of one cell, whatever the predicate. -/
import Derived.Test.YtgflflpeilfinaaDoorFieldC
import Derived.Laws.EntriesVeiled
set_option linter.unusedVariables false
set_option linter.unusedSimpArgs false
namespace Go.Proofs.YtgflflpeilfinaaDoor
open Go.RowKit

set_option maxHeartbeats 400000 in
theorem every1_eint (K : Nat) (cap : Array Value) (b : Bool) (u : Value) (q : Addr) (w : World) (hE : EntersF Tryd.prog K) (hq : w.cell? q = some (.func (.func K) #[] cap))
    (hf : Calls Tryd.prog K (#[u] ++ cap) w (Ret w (.bool b))) :
    Calls Tryd.prog 73 #[u, .pointer (some q)] w (Ret w (.bool (!b))) := by
  have HE := Lib.hid hE
  have HF := Lib.hid hf
  clear hE hf
  go_enter Tryd.func73, Tryd.ntmps73
  go_wp2_with (refine wpList_call_fn1 K cap HE.out u rfl _ _ _ rfl rfl rfl ?_; refine HF.out.mono ?_; rintro e w2 ⟨rfl, hx⟩)
  go_ret
  exact ⟨rfl, hx⟩
theorem enters_eint : EntersF Tryd.prog 73 := entersF_of Tryd.func73 (by kernel_rfl) rfl

set_option maxHeartbeats 400000 in
theorem every_eint (K : Nat) (cap : Array Value) (p : Value → Bool) (vs : List Value) (v : Value) (w : World) (hs : Sl w v vs) (hE : EntersF Tryd.prog K)
    (hf : ∀ u ∈ vs, ∀ w', Ext w w' → Calls Tryd.prog K (#[u] ++ cap) w' (Ret w' (.bool (p u)))) :
    Calls Tryd.prog 48 #[v, .func (.func K) #[] cap] w (Ret w (.bool (vs.all p))) := by
  have HE := Lib.hid hE
  have HF := Lib.hid hf
  have HS := Lib.hid hs
  have EQ : Hid (vs.all p = !vs.any fun x => !p x) := by show _ = _; simp [List.all_eq_not_any_not]
  clear hs hE hf
  go_enter Tryd.func48, Tryd.ntmps48
  go_wp2_with fail
  have hx : Ext w (w.alloc (.cells #[.func (.func K) #[] cap] 73)) := ext_alloc (ext_refl w) _
  refine (containsFunc_int 73 _ (fun x => !p x) vs v _ (HS.out.ext hx) enters_eint ?_).mono ?_
  · intro u hu w' hw'
    exact every1_eint K cap (p u) u _ w' HE.out (ext_cell hw' (by simp)) (HF.out u hu w' (ext_trans hx hw'))
  · rintro e w2 ⟨rfl, hx2⟩
    go_wp2_with fail
    go_ret
    exact ⟨ret_bool (by rw [EQ.out]), ext_trans hx hx2⟩

set_option maxHeartbeats 400000 in
theorem every1_eints (K : Nat) (cap : Array Value) (b : Bool) (u : Value) (q : Addr) (w : World) (hE : EntersF Tryd.prog K) (hq : w.cell? q = some (.func (.func K) #[] cap))
    (hf : Calls Tryd.prog K (#[u] ++ cap) w (Ret w (.bool b))) :
    Calls Tryd.prog 71 #[u, .pointer (some q)] w (Ret w (.bool (!b))) := by
  have HE := Lib.hid hE
  have HF := Lib.hid hf
  clear hE hf
  go_enter Tryd.func71, Tryd.ntmps71
  go_wp2_with (refine wpList_call_fn1 K cap HE.out u rfl _ _ _ rfl rfl rfl ?_; refine HF.out.mono ?_; rintro e w2 ⟨rfl, hx⟩)
  go_ret
  exact ⟨rfl, hx⟩
theorem enters_eints : EntersF Tryd.prog 71 := entersF_of Tryd.func71 (by kernel_rfl) rfl

set_option maxHeartbeats 400000 in
theorem every_eints (K : Nat) (cap : Array Value) (p : Value → Bool) (vs : List Value) (v : Value) (w : World) (hs : Sl w v vs) (hE : EntersF Tryd.prog K)
    (hf : ∀ u ∈ vs, ∀ w', Ext w w' → Calls Tryd.prog K (#[u] ++ cap) w' (Ret w' (.bool (p u)))) :
    Calls Tryd.prog 46 #[v, .func (.func K) #[] cap] w (Ret w (.bool (vs.all p))) := by
  have HE := Lib.hid hE
  have HF := Lib.hid hf
  have HS := Lib.hid hs
  have EQ : Hid (vs.all p = !vs.any fun x => !p x) := by show _ = _; simp [List.all_eq_not_any_not]
  clear hs hE hf
  go_enter Tryd.func46, Tryd.ntmps46
  go_wp2_with fail
  have hx : Ext w (w.alloc (.cells #[.func (.func K) #[] cap] 74)) := ext_alloc (ext_refl w) _
  refine (containsFunc_ints 71 _ (fun x => !p x) vs v _ (HS.out.ext hx) enters_eints ?_).mono ?_
  · intro u hu w' hw'
    exact every1_eints K cap (p u) u _ w' HE.out (ext_cell hw' (by simp)) (HF.out u hu w' (ext_trans hx hw'))
  · rintro e w2 ⟨rfl, hx2⟩
    go_wp2_with fail
    go_ret
    exact ⟨ret_bool (by rw [EQ.out]), ext_trans hx hx2⟩

set_option maxHeartbeats 400000 in
theorem every1_estr (K : Nat) (cap : Array Value) (b : Bool) (u : Value) (q : Addr) (w : World) (hE : EntersF Tryd.prog K) (hq : w.cell? q = some (.func (.func K) #[] cap))
    (hf : Calls Tryd.prog K (#[u] ++ cap) w (Ret w (.bool b))) :
    Calls Tryd.prog 85 #[u, .pointer (some q)] w (Ret w (.bool (!b))) := by
  have HE := Lib.hid hE
  have HF := Lib.hid hf
  clear hE hf
  go_enter Tryd.func85, Tryd.ntmps85
  go_wp2_with (refine wpList_call_fn1 K cap HE.out u rfl _ _ _ rfl rfl rfl ?_; refine HF.out.mono ?_; rintro e w2 ⟨rfl, hx⟩)
  go_ret
  exact ⟨rfl, hx⟩
theorem enters_estr : EntersF Tryd.prog 85 := entersF_of Tryd.func85 (by kernel_rfl) rfl

set_option maxHeartbeats 400000 in
theorem every_estr (K : Nat) (cap : Array Value) (p : Value → Bool) (vs : List Value) (v : Value) (w : World) (hs : Sl w v vs) (hE : EntersF Tryd.prog K)
    (hf : ∀ u ∈ vs, ∀ w', Ext w w' → Calls Tryd.prog K (#[u] ++ cap) w' (Ret w' (.bool (p u)))) :
    Calls Tryd.prog 63 #[v, .func (.func K) #[] cap] w (Ret w (.bool (vs.all p))) := by
  have HE := Lib.hid hE
  have HF := Lib.hid hf
  have HS := Lib.hid hs
  have EQ : Hid (vs.all p = !vs.any fun x => !p x) := by show _ = _; simp [List.all_eq_not_any_not]
  clear hs hE hf
  go_enter Tryd.func63, Tryd.ntmps63
  go_wp2_with fail
  have hx : Ext w (w.alloc (.cells #[.func (.func K) #[] cap] 91)) := ext_alloc (ext_refl w) _
  refine (containsFunc_str 85 _ (fun x => !p x) vs v _ (HS.out.ext hx) enters_estr ?_).mono ?_
  · intro u hu w' hw'
    exact every1_estr K cap (p u) u _ w' HE.out (ext_cell hw' (by simp)) (HF.out u hu w' (ext_trans hx hw'))
  · rintro e w2 ⟨rfl, hx2⟩
    go_wp2_with fail
    go_ret
    exact ⟨ret_bool (by rw [EQ.out]), ext_trans hx hx2⟩

set_option maxHeartbeats 400000 in
theorem every1_fstr (K : Nat) (cap : Array Value) (b : Bool) (u : Value) (q : Addr) (w : World) (hE : EntersF Tryd.prog K) (hq : w.cell? q = some (.func (.func K) #[] cap))
    (hf : Calls Tryd.prog K (#[u] ++ cap) w (Ret w (.bool b))) :
    Calls Tryd.prog 88 #[u, .pointer (some q)] w (Ret w (.bool (!b))) := by
  have HE := Lib.hid hE
  have HF := Lib.hid hf
  clear hE hf
  go_enter Tryd.func88, Tryd.ntmps88
  go_wp2_with (refine wpList_call_fn1 K cap HE.out u rfl _ _ _ rfl rfl rfl ?_; refine HF.out.mono ?_; rintro e w2 ⟨rfl, hx⟩)
  go_ret
  exact ⟨rfl, hx⟩
theorem enters_fstr : EntersF Tryd.prog 88 := entersF_of Tryd.func88 (by kernel_rfl) rfl

set_option maxHeartbeats 400000 in
theorem every_fstr (K : Nat) (cap : Array Value) (p : Value → Bool) (vs : List Value) (v : Value) (w : World) (hs : Sl w v vs) (hE : EntersF Tryd.prog K)
    (hf : ∀ u ∈ vs, ∀ w', Ext w w' → Calls Tryd.prog K (#[u] ++ cap) w' (Ret w' (.bool (p u)))) :
    Calls Tryd.prog 66 #[v, .func (.func K) #[] cap] w (Ret w (.bool (vs.all p))) := by
  have HE := Lib.hid hE
  have HF := Lib.hid hf
  have HS := Lib.hid hs
  have EQ : Hid (vs.all p = !vs.any fun x => !p x) := by show _ = _; simp [List.all_eq_not_any_not]
  clear hs hE hf
  go_enter Tryd.func66, Tryd.ntmps66
  go_wp2_with fail
  have hx : Ext w (w.alloc (.cells #[.func (.func K) #[] cap] 91)) := ext_alloc (ext_refl w) _
  refine (containsFunc_str 88 _ (fun x => !p x) vs v _ (HS.out.ext hx) enters_fstr ?_).mono ?_
  · intro u hu w' hw'
    exact every1_fstr K cap (p u) u _ w' HE.out (ext_cell hw' (by simp)) (HF.out u hu w' (ext_trans hx hw'))
  · rintro e w2 ⟨rfl, hx2⟩
    go_wp2_with fail
    go_ret
    exact ⟨ret_bool (by rw [EQ.out]), ext_trans hx hx2⟩

end Go.Proofs.YtgflflpeilfinaaDoor
