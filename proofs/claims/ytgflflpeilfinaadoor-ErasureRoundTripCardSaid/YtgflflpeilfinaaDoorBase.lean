/- Words on memory that all walks of this family use: what a slice reads as, what a callee leaves as it was. -/
import Derived.Test.YtgflflpeilfinaaDoorProg
import Derived.WalkKit
import Derived.KernelRfl
import Derived.Lib.Hide
import Derived.Deep.QuietTactic
import Derived.BigQuiet
import Derived.Deep.Draws
import Derived.Deep.AppendLies
set_option linter.unusedVariables false
set_option linter.unusedSimpArgs false
namespace Go.Proofs.YtgflflpeilfinaaDoor
open Go.RowKit

/-- What was there is as it was; there may be new blocks. -/
abbrev Ext (w w' : World) : Prop := Below w.heap.size w w'

theorem ext_refl (w : World) : Ext w w := Below.refl _ _
theorem ext_trans {a b c : World} (h : Ext a b) (k : Ext b c) : Ext a c :=
  h.trans ⟨k.os, k.tape, k.output, k.size, fun i hi => k.block i (Nat.lt_of_lt_of_le hi h.size)⟩
theorem below_after {B : Nat} {a b c : World} (h : Below B a b) (hB : B ≤ b.heap.size) (k : Ext b c) : Below B a c :=
  h.trans ⟨k.os, k.tape, k.output, k.size, fun i hi => k.block i (Nat.lt_of_lt_of_le hi hB)⟩
theorem ext_alloc {a w : World} (h : Ext a w) (o : Obj) : Ext a (w.alloc o) := Below.alloc h h.size o
theorem ext_drew {a w : World} (h : Ext a w) : Ext a w.drew := Below.drew h
theorem ext_set {a w : World} (h : Ext a w) {p : Addr} (hp : a.heap.size ≤ p.block) (u : Value) : Ext a (w.setCell p u) := Below.setCell h hp u
theorem ext_cell {w w' : World} (h : Ext w w') {a : Addr} {v : Value} (hc : w.cell? a = some v) : w'.cell? a = some v := (h.cell (World.block_lt_of_cell? w a hc)).trans hc
theorem ext_size {w w' : World} (h : Ext w w') : w.heap.size ≤ w'.heap.size := h.size

/-- The address A reads, cell by cell, as cs. -/
def Seg (w : World) (A : Option Addr) (cs : List Value) : Prop :=
  cs = [] ∨ ∃ b o, A = some ⟨b, o, none⟩ ∧ ∀ j u, cs[j]? = some u → w.cell? ⟨b, o + j, none⟩ = some u
theorem Seg.nil (w : World) (A : Option Addr) : Seg w A [] := .inl rfl
theorem Seg.ext {w w' : World} {A : Option Addr} {cs : List Value} (h : Seg w A cs) (he : Ext w w') : Seg w' A cs := by
  rcases h with h | ⟨b, o, h, hc⟩
  · exact .inl h
  · exact .inr ⟨b, o, h, fun j u hu => ext_cell he (hc j u hu)⟩
theorem Seg.get {w : World} {A : Option Addr} {cs : List Value} (h : Seg w A cs) (hn : 0 < cs.length) :
    ∃ b o, A = some ⟨b, o, none⟩ ∧ ∀ j (hj : j < cs.length), w.cell? ⟨b, o + j, none⟩ = some cs[j] := by
  rcases h with rfl | ⟨b, o, h, hc⟩
  · simp at hn
  · exact ⟨b, o, h, fun j hj => hc j _ (List.getElem?_eq_getElem hj)⟩
theorem Seg.left {w : World} {A : Option Addr} {cs ds : List Value} (h : Seg w A (cs ++ ds)) : Seg w A cs := by
  rcases h with h | ⟨b, o, h, hc⟩
  · exact .inl (List.append_eq_nil_iff.1 h).1
  · refine .inr ⟨b, o, h, fun j u hu => hc j u ?_⟩
    have hl : j < cs.length := (List.getElem?_eq_some_iff.1 hu).1
    rw [List.getElem?_append_left hl]; exact hu

/-- The bound on the length of every slice here: 2^47 bytes at most. -/
def lim : Nat := 140737488355328
theorem lim_val : lim = 140737488355328 := rfl

/-- A slice of elements of one cell reads as the list of the cells. -/
def Sl (w : World) (v : Value) (vs : List Value) : Prop := ∃ A c, v = .slice A vs.length c ∧ vs.length ≤ lim ∧ Seg w A vs
theorem Sl.ext {w w' : World} {v : Value} {vs : List Value} (h : Sl w v vs) (he : Ext w w') : Sl w' v vs := by
  obtain ⟨A, c, e, hl, hs⟩ := h
  exact ⟨A, c, e, hl, hs.ext he⟩
theorem Sl.none_ (w : World) (c : Nat) : Sl w (.slice none 0 c) [] := ⟨none, c, rfl, by simp [lim], .inl rfl⟩

theorem sl_new (w : World) (cs : List Value) (t : TypeId) (c : Nat) (hl : cs.length ≤ lim) : Sl (w.alloc (.cells cs.toArray t)) (.slice (some ⟨w.heap.size, 0, none⟩) cs.length c) cs := by
  refine ⟨_, c, rfl, hl, .inr ⟨_, 0, rfl, fun j u hu => ?_⟩⟩
  rw [World.cell?_alloc_at _ _ _ _ rfl]
  simpa using hu
def RInts (w : World) (v : Value) (xs : List Int) : Prop := Sl w v (xs.map (.int .i64))
def RBools (w : World) (v : Value) (xs : List Bool) : Prop := Sl w v (xs.map .bool)
def RStrs (w : World) (v : Value) (xs : List ByteArray) : Prop := Sl w v (xs.map .string)
theorem RInts.ext {w w' : World} {v : Value} {xs : List Int} (h : RInts w v xs) (he : Ext w w') : RInts w' v xs := Sl.ext h he
theorem RBools.ext {w w' : World} {v : Value} {xs : List Bool} (h : RBools w v xs) (he : Ext w w') : RBools w' v xs := Sl.ext h he
theorem RStrs.ext {w w' : World} {v : Value} {xs : List ByteArray} (h : RStrs w v xs) (he : Ext w w') : RStrs w' v xs := Sl.ext h he

/-- A list of values reads, element by element, as a list of data. -/
def All2 {α β : Type} (R : α → β → Prop) : List α → List β → Prop
  | [], [] => True
  | x :: xs, y :: ys => R x y ∧ All2 R xs ys
  | _, _ => False
theorem All2.nil {α β : Type} {R : α → β → Prop} : All2 R [] [] := trivial
theorem All2.cons {α β : Type} {R : α → β → Prop} {x : α} {y : β} {xs : List α} {ys : List β} (h : R x y) (h' : All2 R xs ys) : All2 R (x :: xs) (y :: ys) := ⟨h, h'⟩
theorem All2.length {α β : Type} {R : α → β → Prop} : ∀ {xs : List α} {ys : List β}, All2 R xs ys → xs.length = ys.length
  | [], [], _ => rfl
  | _ :: _, _ :: _, h => by simp [h.2.length]
  | [], _ :: _, h => h.elim
  | _ :: _, [], h => h.elim
theorem All2.mono {α β : Type} {R R' : α → β → Prop} (hr : ∀ a b, R a b → R' a b) : ∀ {xs : List α} {ys : List β}, All2 R xs ys → All2 R' xs ys
  | [], [], _ => trivial
  | _ :: _, _ :: _, h => ⟨hr _ _ h.1, h.2.mono hr⟩
  | [], _ :: _, h => h.elim
  | _ :: _, [], h => h.elim
theorem All2.get {α β : Type} {R : α → β → Prop} : ∀ {xs : List α} {ys : List β}, All2 R xs ys → ∀ (i : Nat) (h1 : i < xs.length) (h2 : i < ys.length), R xs[i] ys[i]
  | [], [], _, _, h1, _ => by simp at h1
  | _ :: _, _ :: _, h, 0, _, _ => h.1
  | _ :: _, _ :: _, h, i + 1, h1, h2 => h.2.get i (by simpa using h1) (by simpa using h2)
  | [], _ :: _, h, _, _, _ => h.elim
  | _ :: _, [], h, _, _, _ => h.elim
theorem All2.append {α β : Type} {R : α → β → Prop} : ∀ {xs : List α} {ys : List β} {xs' : List α} {ys' : List β}, All2 R xs ys → All2 R xs' ys' → All2 R (xs ++ xs') (ys ++ ys')
  | [], [], _, _, _, h' => h'
  | _ :: _, _ :: _, _, _, h, h' => All2.cons h.1 (All2.append h.2 h')
  | [], _ :: _, _, _, h, _ => h.elim
  | _ :: _, [], _, _, h, _ => h.elim

def RRows (w : World) (v : Value) (xss : List (List Int)) : Prop := ∃ vs, Sl w v vs ∧ All2 (RInts w) vs xss
theorem RRows.ext {w w' : World} {v : Value} {xss : List (List Int)} (h : RRows w v xss) (he : Ext w w') : RRows w' v xss := by
  obtain ⟨vs, hs, ha⟩ := h
  exact ⟨vs, hs.ext he, ha.mono fun _ _ h => RInts.ext h he⟩

theorem Sl.uniq {w : World} {v : Value} {vs vs' : List Value} (h : Sl w v vs) (h' : Sl w v vs') : vs = vs' := by
  obtain ⟨A, c, rfl, _, h⟩ := h
  obtain ⟨A', c', e, _, h'⟩ := h'
  injection e with e1 e2 e3
  subst e1
  apply List.ext_getElem e2
  intro j h1 h2
  obtain ⟨b, o, ha, hc⟩ := h.get (by omega)
  obtain ⟨b', o', ha', hc'⟩ := h'.get (by omega)
  rw [ha] at ha'
  injection ha' with ha'
  injection ha' with e4 e5
  subst e4 e5
  have := hc j h1
  rw [hc' j h2] at this
  injection this with this
  exact this.symm
theorem RInts.uniq {w : World} {v : Value} {xs ys : List Int} (h : RInts w v xs) (h' : RInts w v ys) : xs = ys := by
  have e := Sl.uniq h h'
  exact List.map_inj_right (fun a b e => by injection e) |>.1 e
/-- What a value reads as, a list of whole numbers. -/
noncomputable def rdRow (w : World) (v : Value) : List Int := Classical.epsilon fun xs => RInts w v xs
theorem rdRow_eq {w : World} {v : Value} {xs : List Int} (h : RInts w v xs) : rdRow w v = xs :=
  RInts.uniq (Classical.epsilon_spec (p := fun xs => RInts w v xs) ⟨xs, h⟩) h
theorem rdRow_map {w : World} : ∀ {vs : List Value} {xss : List (List Int)}, All2 (RInts w) vs xss → vs.map (rdRow w) = xss
  | [], [], _ => rfl
  | _ :: _, _ :: _, h => by simp [rdRow_eq h.1, rdRow_map h.2]
  | [], _ :: _, h => h.elim
  | _ :: _, [], h => h.elim
theorem All2.mem {α β : Type} {R : α → β → Prop} : ∀ {xs : List α} {ys : List β}, All2 R xs ys → ∀ x ∈ xs, ∃ y ∈ ys, R x y
  | [], [], _ => fun x hx => by simp at hx
  | a :: xs, b :: ys, h => fun x hx => by
    rcases List.mem_cons.1 hx with rfl | hx
    · exact ⟨b, by simp, h.1⟩
    · obtain ⟨y, hy, hr⟩ := h.2.mem x hx
      exact ⟨y, by simp [hy], hr⟩
  | [], _ :: _, h => h.elim
  | _ :: _, [], h => h.elim

/-- What a call that writes to nothing that was there answers. -/
structure Ret (w : World) (v : Value) (e : Ending) (w' : World) : Prop where
  ends : e = .returned v
  ext : Ext w w'

/-- The table of the two fields lies where the program keeps it. -/
structure Laid (w : World) : Prop where
  c0 : w.cell? ⟨0, 0, none⟩ = some (.int .i64 8)
  c1 : w.cell? ⟨0, 1, none⟩ = some (.int .i64 285)
  c2 : w.cell? ⟨0, 2, none⟩ = some (.int .i64 16)
  c3 : w.cell? ⟨0, 3, none⟩ = some (.int .i64 69643)
theorem Laid.ext {w w' : World} (h : Laid w) (he : Ext w w') : Laid w' := ⟨ext_cell he h.c0, ext_cell he h.c1, ext_cell he h.c2, ext_cell he h.c3⟩

/-- A call of function f enters it. -/
def EntersF (P : Program) (f : FuncId) : Prop := ∀ (args : Array Value) (w : World), (callFunc f args).run P w = .ok (.enter f args) w
theorem entersF_of {P : Program} {f : FuncId} {fn : Func} {c : Code} (hf : P.funcs[f]? = some fn) (hname : (fn.name == "runtime.NumGoroutine") = false) (hb : fn.body = some c) : EntersF P f := by
  intro args w
  have h1 : fn.name ≠ "runtime.NumGoroutine" := by simpa using hname
  simp [callFunc, hf, h1, hb, mark]

section
variable {P : Program} {ops : Array Oper} {rest : List Oper} {o : Oper} {a : Act} {Q : Exit → Act → World → Prop} {w : World}
theorem wpList_call_any (hgd : o.guard = none) (x : Operand) (xs : Array Operand) (tys : Array TypeId) (ho : o.op = .call { callee := .value x, args := xs, argTypes := tys })
    (K : FuncId) (cap : Array Value) (hx : a.eval x = .func (.func K) #[] cap) (hE : EntersF P K)
    (h : Calls P K (xs.map a.eval ++ cap) w fun
      | .returned v, w'' => wpList P ops Q rest (a.put o.dst v) w''
      | .panicked chain, w'' => Q (.panic chain) a w''
      | .outgrown, _ => LetsOut Q) : wpList P ops Q (o :: rest) a w := by
  refine wpList_plain hgd fun Kont hK => ?_
  have he : (execOp a.eval o).run P w = .ok (.enter K (xs.map a.eval ++ cap)) w := by
    unfold execOp
    rw [ho]
    simp only [resolve, hx, Deferred.ofValue, invoke]
    have : (#[] ++ Array.map a.eval xs : Array Value) = Array.map a.eval xs := by simp
    rw [this]
    exact hE _ w
  unfold Oper.wp
  rw [he, Oper.upon_enter]
  exact h.mono fun e w' hr => by
    cases e with
    | returned v => exact hK _ _ hr
    | panicked chain => exact hr
    | outgrown => exact hr
/-- A call of a function value that stands in a slot, with one argument. -/
theorem wpList_call_fn1 (K : FuncId) (cap : Array Value) (hE : EntersF P K) (u : Value) (hgd : o.guard = none) (x y : Operand) (tys : Array TypeId) (ho : o.op = .call { callee := .value x, args := #[y], argTypes := tys })
    (hx : a.eval x = .func (.func K) #[] cap) (hy : a.eval y = u)
    (h : Calls P K (#[u] ++ cap) w fun
      | .returned v, w'' => wpList P ops Q rest (a.put o.dst v) w''
      | .panicked chain, w'' => Q (.panic chain) a w''
      | .outgrown, _ => LetsOut Q) : wpList P ops Q (o :: rest) a w := by
  refine wpList_call_any hgd x #[y] tys ho K cap hx hE ?_
  have e : Array.map a.eval #[y] = #[u] := by simp [hy]
  rw [e]
  exact h
theorem wpList_call_fn2 (K : FuncId) (cap : Array Value) (hE : EntersF P K) (u u' : Value) (hgd : o.guard = none) (x y y' : Operand) (tys : Array TypeId) (ho : o.op = .call { callee := .value x, args := #[y, y'], argTypes := tys })
    (hx : a.eval x = .func (.func K) #[] cap) (hy : a.eval y = u) (hy' : a.eval y' = u')
    (h : Calls P K (#[u, u'] ++ cap) w fun
      | .returned v, w'' => wpList P ops Q rest (a.put o.dst v) w''
      | .panicked chain, w'' => Q (.panic chain) a w''
      | .outgrown, _ => LetsOut Q) : wpList P ops Q (o :: rest) a w := by
  refine wpList_call_any hgd x #[y, y'] tys ho K cap hx hE ?_
  have e : Array.map a.eval #[y, y'] = #[u, u'] := by simp [hy, hy']
  rw [e]
  exact h
end

theorem ret_int {k : IntKind} {a b : Int} (h : a = b) : Ending.returned (.int k a) = .returned (.int k b) := by rw [h]
theorem ret_bool {a b : Bool} (h : a = b) : Ending.returned (.bool a) = .returned (.bool b) := by rw [h]

end Go.Proofs.YtgflflpeilfinaaDoor
