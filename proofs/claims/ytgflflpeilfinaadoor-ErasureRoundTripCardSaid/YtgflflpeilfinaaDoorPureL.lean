/- Symbols of units: what a combination of units is, symbol by symbol; the stripe of a sum of data; what Recover returns for the units of a stripe. No walk here. -/
import Derived.Test.YtgflflpeilfinaaDoorSanA
import Derived.Test.YtgflflpeilfinaaDoorPureC
set_option linter.unusedVariables false
set_option linter.unusedSimpArgs false
set_option linter.unusedSectionVars false
namespace Go.Proofs.YtgflflpeilfinaaDoor
open Go.RowKit

/-- The value of the k-th symbol. -/
def sy (m : Nat) (u : ByteArray) (k : Nat) : Nat := (symAt m u k).2
/-- The byte of a symbol that stands at place j. -/
def bos (m x j : Nat) : Nat := if m = 8 then x else if j % 2 = 0 then x / 256 else x % 256
def si (m j : Nat) : Nat := if m = 8 then j else j / 2
theorem sy_lt {m : Nat} (hm : Fm m) (u : ByteArray) (k : Nat) : sy m u k < 2 ^ m := symAt_lt m hm u k
theorem byt_bos (m : Nat) (u : ByteArray) (j : Nat) : byt u j = bos m (sy m u (si m j)) j := by
  unfold bos sy si symAt
  by_cases h : m = 8
  · simp [h]
  · simp only [h, if_false]
    have h1 := byt_lt u (2 * (j / 2) + 1)
    by_cases e : j % 2 = 0
    · rw [if_pos e]
      have e2 : 2 * (j / 2) = j := by omega
      rw [e2] at h1 ⊢
      omega
    · rw [if_neg e]
      have e2 : 2 * (j / 2) + 1 = j := by omega
      rw [e2] at h1 ⊢
      omega
theorem scB_bos {m : Nat} (hm : Fm m) (c : Nat) (u : ByteArray) (j : Nat) : scB m c u j = bos m (gmul m c (sy m u (si m j))) j := by
  rcases hm with rfl | rfl
  · simp [scB, bos, sy, si, symAt]
  · simp [scB, bos, sy, si]
theorem bos_xor (m x y j : Nat) : bos m (x ^^^ y) j = bos m x j ^^^ bos m y j := by
  unfold bos
  split
  · rfl
  · split
    · exact Nat.xor_div_two_pow (n := 8)
    · exact Nat.xor_mod_two_pow (n := 8)
theorem bos_zero (m j : Nat) : bos m 0 j = 0 := by
  unfold bos
  split
  · rfl
  · split <;> rfl
theorem bos_lt {m x : Nat} (hm : Fm m) (hx : x < 2 ^ m) (j : Nat) : bos m x j < 256 := by
  unfold bos
  rcases hm with rfl | rfl
  · simpa using hx
  · rw [if_neg (by decide)]
    split <;> omega
theorem sy_of {m : Nat} (hm : Fm m) (u : ByteArray) (f : Nat → Nat) (n : Nat) (h : ∀ j, j < n → byt u j = bos m (f (si m j)) j) {k : Nat} (hk : k < n / (m / 8)) : sy m u k = f k := by
  rcases hm with rfl | rfl
  · have := h k (by simpa using hk)
    simpa [sy, symAt, bos, si] using this
  · have hk' : k < n / 2 := hk
    have h1 := h (2 * k) (by omega)
    have h2 := h (2 * k + 1) (by omega)
    have e1 : si 16 (2 * k) = k := by unfold si; rw [if_neg (by decide)]; omega
    have e2 : si 16 (2 * k + 1) = k := by unfold si; rw [if_neg (by decide)]; omega
    rw [e1] at h1
    rw [e2] at h2
    unfold bos at h1 h2
    rw [if_neg (by decide), if_pos (by omega)] at h1
    rw [if_neg (by decide), if_neg (by omega)] at h2
    unfold sy symAt
    rw [if_neg (by decide)]
    simp only [h1, h2]
    omega
theorem byt_ext {u v : ByteArray} (hs : u.size = v.size) (h : ∀ i, i < u.size → byt u i = byt v i) : u = v := by
  apply ByteArray.ext
  apply Array.ext hs
  intro i h1 h2
  have := h i h1
  unfold byt at this
  rw [dif_pos (show i < u.size from h1), dif_pos (show i < v.size from h2)] at this
  exact UInt8.toNat_inj.1 this
theorem sy_ext {m : Nat} (hm : Fm m) {u v : ByteArray} (hs : u.size = v.size) (h2 : u.size % (m / 8) = 0) (h : ∀ k, k < u.size / (m / 8) → sy m u k = sy m v k) : u = v := by
  refine byt_ext hs fun i hi => ?_
  rw [byt_bos m u i, byt_bos m v i, h (si m i) ?_]
  rcases hm with rfl | rfl
  · simpa [si] using hi
  · show (if _ then _ else _) < u.size / 2
    rw [if_neg (by decide)]
    have : u.size % 2 = 0 := h2
    omega

/-- What the multiples add up to, at one symbol. -/
def csum (m : Nat) : List Nat → List ByteArray → Nat → Nat
  | c :: cs, u :: us, k => gmul m c (sy m u k) ^^^ csum m cs us k
  | _, _, _ => 0
theorem csum_lt {m : Nat} (hm : Fm m) : ∀ (cs : List Nat) (us : List ByteArray) (k : Nat), (∀ c ∈ cs, c < 2 ^ m) → csum m cs us k < 2 ^ m
  | [], _, _, _ => Nat.two_pow_pos m
  | _ :: _, [], _, _ => Nat.two_pow_pos m
  | c :: cs, u :: us, k, h => Nat.xor_lt_two_pow (gmul_lt hm (h c (by simp))) (csum_lt hm cs us k fun x hx => h x (by simp [hx]))
theorem csum_map {m : Nat} (l : List Nat) (f : Nat → Nat) (g : Nat → ByteArray) (k : Nat) : csum m (l.map f) (l.map g) k = lsum l fun i => gmul m (f i) (sy m (g i) k) := by
  induction l with
  | nil => rfl
  | cons a l ih => rw [List.map_cons, List.map_cons, csum, lsum_cons, ih]
theorem combL_at {m : Nat} (hm : Fm m) : ∀ (coefs : List Nat) (us : List ByteArray) (cs : List Nat) (j : Nat), j < cs.length →
    (combL m coefs us cs).getD j 0 = cs.getD j 0 ^^^ bos m (csum m coefs us (si m j)) j
  | [], _, cs, j, _ => by simp [combL, csum, bos_zero]
  | _ :: _, [], cs, j, _ => by simp [combL, csum, bos_zero]
  | c :: coefs, u :: us, cs, j, hj => by
    rw [combL, combL_at hm coefs us _ j (by rw [accL_length]; exact hj), csum, bos_xor, ← scB_bos hm, ← Nat.xor_assoc]
    congr 1
    have h1 : j < (accL m c u cs cs.length).length := by rw [accL_length]; exact hj
    rw [List.getD_eq_getElem?_getD, List.getElem?_eq_getElem h1, accL_get m c u cs _ j hj, if_pos hj]
    simp [hj]
theorem byt_strOf_mod (cs : List Nat) (j : Nat) (hj : j < cs.length) : byt (strOf cs) j = cs.getD j 0 % 256 := by
  unfold byt
  rw [dif_pos (by rw [strOf_size]; exact hj)]
  show (((cs.map fun x => UInt8.ofNat x).toArray)[j]'(by simpa using hj)).toNat = _
  simp [hj]
theorem byt_combR {m : Nat} (hm : Fm m) (coefs : List Nat) (us : List ByteArray) (n : Nat) (hc : ∀ c ∈ coefs, c < 2 ^ m) (j : Nat) (hj : j < n) :
    byt (combR m coefs us n) j = bos m (csum m coefs us (si m j)) j := by
  unfold combR
  rw [byt_strOf_mod _ j (by rw [combL_length]; simpa using hj), combL_at hm _ _ _ j (by simpa using hj)]
  have h1 := bos_lt hm (csum_lt hm coefs us (si m j) hc) j
  have h2 : (List.replicate n 0).getD j 0 = 0 := by simp [hj]
  rw [h2, Nat.zero_xor]
  omega
theorem sy_combR {m : Nat} (hm : Fm m) (coefs : List Nat) (us : List ByteArray) (n : Nat) (hc : ∀ c ∈ coefs, c < 2 ^ m) {k : Nat} (hk : k < n / (m / 8)) :
    sy m (combR m coefs us n) k = csum m coefs us k :=
  sy_of hm _ _ n (fun j hj => byt_combR hm coefs us n hc j hj) hk

theorem xorS_size (a b : ByteArray) : (xorS a b).size = a.size := by
  unfold xorS
  rw [strOf_size]
  simp [xorTo]
theorem byt_xorS (a b : ByteArray) (j : Nat) (hj : j < a.size) : byt (xorS a b) j = byt a j ^^^ byt b j := by
  unfold xorS
  rw [byt_strOf _ (fun x hx => by
    obtain ⟨i, _, rfl⟩ := List.mem_map.1 hx
    exact Nat.xor_lt_two_pow (n := 8) (byt_lt a i) (byt_lt b i)) j (by simpa [xorTo] using hj)]
  simp [xorTo]
theorem sy_xorS {m : Nat} (hm : Fm m) (a b : ByteArray) {k : Nat} (hk : k < a.size / (m / 8)) : sy m (xorS a b) k = sy m a k ^^^ sy m b k :=
  sy_of hm _ (fun k => sy m a k ^^^ sy m b k) a.size (fun j hj => by rw [byt_xorS a b j hj, bos_xor, ← byt_bos, ← byt_bos]) hk

theorem map_range_getD {α β : Type} (l : List α) (d : α) (f : α → β) (n : Nat) (h : l.length = n) : l.map f = (List.range n).map fun i => f (l.getD i d) := by
  subst h
  apply List.ext_getElem
  · simp
  · intro i h1 h2
    have : i < l.length := by simpa using h1
    simp [this]
theorem map_range_self {α : Type} (l : List α) (d : α) (n : Nat) (h : l.length = n) : l = (List.range n).map fun i => l.getD i d := by
  have := map_range_getD l d id n h
  simpa using this

/-- Data that fit a code. -/
structure Dt (m n : Nat) (par : List (List Int)) (data : List ByteArray) (sz : Nat) : Prop where
  hm : Fm m
  n1 : 1 ≤ n
  rows : ∀ row ∈ par, row.length = n ∧ row.all (elemB m) = true
  len : data.length = n
  size : ∀ u ∈ data, u.size = sz
  even : sz % (m / 8) = 0
theorem Dt.of {m n : Nat} {par : List (List Int)} {data : List ByteArray} (h : encB m n par data = true) : Dt m n par data (data[0]?.getD ByteArray.empty).size := by
  unfold encB at h
  simp only [Bool.and_eq_true, decide_eq_true_eq] at h
  obtain ⟨h1, h2, h3⟩ := h
  obtain ⟨m', n', e1, e2, hm, hn, -, hr⟩ := okB_facts h1
  obtain rfl : m = m' := by omega
  obtain rfl : n = n' := by omega
  have hus : ∀ u ∈ data, u.size = (data[0]?.getD ByteArray.empty).size ∧ (m = 8 ∨ u.size % 2 = 0) := by
    intro u hu
    have := List.all_eq_true.1 h3 u hu
    unfold uniOne at this
    simp only [Bool.and_eq_true, Bool.or_eq_true, decide_eq_true_eq] at this
    exact ⟨this.1, this.2.imp (fun h => by omega) id⟩
  refine ⟨hm, hn, fun row h => ⟨(hr row h).1, (hr row h).2.1⟩, by omega, fun u hu => (hus u hu).1, ?_⟩
  have h0 := hus (data[0]'(by omega)) (List.getElem_mem _)
  have e0 : data[0]?.getD ByteArray.empty = data[0]'(by omega) := by simp [show 0 < data.length by omega]
  rw [e0]
  rcases hm with rfl | rfl
  · simp; omega
  · simp; omega

section
variable {m n sz : Nat} {par : List (List Int)} {data : List ByteArray} (D : Dt m n par data sz)
include D
theorem Dt.at_size {q : Nat} (h : q < n) : (data.getD q ByteArray.empty).size = sz := by
  have hq : q < data.length := by rw [D.len]; exact h
  rw [List.getD_eq_getElem?_getD, List.getElem?_eq_getElem hq]
  exact D.size _ (List.getElem_mem hq)
theorem Dt.low {u : Nat} (h : u < n) : (encL m par data).getD u ByteArray.empty = data.getD u ByteArray.empty := by
  have hq : u < data.length := by rw [D.len]; exact h
  unfold encL
  simp [List.getElem?_append_left hq]
theorem Dt.first : (data[0]?.getD ByteArray.empty).size = sz := by
  have := D.at_size (q := 0) (by have := D.n1; omega)
  simpa using this
theorem Dt.high {u : Nat} (h : n ≤ u) (h2 : u - n < par.length) : (encL m par data).getD u ByteArray.empty = combR m (natRow par[u - n]) data sz := by
  unfold encL
  rw [List.getD_eq_getElem?_getD, List.getElem?_append_right (by rw [D.len]; exact h), D.len]
  simp only [List.getElem?_map, List.getElem?_eq_getElem h2, Option.map_some, Option.getD_some]
  rw [← D.first]
  rfl
theorem Dt.len_enc : (encL m par data).length = n + par.length := by unfold encL; simp [D.len]
theorem Dt.sz_enc {u : Nat} (h : u < n + par.length) : ((encL m par data).getD u ByteArray.empty).size = sz := by
  by_cases hu : u < n
  · rw [D.low hu]; exact D.at_size hu
  · rw [D.high (by omega) (by omega), combR_size]
theorem Dt.sy {u : Nat} (h : u < n + par.length) {k : Nat} (hk : k < sz / (m / 8)) :
    Proofs.YtgflflpeilfinaaDoor.sy m ((encL m par data).getD u ByteArray.empty) k = lsum (List.range n) fun q => mu m (gEl n par u q) (Proofs.YtgflflpeilfinaaDoor.sy m (data.getD q ByteArray.empty) k) := by
  by_cases hu : u < n
  · rw [D.low hu, lsum_one List.nodup_range (List.mem_range.2 hu)]
    · rw [gEl_low hu hu, if_pos rfl, one_mu D.hm (sy_lt D.hm _ _)]
    · intro i hi hne
      rw [gEl_low hu (List.mem_range.1 hi), if_neg (fun e => hne e.symm), zero_mu D.hm]
  · have hp : u - n < par.length := by omega
    have hr := D.rows _ (List.getElem_mem hp)
    rw [D.high (by omega) hp, sy_combR D.hm _ _ _ (natRow_of hr.2).2 hk]
    have hl : (natRow par[u - n]).length = n := by rw [natRow, List.length_map]; exact hr.1
    have e1 := map_range_self (natRow par[u - n]) 0 n hl
    have e2 := map_range_self data ByteArray.empty n D.len
    have e3 : ∀ q, gEl n par u q = (natRow par[u - n]).getD q 0 := fun q => by
      unfold gEl gRow
      rw [rowOf_high (by omega) hp]
      rfl
    conv => lhs; rw [e1, e2]
    rw [csum_map]
    refine lsum_congr fun q hq => ?_
    rw [e3, mu_eq D.hm ?_ (sy_lt D.hm _ _)]
    exact (show Bl m _ from (natRow_of hr.2).2).ate q
end

/-- The stripe of the sum is the sum of the stripes. -/
theorem enc_lin {m n sz : Nat} {par : List (List Int)} {a b : List ByteArray} (A : Dt m n par a sz) (B : Dt m n par b sz) (S : Dt m n par (List.zipWith xorS a b) sz) {u : Nat} (hu : u < n + par.length) :
    (encL m par (List.zipWith xorS a b)).getD u ByteArray.empty = xorS ((encL m par a).getD u ByteArray.empty) ((encL m par b).getD u ByteArray.empty) := by
  refine sy_ext A.hm ?_ ?_ ?_
  · rw [S.sz_enc hu, xorS_size, A.sz_enc hu]
  · rw [S.sz_enc hu]; exact S.even
  · intro k hk
    rw [S.sz_enc hu] at hk
    rw [S.sy hu hk, sy_xorS A.hm _ _ (by rw [A.sz_enc hu]; exact hk), A.sy hu hk, B.sy hu hk, ← lsum_add]
    refine lsum_congr fun q hq => ?_
    have hq' := List.mem_range.1 hq
    have e : (List.zipWith xorS a b).getD q ByteArray.empty = xorS (a.getD q ByteArray.empty) (b.getD q ByteArray.empty) := by
      have h1 : q < a.length := by rw [A.len]; exact hq'
      have h2 : q < b.length := by rw [B.len]; exact hq'
      simp [List.getElem?_zipWith, h1, h2]
    rw [e, sy_xorS A.hm _ _ (by rw [A.at_size hq']; exact hk), mu_add_right A.hm]
theorem uniB_sizes {f : Int} {us vs : List ByteArray} (h : us.map ByteArray.size = vs.map ByteArray.size) : uniB f us = uniB f vs := by
  have e : ∀ l : List ByteArray, uniB f l = (l.map ByteArray.size).all fun s => decide (s = ((l.map ByteArray.size)[0]?.getD 0)) && (decide (f = 8) || decide (s % 2 = 0)) := by
    intro l
    unfold uniB
    rw [List.all_map]
    have e0 : (l.map ByteArray.size)[0]?.getD 0 = (l[0]?.getD ByteArray.empty).size := by
      cases l <;> rfl
    rw [e0]
    rfl
  rw [e us, e vs, h]
theorem encB_sizes {f d : Int} {par : List (List Int)} {us vs : List ByteArray} (h : us.map ByteArray.size = vs.map ByteArray.size) : encB f d par us = encB f d par vs := by
  have hl : us.length = vs.length := by have := congrArg List.length h; simpa using this
  unfold encB
  rw [hl, uniB_sizes h]
theorem zip_sizes : ∀ {a b : List ByteArray}, a.length = b.length → (List.zipWith xorS a b).map ByteArray.size = a.map ByteArray.size
  | [], [], _ => rfl
  | [], _ :: _, h => by simp at h
  | _ :: _, [], h => by simp at h
  | x :: a, y :: b, h => by
    rw [List.zipWith_cons_cons, List.map_cons, List.map_cons, xorS_size, zip_sizes (by simpa using h)]

/-- Terms whose rows add up to the row of a unit: their sum over a stripe is the unit. -/
theorem back_of {m n sz : Nat} {par : List (List Int)} {data us : List ByteArray} (D : Dt m n par data sz) {u : Nat} (hu : u < n + par.length) (L : List (Int × Int))
    (hL : ∀ t ∈ L, ∃ v c : Nat, t = ((v : Int), (c : Int)) ∧ v < n + par.length ∧ c < 2 ^ m ∧ us.getD v ByteArray.empty = (encL m par data).getD v ByteArray.empty)
    (hacc : ∀ k, k < n → accC m n par L L.length k = gEl n par u k) :
    combR m (coefs L) (picks us L) sz = (encL m par data).getD u ByteArray.empty := by
  have hat : ∀ j, j < L.length → ∃ v c : Nat, tmAt L j = ((v : Int), (c : Int)) ∧ v < n + par.length ∧ c < 2 ^ m ∧ us.getD v ByteArray.empty = (encL m par data).getD v ByteArray.empty := fun j hj => by
    have := hL _ (List.getElem_mem hj)
    rwa [show L[j] = tmAt L j by simp [tmAt, hj]] at this
  have hcf : ∀ c ∈ coefs L, c < 2 ^ m := by
    intro c hc
    obtain ⟨t, ht, rfl⟩ := List.mem_map.1 hc
    obtain ⟨v, c, rfl, -, hlt, -⟩ := hL t ht
    simpa using hlt
  refine sy_ext D.hm ?_ ?_ ?_
  · rw [combR_size, D.sz_enc hu]
  · rw [combR_size]; exact D.even
  · intro k hk
    rw [combR_size] at hk
    rw [sy_combR D.hm _ _ _ hcf hk, D.sy hu hk]
    have e1 : coefs L = (List.range L.length).map fun j => (tmAt L j).2.toNat := map_range_getD L (0, 0) (fun t => t.2.toNat) _ rfl
    have e2 : picks us L = (List.range L.length).map fun j => us.getD (tmAt L j).1.toNat ByteArray.empty := map_range_getD L (0, 0) (fun t => us.getD t.1.toNat ByteArray.empty) _ rfl
    rw [e1, e2, csum_map]
    have e3 : ∀ j ∈ List.range L.length, gmul m (tmAt L j).2.toNat (Proofs.YtgflflpeilfinaaDoor.sy m (us.getD (tmAt L j).1.toNat ByteArray.empty) k) =
        lsum (List.range n) fun q => mu m (mu m (tmAt L j).2.toNat (gEl n par (tmAt L j).1.toNat q)) (Proofs.YtgflflpeilfinaaDoor.sy m (data.getD q ByteArray.empty) k) := by
      intro j hj
      obtain ⟨v, c, ht, hv, hc, hus⟩ := hat j (List.mem_range.1 hj)
      rw [ht]
      simp only [Int.toNat_natCast]
      rw [hus, D.sy hv hk, ← mu_eq D.hm hc (lsum_lt D.hm fun q hq => mu_lt D.hm _ _), lsum_mu D.hm]
      refine lsum_congr fun q hq => ?_
      rw [mu_assoc D.hm]
    rw [lsum_congr e3, lsum_comm]
    refine lsum_congr fun q hq => ?_
    rw [← hacc q (List.mem_range.1 hq), ← mu_lsum D.hm]
    rfl
/-- What Recover returns for the units of a stripe is the unit. -/
theorem Vd.back {m n sz : Nat} {par : List (List Int)} {hs : List Bool} (V : Vd m n par hs) {data us : List ByteArray} (D : Dt m n par data sz)
    (hus : ∀ v, hs.getD v false = true → us.getD v ByteArray.empty = (encL m par data).getD v ByteArray.empty) {u : Nat} (hu : u < n + par.length) (hr : recB m n par hs u = true) :
    combR m (coefs (cmbT m n par hs u)) (picks us (cmbT m n par hs u)) sz = (encL m par data).getD u ByteArray.empty := by
  refine back_of D hu _ (fun t ht => ?_) fun k hk => V.acc_all hu hr hk
  obtain ⟨v, c, h1, h2, h3, h4⟩ := V.tm hu t ht
  exact ⟨v, c, h1, V.base_lt h2, h4, hus v (mem_presL.1 (V.basis.sub v h2))⟩

end Go.Proofs.YtgflflpeilfinaaDoor
