/- What a constraint leaves of domains, in plain Lean. -/
import Derived.Test.YtjpdebgejlfeaaaDoorTupA
import Derived.Test.YtjpdebgejlfeaaaDoorConsA
namespace Go.Proofs.YtjpdebgejlfeaaaDoor
open Go.RowKit

theorem hasB_of (d : Int) (v : Nat) : hasB d v = true ↔ d / 2 ^ v % 2 = 1 := by simp [hasB]
theorem fin_dom {p : Int → Bool} (h : (List.range 64).all (fun n => p n) = true) {d : Int} (h0 : 0 ≤ d) (h1 : d ≤ 63) : p d = true := by
  have := List.all_eq_true.1 h d.toNat (List.mem_range.2 (by omega))
  rwa [Int.toNat_of_nonneg h0] at this
def sumB (f : Nat → Bool) : Int := (if f 0 then 1 else 0) + (if f 1 then 2 else 0) + (if f 2 then 4 else 0) + (if f 3 then 8 else 0) + (if f 4 then 16 else 0) + (if f 5 then 32 else 0)
theorem dom_sum {d : Int} (h0 : 0 ≤ d) (h1 : d ≤ 63) : sumB (hasB d) = d := by
  have := fin_dom (p := fun d => sumB (hasB d) == d) (by decide +kernel) h0 h1
  simpa using this
theorem dom_ext {a b : Int} (ha : 0 ≤ a ∧ a ≤ 63) (hb : 0 ≤ b ∧ b ≤ 63) (h : ∀ v, v < 6 → hasB a v = hasB b v) : a = b := by
  rw [← dom_sum ha.1 ha.2, ← dom_sum hb.1 hb.2]
  unfold sumB
  rw [h 0 (by omega), h 1 (by omega), h 2 (by omega), h 3 (by omega), h 4 (by omega), h 5 (by omega)]
theorem if_le {x y : Bool} {c : Int} (hc : 0 ≤ c) (h : x = true → y = true) : (if x = true then c else 0) ≤ (if y = true then c else 0) := by
  cases x <;> cases y <;> simp_all
theorem dom_le {a b : Int} (ha : 0 ≤ a ∧ a ≤ 63) (hb : 0 ≤ b ∧ b ≤ 63) (h : ∀ v, v < 6 → hasB a v = true → hasB b v = true) : a ≤ b := by
  rw [← dom_sum ha.1 ha.2, ← dom_sum hb.1 hb.2]
  unfold sumB
  have e0 := if_le (c := 1) (by omega) (h 0 (by omega))
  have e1 := if_le (c := 2) (by omega) (h 1 (by omega))
  have e2 := if_le (c := 4) (by omega) (h 2 (by omega))
  have e3 := if_le (c := 8) (by omega) (h 3 (by omega))
  have e4 := if_le (c := 16) (by omega) (h 4 (by omega))
  have e5 := if_le (c := 32) (by omega) (h 5 (by omega))
  exact Int.add_le_add (Int.add_le_add (Int.add_le_add (Int.add_le_add (Int.add_le_add e0 e1) e2) e3) e4) e5
/-- d with the value v. -/
def orV (d v : Int) : Int := if hasB d v.toNat then d else d + 2 ^ v.toNat
theorem fin_dv {p : Int → Nat → Bool} (h : (List.range 64).all (fun n => (List.range 6).all fun v => p n v) = true) {d : Int} (h0 : 0 ≤ d) (h1 : d ≤ 63) {v : Nat} (hv : v < 6) : p d v = true :=
  List.all_eq_true.1 (fin_dom (p := fun d => (List.range 6).all fun v => p d v) h h0 h1) v (List.mem_range.2 hv)
theorem fin_dvu {p : Int → Nat → Nat → Bool} (h : (List.range 64).all (fun n => (List.range 6).all fun v => (List.range 6).all fun u => p n v u) = true) {d : Int} (h0 : 0 ≤ d) (h1 : d ≤ 63) {v u : Nat} (hv : v < 6) (hu : u < 6) : p d v u = true :=
  List.all_eq_true.1 (fin_dv (p := fun d v => (List.range 6).all fun u => p d v u) h h0 h1 hv) u (List.mem_range.2 hu)
theorem orV_bd {d : Int} (h0 : 0 ≤ d) (h1 : d ≤ 63) {v : Nat} (hv : v < 6) : 0 ≤ orV d v ∧ orV d v ≤ 63 := by
  have := fin_dv (p := fun d v => decide (0 ≤ orV d v) && decide (orV d v ≤ 63)) (by decide +kernel) h0 h1 hv
  simpa using this
theorem orV_has {d : Int} (h0 : 0 ≤ d) (h1 : d ≤ 63) {v u : Nat} (hv : v < 6) (hu : u < 6) : hasB (orV d v) u = (hasB d u || u == v) := by
  have := fin_dvu (p := fun d v u => hasB (orV d v) u == (hasB d u || u == v)) (by decide +kernel) h0 h1 hv hu
  simpa using this
theorem domK_in (d : Int) (k : Nat) (v : Nat) : (v : Int) ∈ domK d k ↔ v < k ∧ hasB d v = true := by
  induction k with
  | zero => simp [domK]
  | succ k ih =>
    unfold domK
    split
    · rename_i h
      rw [List.mem_append, ih]
      simp only [List.mem_singleton]
      constructor
      · rintro (⟨a, b⟩ | e)
        · exact ⟨by omega, b⟩
        · obtain rfl : v = k := by omega
          exact ⟨by omega, h⟩
      · rintro ⟨a, b⟩
        by_cases e : v = k
        · right; omega
        · left; exact ⟨by omega, b⟩
    · rename_i h
      rw [ih]
      constructor
      · rintro ⟨a, b⟩; exact ⟨by omega, b⟩
      · rintro ⟨a, b⟩
        refine ⟨?_, b⟩
        by_cases e : v = k
        · subst e; exact absurd b h
        · omega
theorem domL_in (d : Int) (v : Nat) : (v : Int) ∈ domL d ↔ v < 6 ∧ hasB d v = true := domK_in d 6 v
/-- The values of a constraint's variables. -/
def wordL (vs xs : List Int) : List Int := vs.map fun v => at0 xs v.toNat
theorem wordL_len (vs xs : List Int) : (wordL vs xs).length = vs.length := by simp [wordL]
theorem wordL_at {vs : List Int} (xs : List Int) {k : Nat} (hk : k < vs.length) : at0 (wordL vs xs) k = at0 xs (at0 vs k).toNat := by
  unfold wordL
  show List.getD _ _ _ = _
  rw [getD_lt _ _ (by simpa using hk), List.getElem_map]
  unfold at0
  rw [getD_lt vs _ hk]
/-- One tuple laid over the values that have been met. -/
def orT (l x : List Int) : List Int := (List.range l.length).map fun i => orV (at0 l i) (at0 x i)
theorem orT_len (l x : List Int) : (orT l x).length = l.length := by simp [orT]
theorem orT_at {l : List Int} (x : List Int) {i : Nat} (hi : i < l.length) : at0 (orT l x) i = orV (at0 l i) (at0 x i) := by
  show List.getD _ _ _ = _
  rw [getD_lt _ _ (by rw [orT_len]; exact hi)]
  simp [orT]
/-- What the tuples with a property have in each place. -/
def leftT (p : List Int → Bool) (l : List Int) (ts : List (List Int)) : List Int := ts.foldl (fun l x => if p x then orT l x else l) l
def zer (n : Nat) : List Int := List.replicate n 0
theorem zer_len (n : Nat) : (zer n).length = n := by simp [zer]
theorem zer_at (n i : Nat) : at0 (zer n) i = 0 := by
  unfold at0 zer
  rw [List.getD_eq_getElem?_getD, List.getElem?_replicate]
  split <;> rfl
theorem hasB_zero (v : Nat) : hasB 0 v = false := by simp [hasB]
/-- Domains: numbers in 0..63. -/
def DomL (ds : List Int) : Prop := ∀ i, i < ds.length → 0 ≤ at0 ds i ∧ at0 ds i ≤ 63
theorem DomL.of {ds : List Int} (h : allR ds 0 63 = true) : DomL ds := fun _ hi => allR_at h hi
theorem DomL.all {ds : List Int} (h : DomL ds) : allR ds 0 63 = true := allR_of fun j hj => by simpa [inR] using h j hj
theorem DomL.zer (n : Nat) : DomL (zer n) := fun i _ => by rw [zer_at]; omega
/-- Values in 0..5. -/
def ValL (x : List Int) : Prop := ∀ i, i < x.length → 0 ≤ at0 x i ∧ at0 x i ≤ 5
theorem ValL.at_ {x : List Int} (h : ValL x) {i : Nat} (hi : i < x.length) : ∃ v : Nat, v < 6 ∧ at0 x i = v := ⟨(at0 x i).toNat, by have := h i hi; omega, by have := h i hi; omega⟩
theorem DomL.orT {l x : List Int} (h : DomL l) (hx : ValL x) (hl : x.length = l.length) : DomL (orT l x) := fun i hi => by
  rw [orT_len] at hi
  rw [orT_at x hi]
  obtain ⟨v, hv, e⟩ := hx.at_ (i := i) (by omega)
  rw [e]
  exact orV_bd (h i hi).1 (h i hi).2 hv
theorem leftT_spec (p : List Int → Bool) : ∀ (ts : List (List Int)) (l : List Int), DomL l → (∀ x ∈ ts, x.length = l.length ∧ ValL x) →
    (leftT p l ts).length = l.length ∧ DomL (leftT p l ts) ∧ ∀ i, i < l.length → ∀ v, v < 6 → hasB (at0 (leftT p l ts) i) v = (hasB (at0 l i) v || ts.any fun x => p x && (at0 x i == (v : Int)))
  | [], l, h, _ => ⟨rfl, h, fun i hi v hv => by simp [leftT]⟩
  | x :: ts, l, h, hts => by
    obtain ⟨hxl, hxv⟩ := hts x (by simp)
    have hr := fun y hy => hts y (List.mem_cons_of_mem _ hy)
    show (leftT p (if p x then orT l x else l) ts).length = _ ∧ DomL (leftT p (if p x then orT l x else l) ts) ∧ _
    by_cases hp : p x = true
    · rw [if_pos hp]
      obtain ⟨a, b, c⟩ := leftT_spec p ts (orT l x) (h.orT hxv hxl) (fun y hy => by rw [orT_len]; exact hr y hy)
      rw [orT_len] at a c
      refine ⟨a, b, fun i hi v hv => ?_⟩
      show hasB (at0 (leftT p (if p x then orT l x else l) ts) i) v = _
      rw [if_pos hp, c i hi v hv, orT_at x hi]
      obtain ⟨u, hu, e⟩ := hxv.at_ (i := i) (by omega)
      rw [e, orV_has (h i hi).1 (h i hi).2 hu hv, List.any_cons, hp, e, Bool.or_assoc, Bool.true_and]
      congr 2
      rw [Bool.eq_iff_iff, beq_iff_eq, beq_iff_eq]; omega
    · rw [if_neg hp]
      obtain ⟨a, b, c⟩ := leftT_spec p ts l h hr
      refine ⟨a, b, fun i hi v hv => ?_⟩
      show hasB (at0 (leftT p (if p x then orT l x else l) ts) i) v = _
      rw [if_neg hp, c i hi v hv, List.any_cons, Bool.eq_false_iff.2 hp, Bool.false_and, Bool.false_or]
/-- The lists with a value of each domain. -/
theorem tups_in : ∀ (ds x : List Int), x ∈ tups ds ↔ x.length = ds.length ∧ ∀ i, i < ds.length → ∃ v : Nat, v < 6 ∧ at0 x i = v ∧ hasB (at0 ds i) v = true
  | [], x => by
    simp only [tups, List.mem_singleton, List.length_nil]
    constructor
    · rintro rfl; exact ⟨rfl, fun i hi => by omega⟩
    · rintro ⟨h, _⟩; exact List.length_eq_zero_iff.1 h
  | d :: ds, x => by
    simp only [tups, List.mem_flatMap, List.mem_map]
    constructor
    · rintro ⟨u, hu, t, ht, rfl⟩
      obtain ⟨h1, h2⟩ := (tups_in ds t).1 ht
      refine ⟨by simp [h1], fun i hi => ?_⟩
      cases i with
      | zero =>
        have h0 : 0 ≤ u := by
          have : ∀ k, ∀ z ∈ domK d k, (0:Int) ≤ z := by
            intro k; induction k with
            | zero => simp [domK]
            | succ k ih =>
              intro z hz; unfold domK at hz; split at hz
              · rcases List.mem_append.1 hz with h | h
                · exact ih z h
                · simp at h; omega
              · exact ih z hz
          exact this 6 u hu
        obtain ⟨v, rfl⟩ : ∃ v : Nat, u = v := ⟨u.toNat, by omega⟩
        obtain ⟨a, b⟩ := (domL_in d v).1 hu
        exact ⟨v, a, rfl, b⟩
      | succ i => exact h2 i (by simpa using hi)
    · rintro ⟨h1, h2⟩
      cases x with
      | nil => simp at h1
      | cons u t =>
        obtain ⟨v, a, b, c⟩ := h2 0 (by simp)
        refine ⟨u, ?_, t, (tups_in ds t).2 ⟨by simpa using h1, fun i hi => h2 (i + 1) (by simpa using hi)⟩, rfl⟩
        have : u = v := b
        rw [this]
        exact (domL_in d v).2 ⟨a, c⟩
theorem tups_val {ds x : List Int} (h : x ∈ tups ds) : x.length = ds.length ∧ ValL x := by
  obtain ⟨h1, h2⟩ := (tups_in ds x).1 h
  refine ⟨h1, fun i hi => ?_⟩
  obtain ⟨v, a, b, -⟩ := h2 i (by omega)
  omega
/-- The variables' domains are put. -/
def putV (ds vs left : List Int) : Nat → List Int
  | 0 => ds
  | k + 1 => (putV ds vs left k).set (at0 vs k).toNat (at0 left k)
theorem putV_len (ds vs left : List Int) : ∀ k, (putV ds vs left k).length = ds.length
  | 0 => rfl
  | k + 1 => by rw [putV, List.length_set, putV_len ds vs left k]
theorem at0_set (l : List Int) (i j : Nat) (v : Int) (hi : i < l.length) : at0 (l.set i v) j = if i = j then v else at0 l j := by
  unfold at0
  rw [List.getD_eq_getElem?_getD, List.getD_eq_getElem?_getD, List.getElem?_set]
  split
  · rename_i e; subst e; simp
  · rfl
theorem putV_other {ds vs left : List Int} {u : Nat} : ∀ m, (∀ k, k < m → (at0 vs k).toNat ≠ u) → at0 (putV ds vs left m) u = at0 ds u
  | 0, _ => rfl
  | m + 1, h => by
    rw [putV]
    by_cases hl : (at0 vs m).toNat < (putV ds vs left m).length
    · rw [at0_set _ _ _ _ hl, if_neg (h m (by omega))]
      exact putV_other m fun k hk => h k (by omega)
    · rw [List.set_eq_of_length_le (by omega)]
      exact putV_other m fun k hk => h k (by omega)
theorem putV_var {ds vs left : List Int} {k : Nat} : ∀ m, (∀ i, i < m → (at0 vs i).toNat < ds.length) → (∀ i, i < m → ∀ j, j < i → (at0 vs j).toNat ≠ (at0 vs i).toNat) → k < m → at0 (putV ds vs left m) (at0 vs k).toNat = at0 left k
  | 0, _, _, hk => by omega
  | m + 1, hb, hd, hk => by
    rw [putV, at0_set _ _ _ _ (by rw [putV_len]; exact hb m (by omega))]
    by_cases e : k = m
    · subst e; rw [if_pos rfl]
    · rw [if_neg (fun h => hd m (by omega) k (by omega) h.symm)]
      exact putV_var m (fun i hi => hb i (by omega)) (fun i hi => hd i (by omega)) (by omega)
/-- The variables of a constraint are right for n variables. -/
structure VarOK (vs : List Int) (n : Nat) : Prop where
  rg : ∀ i, i < vs.length → 0 ≤ at0 vs i ∧ (at0 vs i).toNat < n
  ne : ∀ i, i < vs.length → ∀ j, j < i → (at0 vs j).toNat ≠ (at0 vs i).toNat
theorem VarOK.of {vs : List Int} {n : Nat} (h1 : allR vs 0 ((n : Int) - 1) = true) (h2 : dst vs = true) : VarOK vs n := by
  have h3 : ∀ i, i < vs.length → 0 ≤ at0 vs i ∧ (at0 vs i).toNat < n := fun i hi => by have := allR_at h1 hi; omega
  refine ⟨h3, fun i hi j hj e => ?_⟩
  have h4 : anyB (fun i => hasI (vs.take i) (at0 vs i)) vs.length = true := by
    refine anyB_iff.2 ⟨i, hi, ?_⟩
    unfold hasI
    refine anyB_iff.2 ⟨j, by rw [List.length_take]; omega, ?_⟩
    have e1 : at0 (vs.take i) j = at0 vs j := by
      unfold at0
      rw [getD_lt _ _ (by rw [List.length_take]; omega), getD_lt _ _ (by omega), List.getElem_take]
    rw [beq_iff_eq, e1]
    have := h3 i hi; have := h3 j (by omega)
    omega
  unfold dst at h2
  rw [h4] at h2
  cases h2
/-- What is left of the domains by a property of the values of some variables. -/
def filtP (p : List Int → Bool) (vs ds : List Int) : List Int := putV ds vs (leftT p (zer vs.length) (tups (wordL vs ds))) vs.length
theorem filtP_len (p : List Int → Bool) (vs ds : List Int) : (filtP p vs ds).length = ds.length := putV_len _ _ _ _
theorem left_spec (p : List Int → Bool) (vs ds : List Int) : (leftT p (zer vs.length) (tups (wordL vs ds))).length = vs.length ∧ DomL (leftT p (zer vs.length) (tups (wordL vs ds))) ∧
    ∀ i, i < vs.length → ∀ v, v < 6 → hasB (at0 (leftT p (zer vs.length) (tups (wordL vs ds))) i) v = (tups (wordL vs ds)).any fun x => p x && (at0 x i == (v : Int)) := by
  obtain ⟨a, b, c⟩ := leftT_spec p (tups (wordL vs ds)) (zer vs.length) (DomL.zer _) (fun x hx => by
    obtain ⟨h1, h2⟩ := tups_val hx
    rw [wordL_len] at h1
    exact ⟨by rw [zer_len, h1], h2⟩)
  rw [zer_len] at a c
  refine ⟨a, b, fun i hi v hv => ?_⟩
  rw [c i hi v hv, zer_at, hasB_zero, Bool.false_or]
section
variable {p : List Int → Bool} {vs ds : List Int} (hv : VarOK vs ds.length)
include hv
theorem filtP_var {k : Nat} (hk : k < vs.length) : at0 (filtP p vs ds) (at0 vs k).toNat = at0 (leftT p (zer vs.length) (tups (wordL vs ds))) k :=
  putV_var vs.length (fun i hi => (hv.rg i hi).2) hv.ne hk
omit hv in
theorem filtP_other {u : Nat} (h : ∀ k, k < vs.length → (at0 vs k).toNat ≠ u) : at0 (filtP p vs ds) u = at0 ds u := putV_other vs.length h
theorem filtP_dom (hd : DomL ds) : DomL (filtP p vs ds) := fun u hu => by
  rw [filtP_len] at hu
  by_cases h : ∃ k, k < vs.length ∧ (at0 vs k).toNat = u
  · obtain ⟨k, hk, rfl⟩ := h
    rw [filtP_var hv hk]
    exact (left_spec p vs ds).2.1 k (by rw [(left_spec p vs ds).1]; exact hk)
  · rw [filtP_other fun k hk e => h ⟨k, hk, e⟩]
    exact hd u hu
/-- A value of a variable of the constraint is left if a tuple with it has the property. -/
theorem filtP_has {k : Nat} (hk : k < vs.length) {v : Nat} (h6 : v < 6) : hasB (at0 (filtP p vs ds) (at0 vs k).toNat) v = true ↔ ∃ x, x ∈ tups (wordL vs ds) ∧ p x = true ∧ at0 x k = v := by
  rw [filtP_var hv hk, (left_spec p vs ds).2.2 k hk v h6, List.any_eq_true]
  constructor
  · rintro ⟨x, h1, h2⟩
    rw [Bool.and_eq_true, beq_iff_eq] at h2
    exact ⟨x, h1, h2.1, h2.2⟩
  · rintro ⟨x, h1, h2, h3⟩
    exact ⟨x, h1, by rw [Bool.and_eq_true, beq_iff_eq]; exact ⟨h2, h3⟩⟩
end
/-- Each domain of a is in that of b. -/
structure SubD (a b : List Int) : Prop where
  len : a.length = b.length
  sub : ∀ u, u < a.length → ∀ v, v < 6 → hasB (at0 a u) v = true → hasB (at0 b u) v = true
theorem SubD.refl (a : List Int) : SubD a a := ⟨rfl, fun _ _ _ _ h => h⟩
theorem SubD.trans {a b c : List Int} (h : SubD a b) (k : SubD b c) : SubD a c := ⟨h.len.trans k.len, fun u hu v hv h1 => k.sub u (by rw [← h.len]; exact hu) v hv (h.sub u hu v hv h1)⟩
theorem at0_ext {a b : List Int} (hl : a.length = b.length) (h : ∀ u, u < a.length → at0 a u = at0 b u) : a = b := by
  refine List.ext_getElem hl fun i h1 h2 => ?_
  have := h i h1
  unfold at0 at this
  rwa [getD_lt _ _ h1, getD_lt _ _ h2] at this
theorem SubD.antisymm {a b : List Int} (ha : DomL a) (hb : DomL b) (h : SubD a b) (k : SubD b a) : a = b :=
  at0_ext h.len fun u hu => dom_ext (ha u hu) (hb u (by rw [← h.len]; exact hu)) fun v hv => by
    rw [Bool.eq_iff_iff]
    exact ⟨h.sub u hu v hv, k.sub u (by rw [← h.len]; exact hu) v hv⟩
theorem SubD.le {a b : List Int} (ha : DomL a) (hb : DomL b) (h : SubD a b) {u : Nat} (hu : u < a.length) : at0 a u ≤ at0 b u := dom_le (ha u hu) (hb u (by rw [← h.len]; exact hu)) (h.sub u hu)
def sumL : List Int → Int
  | [] => 0
  | x :: xs => x + sumL xs
theorem sum_le : ∀ (a b : List Int), a.length = b.length → (∀ u, u < a.length → at0 a u ≤ at0 b u) → sumL a ≤ sumL b ∧ (sumL a = sumL b → a = b)
  | [], [], _, _ => ⟨by simp, fun _ => rfl⟩
  | [], b :: es, h, _ => by simp at h
  | a :: cs, [], h, _ => by simp at h
  | a :: cs, b :: es, hl, h => by
    obtain ⟨h1, h2⟩ := sum_le cs es (by simpa using hl) (fun u hu => h (u + 1) (by simpa using hu))
    have h0 : a ≤ b := h 0 (by simp)
    refine ⟨by simp only [sumL]; omega, fun e => ?_⟩
    simp only [sumL] at e
    rw [h2 (by omega), show a = b by omega]
theorem SubD.sum {a b : List Int} (ha : DomL a) (hb : DomL b) (h : SubD a b) (hne : a ≠ b) : sumL a < sumL b := by
  obtain ⟨h1, h2⟩ := sum_le a b h.len (fun u hu => h.le ha hb hu)
  by_cases e : sumL a = sumL b
  · exact absurd (h2 e) hne
  · omega
theorem sumL_bd : ∀ (a : List Int), DomL a → 0 ≤ sumL a ∧ sumL a ≤ 63 * a.length
  | [], _ => by simp [sumL]
  | x :: xs, h => by
    have h0 : 0 ≤ x ∧ x ≤ 63 := h 0 (by simp)
    have := sumL_bd xs (fun i hi => h (i + 1) (by simp only [List.length_cons]; omega))
    simp only [sumL, List.length_cons]
    omega
section
variable {p : List Int → Bool} {vs ds : List Int} (hv : VarOK vs ds.length)
include hv
theorem filtP_sub : SubD (filtP p vs ds) ds := by
  refine ⟨filtP_len _ _ _, fun u hu v h6 h => ?_⟩
  rw [filtP_len] at hu
  by_cases hk : ∃ k, k < vs.length ∧ (at0 vs k).toNat = u
  · obtain ⟨k, hk, rfl⟩ := hk
    obtain ⟨x, hx, -, hxv⟩ := (filtP_has hv hk h6).1 h
    obtain ⟨h1, h2⟩ := (tups_in _ _).1 hx
    obtain ⟨w, a, b, c⟩ := h2 k (by rw [wordL_len]; exact hk)
    rw [wordL_at _ hk] at c
    obtain rfl : w = v := by omega
    exact c
  · rwa [filtP_other fun k hk' e => hk ⟨k, hk', e⟩] at h
theorem filtP_mono {es : List Int} (h : SubD ds es) : SubD (filtP p vs ds) (filtP p vs es) := by
  have hv' : VarOK vs es.length := by rw [← h.len]; exact hv
  refine ⟨by rw [filtP_len, filtP_len, h.len], fun u hu v h6 hh => ?_⟩
  rw [filtP_len] at hu
  by_cases hk : ∃ k, k < vs.length ∧ (at0 vs k).toNat = u
  · obtain ⟨k, hk, rfl⟩ := hk
    obtain ⟨x, hx, hp, hxv⟩ := (filtP_has hv hk h6).1 hh
    refine (filtP_has hv' hk h6).2 ⟨x, ?_, hp, hxv⟩
    obtain ⟨h1, h2⟩ := (tups_in _ _).1 hx
    refine (tups_in _ _).2 ⟨by rw [h1, wordL_len, wordL_len], fun i hi => ?_⟩
    rw [wordL_len] at hi
    obtain ⟨w, a, b, c⟩ := h2 i (by rw [wordL_len]; exact hi)
    rw [wordL_at _ hi] at c ⊢
    exact ⟨w, a, b, h.sub _ (hv.rg i hi).2 w a c⟩
  · have hk' := fun k hk1 e => hk ⟨k, hk1, e⟩
    rw [filtP_other hk'] at hh ⊢
    exact h.sub u hu v h6 hh
end
end Go.Proofs.YtjpdebgejlfeaaaDoor
