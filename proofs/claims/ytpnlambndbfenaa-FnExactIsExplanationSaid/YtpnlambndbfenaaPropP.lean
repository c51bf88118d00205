/- Propagation, probing and shaving in plain Lean. -/
import Derived.Test.YtpnlambndbfenaaFix
namespace Go.Proofs.Ytpnlambndbfenaa
open Go.RowKit

theorem hasI_iff {xs : List Int} {x : Int} : hasI xs x = true ↔ ∃ i, i < xs.length ∧ at0 xs i = x := by
  unfold hasI
  rw [anyB_iff]
  constructor
  · rintro ⟨i, h1, h2⟩
    exact ⟨i, h1, (beq_iff_eq.1 h2).symm⟩
  · rintro ⟨i, h1, h2⟩
    exact ⟨i, h1, beq_iff_eq.2 h2.symm⟩
theorem hasI_zer {n : Nat} (h : 0 < n) : hasI (zer n) 0 = true := hasI_iff.2 ⟨0, by rw [zer_len]; exact h, zer_at _ _⟩
/-- No constraint takes away a value. -/
def conB (cs : List Con) (ds : List Int) : Bool := !anyB (fun i => decide (filtL (con0 cs i) ds ≠ ds)) cs.length
theorem stepK_sub {cs : List Con} {n : Nat} {ds : List Int} (h : GoodD cs n ds) : ∀ j k, j + k ≤ cs.length → SubD (stepK cs ds (j + k)) (stepK cs ds j)
  | j, 0, _ => SubD.refl _
  | j, k + 1, hk => ((h.stepK (j + k) (by omega)).1.filt (i := j + k) (by omega)).2.trans (stepK_sub h j k (by omega))
theorem conB_iff {cs : List Con} {n : Nat} {ds : List Int} (h : GoodD cs n ds) : conB cs ds = true ↔ stepL cs ds = ds := by
  unfold conB
  rw [Bool.not_eq_true', anyB_false]
  constructor
  · intro hc
    have : ∀ k, k ≤ cs.length → stepK cs ds k = ds := by
      intro k
      induction k with
      | zero => intro _; rfl
      | succ k ih =>
        intro hk
        have := hc k (by omega)
        rw [stepK, ih (by omega)]
        simpa using this
    exact this _ (Nat.le_refl _)
  · intro he i hi
    have e : ∀ k, k ≤ cs.length → stepK cs ds k = ds := fun k hk => by
      obtain ⟨h1, h2⟩ := h.stepK k hk
      have h3 := stepK_sub h k (cs.length - k) (by omega)
      rw [show k + (cs.length - k) = cs.length by omega] at h3
      have h3 : SubD ds (stepK cs ds k) := by
        have h4 : stepK cs ds cs.length = ds := he
        rwa [h4] at h3
      exact SubD.antisymm h1.2.1 h.2.1 h2 h3
    have h1 := e (i + 1) (by omega)
    rw [stepK, e i (by omega)] at h1
    simpa using h1
/-- What propagation leaves. -/
structure PropR (cs : List Con) (n : Nat) (ds r : List Int) : Prop where
  good : GoodD cs n r
  sub : SubD r ds
  cas : r = zer n ∨ (hasI r 0 = false ∧ stepL cs r = r)
theorem GoodD.zer {cs : List Con} {n : Nat} {ds : List Int} (h : GoodD cs n ds) : GoodD cs n (zer n) := ⟨zer_len n, DomL.zer n, h.2.2⟩
theorem zer_sub {n : Nat} {ds : List Int} (h : ds.length = n) : SubD (zer n) ds := ⟨by rw [zer_len, h], fun u _ v _ hh => by rw [zer_at, hasB_zero] at hh; cases hh⟩
theorem fixL_R {cs : List Con} {n : Nat} : ∀ (k : Nat) (ds : List Int), GoodD cs n ds → sumL ds < k → PropR cs n ds (fixL (stepL cs) k ds)
  | 0, ds, h, hs => by have := (sumL_bd ds h.2.1).1; omega
  | k + 1, ds, h, hs => by
    rw [fixL]
    cases h0 : hasI ds 0 with
    | true =>
      rw [if_pos rfl, h.1]
      exact ⟨h.zer, zer_sub h.1, .inl rfl⟩
    | false =>
      rw [if_neg (by simp)]
      have hst := stepOK cs n
      by_cases he : stepL cs ds = ds
      · rw [if_pos he]
        exact ⟨h, SubD.refl _, .inr ⟨h0, he⟩⟩
      · rw [if_neg he]
        have := SubD.sum (hst.dom _ (hst.stay ds h)) (hst.dom ds h) (hst.sub ds h) he
        obtain ⟨a, b, c⟩ := fixL_R k (stepL cs ds) (hst.stay ds h) (by omega)
        exact ⟨a, b.trans (hst.sub ds h), c⟩
theorem propL_R {cs : List Con} {n : Nat} {ds : List Int} (h : GoodD cs n ds) (h4 : n ≤ 4) : PropR cs n ds (propL cs ds) := by
  refine fixL_R 300 ds h ?_
  have := (sumL_bd ds h.2.1).2
  have := h.1
  omega
theorem propL_stay {cs : List Con} {n : Nat} {r : List Int} (hl : r.length = n) (hc : r = zer n ∨ (hasI r 0 = false ∧ stepL cs r = r)) (h0 : 0 < n) : propL cs r = r := by
  unfold propL
  rw [show (300 : Nat) = 299 + 1 from rfl, fixL]
  rcases hc with rfl | ⟨h1, h2⟩
  · rw [if_pos (hasI_zer h0), hl]
  · rw [h1, if_neg (by simp), if_pos h2]
theorem propL_idem {cs : List Con} {n : Nat} {ds : List Int} (h : GoodD cs n ds) (h4 : n ≤ 4) (h0 : 0 < n) : propL cs (propL cs ds) = propL cs ds := by
  have hr := propL_R h h4
  exact propL_stay hr.good.1 hr.cas h0
/-- One empty domain, and the first one is. -/
theorem propL_first {cs : List Con} {n : Nat} {ds : List Int} (h : GoodD cs n ds) (h4 : n ≤ 4) (h0 : 0 < n) : (at0 (propL cs ds) 0 == 0) = hasI (propL cs ds) 0 := by
  have hr := propL_R h h4
  rcases hr.cas with e | ⟨e, -⟩
  · rw [e, hasI_zer h0, zer_at]; rfl
  · rw [e]
    have : at0 (propL cs ds) 0 ≠ 0 := fun h2 => by
      have := hasI_iff.2 ⟨0, by rw [hr.good.1]; exact h0, h2⟩
      rw [e] at this; cases this
    simpa using this
theorem propL_empty {cs : List Con} {n : Nat} {ds : List Int} (h : GoodD cs n ds) (h4 : n ≤ 4) (he : hasI (propL cs ds) 0 = true) : propL cs ds = zer n := by
  have hr := propL_R h h4
  rcases hr.cas with e | ⟨e, -⟩
  · exact e
  · rw [e] at he; cases he
/-- A domain with one value of it. -/
def andV (d : Int) (a : Nat) : Int := if hasB d a then 2 ^ a else 0
theorem bits_and {d : Int} (h0 : 0 ≤ d) (h1 : d ≤ 63) {v : Nat} (hv : v < 6) : bits .and .i64 d (2 ^ v) = andV d v := by
  have := fin_dv (p := fun d v => bits .and .i64 d (2 ^ v) == andV d v) (by decide +kernel) h0 h1 hv
  simpa using this
theorem andV_bd {d : Int} (h0 : 0 ≤ d) (h1 : d ≤ 63) {v : Nat} (hv : v < 6) : 0 ≤ andV d v ∧ andV d v ≤ 63 := by
  have := fin_dv (p := fun d v => decide (0 ≤ andV d v) && decide (andV d v ≤ 63)) (by decide +kernel) h0 h1 hv
  simpa using this
theorem pow_bd {v : Nat} (hv : v < 6) : (1 : Int) ≤ 2 ^ v ∧ (2 : Int) ^ v ≤ 32 := by
  have := fin_dv (p := fun _ v => decide ((1 : Int) ≤ 2 ^ v) && decide ((2 : Int) ^ v ≤ 32)) (by decide +kernel) (Int.le_refl 0) (by omega) hv
  simpa using this
theorem andV_has {d : Int} (h0 : 0 ≤ d) (h1 : d ≤ 63) {v u : Nat} (hv : v < 6) (hu : u < 6) : hasB (andV d v) u = (hasB d u && u == v) := by
  have := fin_dvu (p := fun d v u => hasB (andV d v) u == (hasB d u && u == v)) (by decide +kernel) h0 h1 hv hu
  simpa using this
/-- A domain without a value. -/
def delV (d : Int) (a : Nat) : Int := if hasB d a then d - 2 ^ a else d
theorem bits_andNot {d : Int} (h0 : 0 ≤ d) (h1 : d ≤ 63) {v : Nat} (hv : v < 6) : bits .andNot .i64 d (2 ^ v) = delV d v := by
  have := fin_dv (p := fun d v => bits .andNot .i64 d (2 ^ v) == delV d v) (by decide +kernel) h0 h1 hv
  simpa using this
theorem delV_bd {d : Int} (h0 : 0 ≤ d) (h1 : d ≤ 63) {v : Nat} (hv : v < 6) : 0 ≤ delV d v ∧ delV d v ≤ 63 := by
  have := fin_dv (p := fun d v => decide (0 ≤ delV d v) && decide (delV d v ≤ 63)) (by decide +kernel) h0 h1 hv
  simpa using this
theorem delV_has {d : Int} (h0 : 0 ≤ d) (h1 : d ≤ 63) {v u : Nat} (hv : v < 6) (hu : u < 6) : hasB (delV d v) u = (hasB d u && u != v) := by
  have := fin_dvu (p := fun d v u => hasB (delV d v) u == (hasB d u && u != v)) (by decide +kernel) h0 h1 hv hu
  simpa using this
theorem GoodD.set {cs : List Con} {n : Nat} {ds : List Int} (h : GoodD cs n ds) (i : Nat) {x : Int} (hx : 0 ≤ x ∧ x ≤ 63) : GoodD cs n (ds.set i x) := by
  refine ⟨by rw [List.length_set]; exact h.1, fun j hj => ?_, h.2.2⟩
  rw [List.length_set] at hj
  by_cases hi : i < ds.length
  · rw [at0_set _ _ _ _ hi]
    split
    · exact hx
    · exact h.2.1 j hj
  · rw [List.set_eq_of_length_le (by omega)]
    exact h.2.1 j hj
theorem sub_set {ds : List Int} {i : Nat} {x : Int} (hi : i < ds.length) (h : ∀ v, v < 6 → hasB x v = true → hasB (at0 ds i) v = true) : SubD (ds.set i x) ds := by
  refine ⟨by simp, fun u _ v hv hh => ?_⟩
  rw [at0_set _ _ _ _ hi] at hh
  split at hh
  · rename_i e; subst e; exact h v hv hh
  · exact hh
def probD (ds : List Int) (v a : Nat) : List Int := ds.set v (andV (at0 ds v) a)
def probL (cs : List Con) (ds : List Int) (v a : Nat) : List Int := propL cs (probD ds v a)
theorem GoodD.prob {cs : List Con} {n : Nat} {ds : List Int} (h : GoodD cs n ds) {v a : Nat} (hv : v < n) (ha : a < 6) : GoodD cs n (probD ds v a) := by
  have := h.2.1 v (by rw [h.1]; exact hv)
  exact h.set v (andV_bd this.1 this.2 ha)
/-- No probe of a value fails. -/
def singB (cs : List Con) (ds : List Int) : Bool := !hasI ds 0 && !anyB (fun v => anyB (fun k => hasI (probL cs ds v (at0 (domL (at0 ds v)) k).toNat) 0) (domL (at0 ds v)).length) ds.length
end Go.Proofs.Ytpnlambndbfenaa
