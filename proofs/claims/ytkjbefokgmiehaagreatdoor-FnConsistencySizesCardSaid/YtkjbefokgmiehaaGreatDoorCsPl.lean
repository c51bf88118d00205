/- Bounds propagation and propagation; sizes of domains: plain Lean. -/
import Derived.Test.YtkjbefokgmiehaaGreatDoorBndZ
import Derived.Test.YtkjbefokgmiehaaGreatDoorPrbP
import Derived.Test.YtkjbefokgmiehaaGreatDoorBbP
namespace Go.Proofs.YtkjbefokgmiehaaGreatDoor
open Go.RowKit

section
variable {cs : List Con} {n : Nat}
/-- What a step to a fixed end leaves. -/
theorem fix_R {t : List Int → List Int} (ht : StOK t (GoodD cs n) n) {ds : List Int} (h : GoodD cs n ds) (h4 : n ≤ 4) : GoodD cs n (fixL t 300 ds) ∧ SubD (fixL t 300 ds) ds ∧ (fixL t 300 ds = zer n ∨ (hasI (fixL t 300 ds) 0 = false ∧ t (fixL t 300 ds) = fixL t 300 ds)) := by
  have key : ∀ (k : Nat) (b : List Int), GoodD cs n b → sumL b < k → GoodD cs n (fixL t k b) ∧ SubD (fixL t k b) b ∧ (fixL t k b = zer n ∨ (hasI (fixL t k b) 0 = false ∧ t (fixL t k b) = fixL t k b)) := by
    intro k
    induction k with
    | zero => intro b hb hs; have := (sumL_bd b hb.2.1).1; omega
    | succ k ih =>
      intro b hb hs
      rw [fixL]
      cases hz : hasI b 0 with
      | true =>
        rw [if_pos rfl, hb.1]
        exact ⟨hb.zer, zer_sub hb.1, .inl rfl⟩
      | false =>
        rw [if_neg (by simp)]
        by_cases he : t b = b
        · rw [if_pos he]; exact ⟨hb, SubD.refl _, .inr ⟨hz, he⟩⟩
        · rw [if_neg he]
          have := SubD.sum (ht.dom _ (ht.stay b hb)) (ht.dom b hb) (ht.sub b hb) he
          obtain ⟨q1, q2, q3⟩ := ih (t b) (ht.stay b hb) (by omega)
          exact ⟨q1, q2.trans (ht.sub b hb), q3⟩
  refine key 300 ds h ?_
  have := (sumL_bd ds h.2.1).2
  have := h.1
  omega
theorem bndR_R {ds : List Int} (h : GoodD cs n ds) (h4 : n ≤ 4) : GoodD cs n (bndR cs ds) ∧ SubD (bndR cs ds) ds ∧ (bndR cs ds = zer n ∨ (hasI (bndR cs ds) 0 = false ∧ bndL edgeV cs (bndR cs ds) = bndR cs ds)) := fix_R (bnd_ok edgeOk) h h4
theorem stepK_at {ds : List Int} (h : GoodD cs n ds) (he : stepL cs ds = ds) : ∀ i, i < cs.length → filtL (con0 cs i) ds = ds := by
  have hsub : ∀ m k, k + m ≤ cs.length → SubD (stepK cs ds (k + m)) (stepK cs ds k) := by
    intro m
    induction m with
    | zero => intro k _; exact SubD.refl _
    | succ m ih =>
      intro k hk
      exact SubD.trans (((h.stepK (k + m) (by omega)).1.filt (i := k + m) (by omega)).2) (ih k (by omega))
  have hall : ∀ k, k ≤ cs.length → stepK cs ds k = ds := fun k hk => by
    obtain ⟨g1, g2⟩ := h.stepK k hk
    have h3 := hsub (cs.length - k) k (by omega)
    rw [show k + (cs.length - k) = cs.length by omega, show stepK cs ds cs.length = ds from he] at h3
    exact SubD.antisymm g1.2.1 h.2.1 g2 h3
  intro i hi
  have := hall (i + 1) (by omega)
  rw [stepK, hall i (by omega)] at this
  exact this
theorem fix_keeps9 {t : List Int → List Int} (ht : StOK t (GoodD cs n) n) {p : List Int} (hp : GoodD cs n p) (h0 : hasI p 0 = false) (kt : ∀ b, GoodD cs n b → SubD p b → SubD p (t b)) : ∀ (k : Nat) (b : List Int), GoodD cs n b → SubD p b → SubD p (fixL t k b)
  | 0, _, _, hs => hs
  | k + 1, b, hb, hs => by
    rw [fixL]
    cases hz : hasI b 0 with
    | true =>
      exfalso
      obtain ⟨i, hi, he⟩ := hasI_iff.1 hz
      have hil : i < p.length := by rw [hs.len]; exact hi
      have hne : at0 p i ≠ 0 := fun e => by
        have := hasI_iff.2 ⟨i, hil, e⟩
        rw [h0] at this; cases this
      obtain ⟨b0, b1⟩ := hp.2.1 i hil
      obtain ⟨v, v6, hv⟩ := has_one9 b0 b1 hne
      have := hs.sub i hil v v6 hv
      rw [he, hasB_zero] at this; cases this
    | false =>
      rw [if_neg (by simp)]
      by_cases he : t b = b
      · rw [if_pos he]; exact hs
      · rw [if_neg he]
        exact fix_keeps9 ht hp h0 kt k (t b) (ht.stay b hb) (kt b hb hs)
/-- Propagated domains are contained in those of bounds propagation. -/
theorem prop_bnd {ds : List Int} (h : GoodD cs n ds) (h4 : n ≤ 4) : SubD (propL cs ds) (bndR cs ds) := by
  have hR := propL_R h h4
  rcases hR.cas with hz | ⟨h0, hst⟩
  · rw [hz]; exact zer_sub (bndR_R h h4).1.1
  · refine fix_keeps9 (bnd_ok edgeOk) hR.good h0 (fun b hb hs => bnd_keeps edgeOk hb hR.good hs fun k hk i hi => ?_) 300 ds h hR.sub
    rw [stepK_at hR.good hst k hk]
    have hil : i < (propL cs ds).length := by rw [hR.good.1]; exact hi
    obtain ⟨d0, d1⟩ := hR.good.2.1 i hil
    intro v hv hh
    exact ⟨(lowV_le d0 d1 hv hh).2.1, (topV_le d0 d1 hv hh).2.1⟩
/-- Every constraint keeps the bounds that bounds propagation leaves. -/
theorem bnd_supp {ds : List Int} (h : GoodD cs n ds) (h4 : n ≤ 4) (h0 : hasI (bndR cs ds) 0 = false) (hn : 0 < n) {k i : Nat} (hk : k < cs.length) (hi : i < n) :
    hasB (at0 (filtL (con0 cs k) (bndR cs ds)) i) (lowV (at0 (bndR cs ds) i)) = true ∧ hasB (at0 (filtL (con0 cs k) (bndR cs ds)) i) (topV (at0 (bndR cs ds) i)) = true := by
  obtain ⟨hg, -, hc⟩ := bndR_R h h4
  have hfix : bndL edgeV cs (bndR cs ds) = bndR cs ds := by
    rcases hc with hz | ⟨-, he⟩
    · rw [hz, hasI_zer hn] at h0; cases h0
    · exact he
  have hil : i < (bndR cs ds).length := by rw [hg.1]; exact hi
  have hne : at0 (bndR cs ds) i ≠ 0 := fun e => by
    have := hasI_iff.2 ⟨i, hil, e⟩
    rw [h0] at this; cases this
  obtain ⟨b0, b1⟩ := hg.2.1 i hil
  obtain ⟨v, v6, hv⟩ := has_one9 b0 b1 hne
  exact (bnd_fix edgeOk hg).1 hfix k hk i hi v v6 hv
end
theorem domL_le {a b : Int} (ha : 0 ≤ a ∧ a ≤ 63) (hb : 0 ≤ b ∧ b ≤ 63) (h : ∀ v, v < 6 → hasB a v = true → hasB b v = true) : (domL a).length ≤ (domL b).length := by
  have key : ((List.range 64).all fun i => (List.range 64).all fun j => !((List.range 6).all fun v => !(hasB (i : Int) v) || hasB (j : Int) v) || decide ((domL (i : Int)).length ≤ (domL (j : Int)).length)) = true := by decide +kernel
  rw [List.all_eq_true] at key
  have k1 := key a.toNat (List.mem_range.2 (by omega))
  rw [List.all_eq_true] at k1
  have k2 := k1 b.toNat (List.mem_range.2 (by omega))
  rw [show ((a.toNat : Nat) : Int) = a by omega, show ((b.toNat : Nat) : Int) = b by omega] at k2
  have k3 : ((List.range 6).all fun v => !(hasB a v) || hasB b v) = true := by
    rw [List.all_eq_true]
    intro v hv
    have := h v (by simpa using hv)
    cases e : hasB a v
    · rfl
    · rw [this e]; rfl
  rw [k3] at k2
  simpa using k2
theorem tsK_le {a b : List Int} (h : SubD a b) (ha : DomL a) (hb : DomL b) : ∀ k, k ≤ a.length → tsK a k ≤ tsK b k
  | 0, _ => Int.le_refl _
  | k + 1, hk => by
    have ih := tsK_le h ha hb k (by omega)
    have := domL_le (ha k (by omega)) (hb k (by have := h.len; omega)) (fun v hv hh => h.sub k (by omega) v hv hh)
    rw [tsK, tsK]
    omega
theorem tot_le {a b : List Int} (h : SubD a b) (ha : DomL a) (hb : DomL b) : tsK a a.length ≤ tsK b b.length := by
  have := tsK_le h ha hb a.length (Nat.le_refl _)
  rw [show b.length = a.length from h.len.symm]
  exact this
end Go.Proofs.YtkjbefokgmiehaaGreatDoor
