/- What removals leave; explanations by more removals; least explanations: plain Lean. -/
import Derived.Test.YtmfbdaocnijnpaaShrM
import Derived.Test.YtmfbdaocnijnpaaExpA
namespace Go.Proofs.Ytmfbdaocnijnpaa
open Go.RowKit

theorem has63 {v : Nat} (hv : v < 6) : hasB 63 v = true := by
  obtain rfl | rfl | rfl | rfl | rfl | rfl : v = 0 ∨ v = 1 ∨ v = 2 ∨ v = 3 ∨ v = 4 ∨ v = 5 := by omega
  all_goals rfl
/-- What removals leave. -/
theorem resK_has {n : Nat} {rs : List Rm} (h : okRms rs n = true) {x v : Nat} (hx : x < n) (hv : v < 6) : ∀ k, k ≤ rs.length → (hasB (at0 (resK n rs k) x) v = true ↔ ∀ j, j < k → ¬ (rmX rs j = x ∧ rmV rs j = v))
  | 0, _ => by
    rw [resK, at0_rep _ _ hx]
    exact ⟨fun _ j hj => absurd hj (by omega), fun _ => has63 hv⟩
  | k + 1, hk => by
    have ih := resK_has h hx hv k (by omega)
    obtain ⟨h1, h2⟩ := resK_ok h k (by omega)
    obtain ⟨X, V, hX, hV, hXn, hV6⟩ := okRms_nat h (k := k) (by omega)
    rw [resK, hX, hV, Int.toNat_natCast, Int.toNat_natCast, at0_set _ _ _ _ (by omega)]
    by_cases e : x = X
    · subst e
      rw [if_pos rfl]
      have hd := h2 x (by omega)
      rw [delV_has hd.1 hd.2 hV6 hv, Bool.and_eq_true, ih]
      constructor
      · rintro ⟨a, b⟩ j hj
        by_cases ej : j = k
        · subst ej
          rw [hX, hV]
          simp at b
          omega
        · exact a j (by omega)
      · intro a
        refine ⟨fun j hj => a j (by omega), ?_⟩
        have := a k (by omega)
        rw [hX, hV] at this
        simp
        omega
    · rw [if_neg (by omega), ih]
      constructor
      · intro a j hj
        by_cases ej : j = k
        · subst ej; rw [hX]; omega
        · exact a j (by omega)
      · exact fun a j hj => a j (by omega)
theorem rm_mem {rs : List Rm} {x v : Int} : (∃ j, j < rs.length ∧ rmX rs j = x ∧ rmV rs j = v) ↔ (⟨x, v⟩ : Rm) ∈ rs := by
  constructor
  · rintro ⟨j, hj, e1, e2⟩
    have : rm0 rs j = ⟨x, v⟩ := by
      have h1 : (rm0 rs j).x = x := e1
      have h2 : (rm0 rs j).v = v := e2
      cases h : rm0 rs j with
      | mk a b => rw [h] at h1 h2; cases h1; cases h2; rfl
    rw [← this]
    unfold rm0
    rw [getD_lt _ _ hj]
    exact List.getElem_mem hj
  · intro h
    obtain ⟨j, hj, e⟩ := List.mem_iff_getElem.1 h
    refine ⟨j, hj, ?_, ?_⟩
    · unfold rmX rm0; rw [getD_lt _ _ hj, e]
    · unfold rmV rm0; rw [getD_lt _ _ hj, e]
theorem resL_has {n : Nat} {rs : List Rm} (h : okRms rs n = true) {x v : Nat} (hx : x < n) (hv : v < 6) : hasB (at0 (resL n rs) x) v = true ↔ (⟨(x : Int), (v : Int)⟩ : Rm) ∉ rs := by
  rw [resL, resK_has h hx hv _ (Nat.le_refl _), ← rm_mem]
  constructor
  · rintro a ⟨j, hj, e⟩; exact a j hj e
  · intro a j hj e; exact a ⟨j, hj, e⟩
/-- More removals explain as much. -/
theorem expl_more {c : Con} {n : Nat} (hc : vCon c n = true) {rs rs' : List Rm} (h : okRms rs n = true) (h' : okRms rs' n = true) (hs : ∀ x ∈ rs, x ∈ rs') {r : Rm} (hr : okRm r n = true) (he : explB c n rs r = true) : explB c n rs' r = true := by
  obtain ⟨l1, d1⟩ := okFull rs h
  obtain ⟨l2, d2⟩ := okFull rs' h'
  have hsub : SubD (resL n rs') (resL n rs) := ⟨l2.trans l1.symm, fun u hu v hv hh => by
    rw [l2] at hu
    rw [resL_has h' hu hv] at hh
    rw [resL_has h hu hv]
    exact fun hm => hh (hs _ hm)⟩
  have hvar : VarOK c.vars (resL n rs').length := by rw [l2]; exact vCon_var hc
  have hm := filtP_mono (p := satB c) hvar hsub
  obtain ⟨x, v, e1, e2, hx, hv⟩ := okRm_nat hr
  unfold explB at he ⊢
  rw [e1, e2, Int.toNat_natCast, Int.toNat_natCast] at he ⊢
  rw [Bool.not_eq_true'] at he ⊢
  cases hq : hasB (at0 (filtL c (resL n rs')) x) v with
  | false => rfl
  | true =>
    have := hm.sub x (by rw [filtP_len, l2]; exact hx) v hv hq
    have he' : hasB (at0 (filtP (satB c) c.vars (resL n rs)) x) v = false := he
    rw [he'] at this; cases this
/-- FnIsExplanation. -/
theorem expV_more {c : Con} {n : Nat} {rs : List Rm} {r e : Rm} (h : expV c n rs r = true) (hl : rs.length < 24) (he : okRm e n = true) : expV c n (rs ++ [e]) r = true := by
  simp only [expV, Bool.and_eq_true] at h ⊢
  obtain ⟨h1, h2, h3, h4⟩ := h
  rw [Int.toNat_natCast] at h4 ⊢
  have h5 : okRms (rs ++ [e]) n = true := by
    rw [okRms_iff] at h2 ⊢
    refine ⟨fun x hx => ?_, by simp; omega⟩
    rcases List.mem_append.1 hx with hx | hx
    · exact h2.1 x hx
    · simp at hx; subst hx; exact he
  exact ⟨h1, h5, h3, expl_more h1 h2 h5 (fun x hx => List.mem_append_left _ hx) h3 h4⟩
theorem rmI0_in (d : Int) (i : Nat) : ∀ k (v : Nat), (⟨(i : Int), (v : Int)⟩ : Rm) ∈ rmI0 d i k ↔ v < k ∧ hasB d v = false
  | 0, v => by simp [rmI0]
  | k + 1, v => by
    rw [rmI0]
    have ih := rmI0_in d i k v
    cases hk : hasB d k with
    | true =>
      rw [if_pos rfl, ih]
      constructor
      · rintro ⟨a, b⟩; exact ⟨by omega, b⟩
      · rintro ⟨a, b⟩
        by_cases e : v = k
        · subst e; rw [hk] at b; cases b
        · exact ⟨by omega, b⟩
    | false =>
      rw [if_neg (by simp), List.mem_append, ih]
      constructor
      · rintro (⟨a, b⟩ | h)
        · exact ⟨by omega, b⟩
        · have e : v = k := by simp at h; omega
          subst e
          exact ⟨by omega, hk⟩
      · rintro ⟨a, b⟩
        by_cases e : v = k
        · subst e; right; simp
        · left; exact ⟨by omega, b⟩
theorem rmA0_in (ds : List Int) : ∀ k (i v : Nat), (⟨(i : Int), (v : Int)⟩ : Rm) ∈ rmA0 ds k ↔ i < k ∧ v < 6 ∧ hasB (at0 ds i) v = false
  | 0, i, v => by simp [rmA0]
  | k + 1, i, v => by
    rw [rmA0, List.mem_append, rmA0_in ds k i v]
    by_cases e : i = k
    · subst e
      rw [rmI0_in]
      constructor
      · rintro (h | h)
        · omega
        · exact ⟨by omega, h⟩
      · rintro ⟨-, h⟩; exact .inr h
    · constructor
      · rintro (h | h)
        · exact ⟨by omega, h.2⟩
        · have := rmI0_mem _ _ 6 _ h; simp only at this; omega
      · rintro ⟨h1, h2⟩; exact .inl ⟨by omega, h2⟩
theorem rmA_in (ds : List Int) (r : Rm) (k i v : Nat) : (⟨(i : Int), (v : Int)⟩ : Rm) ∈ rmA ds r k ↔ (i < k ∧ v < 6 ∧ hasB (at0 ds i) v = false) ∧ ¬ ((i : Int) = r.x ∧ (v : Int) = r.v) := by
  rw [← rmA_filter, List.mem_filter, rmA0_in]
  refine and_congr_right fun _ => ?_
  unfold neR
  simp only [Bool.not_eq_true', Bool.and_eq_false_iff, beq_eq_false_iff_ne, ne_eq]
  omega
/-- FnExplainFilter: where the domain has the value, all the other removals leave the domains as they are. -/
theorem expl_filter {c : Con} {ds : List Int} (h1 : 1 ≤ ds.length) (h4 : ds.length ≤ 4) (hd : DomL ds) (hc : vCon c ds.length = true) {r : Rm} (hr : okRm r ds.length = true) (hh : hasB (at0 ds r.x.toNat) r.v.toNat = true) :
    xplB c ds r = !hasB (at0 (filtL c ds) r.x.toNat) r.v.toNat := by
  have hok := rmA_ok ds r ds.length h4
  obtain ⟨l1, d1⟩ := okFull _ hok
  obtain ⟨x, v, e1, e2, hx, hv⟩ := okRm_nat hr
  rw [e1, e2, Int.toNat_natCast, Int.toNat_natCast] at hh
  have e : resL ds.length (rmA ds r ds.length) = ds := SubD.antisymm d1 hd
    ⟨l1, fun u hu w hw hq => by
      rw [l1] at hu
      rw [resL_has hok hu hw, rmA_in] at hq
      cases hz : hasB (at0 ds u) w with
      | true => rfl
      | false =>
        exfalso
        apply hq
        refine ⟨⟨hu, hw, hz⟩, fun hxx => ?_⟩
        rw [e1, e2] at hxx
        obtain ⟨rfl, rfl⟩ : u = x ∧ w = v := by omega
        rw [hh] at hz; cases hz⟩
    ⟨l1.symm, fun u hu w hw hq => by
      rw [resL_has hok hu hw, rmA_in]
      rintro ⟨⟨-, -, hz⟩, -⟩
      rw [hq] at hz; cases hz⟩
  have hx1 : xplOk c ds r = true := by
    rw [xplOk, hc, hr]
    have : allR ds 0 63 = true := allR_of (fun j hj => by have := hd j hj; simp [inR]; omega)
    rw [this]
    simp [inR]; omega
  rw [xplB, hx1, Bool.true_and]
  unfold explB
  rw [e]
/-- FnExplain. -/
theorem xpl_all {c : Con} {ds : List Int} {r : Rm} (h : xplB c ds r = true) : expV c ds.length (xplL c ds r) r = true ∧ (∀ j, j < (xplL c ds r).length → expV c ds.length ((xplL c ds r).eraseIdx j) r = false) ∧
    (∀ j, j < (xplL c ds r).length → ∃ x v : Nat, rm0 (xplL c ds r) j = ⟨x, v⟩ ∧ x < ds.length ∧ v < 6 ∧ hasB (at0 ds x) v = false ∧ ¬ ((x : Int) = r.x ∧ (v : Int) = r.v)) ∧ (xplL c ds r).length ≤ 24 ∧ 1 ≤ ds.length ∧ ds.length ≤ 4 := by
  have h0 := h
  rw [xplB, Bool.and_eq_true] at h
  obtain ⟨hk, he⟩ := h
  obtain ⟨n1, n4, hd⟩ := xplOk_len hk
  have hk2 := hk
  simp only [xplOk, Bool.and_eq_true] at hk2
  obtain ⟨-, hc, hr⟩ := hk2
  have hok := rmA_ok ds r ds.length n4
  have e := xplL_yes h0
  obtain ⟨q1, q2, q3⟩ := shr_min (p := fun l => explB c ds.length l r) (G := fun l => okRms l ds.length = true)
    (fun l i h => okRms_erase i h)
    (fun l i h hp => expl_more hc (okRms_erase i h) h (fun x hx => List.mem_of_mem_eraseIdx hx) hr hp)
    (rmA ds r ds.length).length 0 _ hok he (by omega) (fun j hj => absurd hj (by omega))
  rw [← e] at q1 q2 q3
  have ho : okRms (xplL c ds r) ds.length = true := by rw [e]; exact shr_G (G := fun l => okRms l ds.length = true) (fun l i h => okRms_erase i h) _ _ _ hok
  refine ⟨?_, fun j hj => ?_, fun j hj => ?_, (okRms_iff.1 ho).2, n1, n4⟩
  · rw [expV, hc, ho, hr, Int.toNat_natCast, q1]; rfl
  · rw [expV, Int.toNat_natCast, q2 j hj]; simp
  · have hm : rm0 (xplL c ds r) j ∈ xplL c ds r := by unfold rm0; rw [getD_lt _ _ hj]; exact List.getElem_mem hj
    have hm2 := q3 _ hm
    obtain ⟨a1, a2, a3, a4⟩ := rmA0_mem ds ds.length _ (List.mem_filter.1 (by rw [rmA_filter]; exact hm2)).1
    obtain ⟨x, hx⟩ : ∃ x : Nat, (rm0 (xplL c ds r) j).x = x := ⟨(rm0 (xplL c ds r) j).x.toNat, by omega⟩
    obtain ⟨v, hv⟩ : ∃ v : Nat, (rm0 (xplL c ds r) j).v = v := ⟨(rm0 (xplL c ds r) j).v.toNat, by omega⟩
    have er : rm0 (xplL c ds r) j = ⟨x, v⟩ := by
      cases hq : rm0 (xplL c ds r) j with
      | mk a b => rw [hq] at hx hv; cases hx; cases hv; rfl
    rw [er, rmA_in] at hm2
    exact ⟨x, v, er, hm2.1.1, hm2.1.2.1, hm2.1.2.2, hm2.2⟩
end Go.Proofs.Ytmfbdaocnijnpaa
