/- Refutation: what the law says of it, in plain Lean. -/
import Derived.Test.YtgpbmggfpbebmaaGreatNgW
import Derived.Test.YtgpbmggfpbebmaaGreatLwX
namespace Go.Proofs.YtgpbmggfpbebmaaGreat
open Go.RowKit

theorem has_some {d : Int} (h0 : 0 < d) (h1 : d ≤ 63) : ∃ v : Nat, v < 6 ∧ hasB d v = true := by
  have key : ∀ n : Fin 64, 0 < n.val → ∃ v : Fin 6, hasB (n.val : Int) v.val = true := by decide
  obtain ⟨v, hv⟩ := key ⟨d.toNat, by omega⟩ (by show 0 < d.toNat; omega)
  refine ⟨v.val, v.isLt, ?_⟩
  rw [show d = ((d.toNat : Nat) : Int) by omega]
  exact hv
section
variable {cs : List Con} {n : Nat}
theorem ltT_iff {x : List Int} {ls : List Lt} {i : Nat} (h : ltT x ls i = true) : (ltN ls i = false → at0 x (ltX ls i).toNat = ltV ls i) ∧ (ltN ls i = true → at0 x (ltX ls i).toNat ≠ ltV ls i) := by
  unfold ltT at h
  cases hn : ltN ls i <;> rw [hn] at h <;> simpa using h
theorem allT_at {x : List Int} {ls : List Lt} (h : allT x ls = true) {i : Nat} (hi : i < ls.length) : ltT x ls i = true := by
  unfold allT at h
  rw [Bool.not_eq_true', anyB_false] at h
  simpa using h i hi
/-- A list that makes the literals true lies in the domains that they leave. -/
theorem allT_resC {ds : List Int} (h : GoodD cs n ds) {ls : List Lt} (hc : okCl ls n = true) {x : List Int} (hx : x ∈ tups ds) (ha : allT x ls = true) : ∀ k, k ≤ ls.length → x ∈ tups (resC ds ls k)
  | 0, _ => hx
  | k + 1, hk => by
    have ih := allT_resC h hc hx ha k (by omega)
    obtain ⟨hg, -⟩ := resC_good h hc k (by omega)
    obtain ⟨X, V, hX, hV, hXn, hV6⟩ := okCl_lt hc (i := k) (by omega)
    obtain ⟨h1, h2⟩ := (tups_in _ _).1 ih
    have hl := ltT_iff (allT_at ha (i := k) (by omega))
    rw [hX, Int.toNat_natCast] at hl
    have hlv : (lt0 ls k).v.toNat = V := by show (ltV ls k).toNat = V; omega
    rw [resC, hX, Int.toNat_natCast]
    refine (tups_in _ _).2 ⟨by rw [List.length_set]; exact h1, fun i hi => ?_⟩
    rw [List.length_set] at hi
    obtain ⟨v, v6, hv, hb⟩ := h2 i hi
    refine ⟨v, v6, hv, ?_⟩
    by_cases hiX : i = X
    · subst hiX
      rw [show at0 ((resC ds ls k).set i (andL (at0 (resC ds ls k) i) (lt0 ls k))) i = andL (at0 (resC ds ls k) i) (lt0 ls k) by simp [at0, hi]]
      obtain ⟨d0, d1⟩ := hg.2.1 i hi
      unfold andL
      cases hn : (lt0 ls k).n with
      | true =>
        rw [if_pos rfl, hlv, delV_has d0 d1 hV6 v6, hb]
        have := hl.2 hn
        rw [hv, hV] at this
        simp; omega
      | false =>
        rw [if_neg (by simp), hlv, andV_has d0 d1 hV6 v6, hb]
        have := hl.1 hn
        rw [hv, hV] at this
        simp; omega
    · rw [show at0 ((resC ds ls k).set X (andL (at0 (resC ds ls k) X) (lt0 ls k))) i = at0 (resC ds ls k) i by simp [at0, List.getD_eq_getElem?_getD, List.getElem?_set_ne (Ne.symm hiX)]]
      exact hb
theorem solL_in {ds x : List Int} : x ∈ solL cs ds ↔ x ∈ tups ds ∧ okAll cs x = true := by unfold solL; exact List.mem_filter
/-- What is refuted is a nogood. -/
theorem ng_of_rft {ds : List Int} (h : GoodD cs n ds) (h4 : n ≤ 4) {ls : List Lt} (hc : okCl ls n = true) (hr : rftB cs ds ls = true) : ngB cs ds ls = true := by
  unfold ngB
  rw [Bool.not_eq_true', anyB_false]
  intro i hi
  cases hT : allT (rw0 (solL cs ds) i) ls with
  | false => rfl
  | true =>
    have hm : rw0 (solL cs ds) i ∈ solL cs ds := by
      unfold rw0
      rw [List.getD_eq_getElem?_getD, List.getElem?_eq_getElem hi]
      exact List.getElem_mem hi
    obtain ⟨h1, h2⟩ := solL_in.1 hm
    have h3 : rw0 (solL cs ds) i ∈ solL cs (resCL ds ls) := solL_in.2 ⟨allT_resC h hc h1 hT _ (Nat.le_refl _), h2⟩
    rw [← solL_prop (rft_good h hc) h4] at h3
    have h4 := (solL_in.1 h3).1
    rw [tups_empty hr] at h4
    cases h4
/-- The program's test of a value. -/
def xF (ds : List Int) (ls : List Lt) (i : Nat) (x : List Int) : List Int := if decide (ltX ls i = x.length) && (!ltN ls i && hasD (at0 ds x.length) (ltV ls i)) then x ++ [ltV ls i] else x
def xK (ds : List Int) (ls : List Lt) : Nat → List Int
  | 0 => []
  | i + 1 => xF ds ls i (xK ds ls i)
theorem xF_len (ds : List Int) (ls : List Lt) (i : Nat) (x : List Int) : x.length ≤ (xF ds ls i x).length ∧ (xF ds ls i x).length ≤ x.length + 1 := by
  unfold xF; split <;> simp
theorem xK_len (ds : List Int) (ls : List Lt) (i : Nat) : ∀ m, (xK ds ls (i + m)).length ≤ (xK ds ls i).length + m
  | 0 => Nat.le_refl _
  | m + 1 => by have := xK_len ds ls i m; have := (xF_len ds ls (i + m) (xK ds ls (i + m))).2; rw [← Nat.add_assoc, xK]; omega
theorem xK_le (ds : List Int) (ls : List Lt) (i : Nat) : (xK ds ls i).length ≤ i := by have := xK_len ds ls 0 i; rw [Nat.zero_add] at this; simpa [xK] using this
/-- As many values as literals: each literal gives the value of its variable. -/
theorem xK_full {ds : List Int} {ls : List Lt} (h : (xK ds ls ls.length).length = ls.length) : ∀ i, i ≤ ls.length → (xK ds ls i).length = i ∧ ∀ j, j < i → ltX ls j = j ∧ ltN ls j = false ∧ hasD (at0 ds j) (ltV ls j) = true ∧ at0 (xK ds ls i) j = ltV ls j
  | 0, _ => ⟨rfl, fun j hj => absurd hj (by omega)⟩
  | i + 1, hi => by
    obtain ⟨h1, h2⟩ := xK_full h i (by omega)
    have h3 : (xK ds ls (i + 1)).length = i + 1 := by
      have a := xK_len ds ls (i + 1) (ls.length - (i + 1))
      rw [show i + 1 + (ls.length - (i + 1)) = ls.length by omega] at a
      have b := xK_le ds ls (i + 1)
      omega
    refine ⟨h3, fun j hj => ?_⟩
    rw [xK, xF] at h3 ⊢
    split at h3
    · rename_i ht
      rw [if_pos ht]
      rw [h1] at ht
      simp only [Bool.and_eq_true, decide_eq_true_eq, Bool.not_eq_true'] at ht
      by_cases hji : j < i
      · obtain ⟨a, b, c, d⟩ := h2 j hji
        refine ⟨a, b, c, ?_⟩
        rw [show at0 (xK ds ls i ++ [ltV ls i]) j = at0 (xK ds ls i) j by simp [at0, List.getElem?_append_left (show j < (xK ds ls i).length by omega)]]
        exact d
      · obtain rfl : j = i := by omega
        refine ⟨ht.1, ht.2.1, ht.2.2, ?_⟩
        rw [show at0 (xK ds ls j ++ [ltV ls j]) j = at0 (xK ds ls j ++ [ltV ls j]) (xK ds ls j).length by rw [h1]]
        simp [at0]
    · omega
/-- The domains that full literals leave hold just one list. -/
theorem resC_full {ds : List Int} (h : GoodD cs n ds) {ls : List Lt} (hc : okCl ls n = true) (hl : (xK ds ls ls.length).length = ls.length) (hn : ls.length = n) :
    xK ds ls ls.length ∈ tups ds ∧ xK ds ls ls.length ∈ tups (resCL ds ls) ∧ ∀ y, y ∈ tups (resCL ds ls) → y = xK ds ls ls.length := by
  obtain ⟨-, hF⟩ := xK_full hl ls.length (Nat.le_refl _)
  have hx : xK ds ls ls.length ∈ tups ds := (tups_in _ _).2 ⟨by rw [hl, hn, h.1], fun i hi => by
    obtain ⟨-, -, c, d⟩ := hF i (by rw [hn, ← h.1]; exact hi)
    obtain ⟨u, u6, hu, hb⟩ := hasD_iff c
    exact ⟨u, u6, by rw [d, hu], hb⟩⟩
  have ha : allT (xK ds ls ls.length) ls = true := by
    unfold allT
    rw [Bool.not_eq_true', anyB_false]
    intro i hi
    obtain ⟨a, b, -, d⟩ := hF i hi
    unfold ltT
    rw [a, b, Int.toNat_natCast, d]
    simp
  refine ⟨hx, allT_resC h hc hx ha _ (Nat.le_refl _), fun y hy => ?_⟩
  have hg := rft_good h hc
  obtain ⟨h1, h2⟩ := (tups_in _ _).1 hy
  have hyl : y.length = n := by rw [h1, hg.1]
  refine at0_ext (by rw [hyl, hl, hn]) fun u hu => ?_
  have key : ∀ k, k ≤ ls.length → u < k → hasB (at0 (resC ds ls k) u) (at0 y u).toNat = true → at0 y u = ltV ls u := by
    intro k
    induction k with
    | zero => intro _ h0; omega
    | succ k ih =>
      intro hk huk hb
      obtain ⟨hgk, -⟩ := resC_good h hc k (by omega)
      obtain ⟨a, b, -, -⟩ := hF k (by omega)
      rw [resC, a, Int.toNat_natCast] at hb
      by_cases huk2 : u = k
      · subst huk2
        have hul : u < (resC ds ls u).length := by rw [hgk.1]; omega
        rw [show at0 ((resC ds ls u).set u (andL (at0 (resC ds ls u) u) (lt0 ls u))) u = andL (at0 (resC ds ls u) u) (lt0 ls u) by simp [at0, hul]] at hb
        obtain ⟨v, v6, hv, -⟩ := h2 u (by rw [hg.1]; omega)
        obtain ⟨X, V, hX, hV, hXn, hV6⟩ := okCl_lt hc (i := u) (by omega)
        obtain ⟨d0, d1⟩ := hgk.2.1 u hul
        have hlv : (lt0 ls u).v.toNat = V := by show (ltV ls u).toNat = V; omega
        unfold andL at hb
        rw [if_neg (by show ¬ ltN ls u = true; rw [b]; simp), hlv, hv, Int.toNat_natCast, andV_has d0 d1 hV6 v6, Bool.and_eq_true, beq_iff_eq] at hb
        rw [hv, hV, hb.2]
      · rw [show at0 ((resC ds ls k).set k (andL (at0 (resC ds ls k) k) (lt0 ls k))) u = at0 (resC ds ls k) u by simp [at0, List.getD_eq_getElem?_getD, List.getElem?_set_ne (Ne.symm huk2)]] at hb
        exact ih (by omega) (by omega) hb
  obtain ⟨v, v6, hv, hb⟩ := h2 u (by rw [hg.1, ← hyl]; exact hu)
  rw [(hF u (by rw [hn, ← hyl]; exact hu)).2.2.2]
  exact key ls.length (Nat.le_refl _) (by rw [hn, ← hyl]; exact hu) (by rw [hv, Int.toNat_natCast]; exact hb)
/-- With all variables given, refuted is the contrary of satisfied. -/
theorem rft_full {ds : List Int} (h : GoodD cs n ds) (h4 : n ≤ 4) (h0 : 0 < n) {ls : List Lt} (hc : okCl ls n = true) (hl : (xK ds ls ls.length).length = ls.length) (hn : ls.length = n) : rftB cs ds ls = !okAll cs (xK ds ls ls.length) := by
  obtain ⟨hx, hxr, hone⟩ := resC_full h hc hl hn
  have hg := rft_good h hc
  have hP := propL_R hg h4
  unfold rftB
  cases ho : okAll cs (xK ds ls ls.length) with
  | true =>
    have h1 : xK ds ls ls.length ∈ solL cs (propL cs (resCL ds ls)) := by rw [solL_prop hg h4]; exact solL_in.2 ⟨hxr, ho⟩
    cases hh : hasI (propL cs (resCL ds ls)) 0 with
    | false => rfl
    | true =>
      have h2 := (solL_in.1 h1).1
      rw [tups_empty hh] at h2
      cases h2
  | false =>
    rcases hP.cas with hz | ⟨hh, hst⟩
    · rw [hz]
      exact hasI_iff.2 ⟨0, by rw [zer_len]; exact h0, zer_at _ _⟩
    · exfalso
      have hd1 : ∀ i, i < (propL cs (resCL ds ls)).length → (domL (at0 (propL cs (resCL ds ls)) i)).length = 1 := by
        intro i hi
        have hpos : 0 < (domL (at0 (propL cs (resCL ds ls)) i)).length := by
          rcases Nat.eq_zero_or_pos (domL (at0 (propL cs (resCL ds ls)) i)).length with h0 | h0
          · exfalso
            have he : domL (at0 (propL cs (resCL ds ls)) i) = [] := List.length_eq_zero_iff.1 h0
            have hz : at0 (propL cs (resCL ds ls)) i ≠ 0 := fun e => by
              have := hasI_iff.2 ⟨i, hi, e⟩
              rw [hh] at this; cases this
            obtain ⟨b0, b1⟩ := hP.good.2.1 i hi
            obtain ⟨v, v6, hv⟩ := has_some (d := at0 (propL cs (resCL ds ls)) i) (by omega) b1
            have := (domL_in _ v).2 ⟨v6, hv⟩
            rw [he] at this; cases this
          · exact h0
        rcases Nat.lt_or_ge 1 (domL (at0 (propL cs (resCL ds ls)) i)).length with h2 | h2
        · exfalso
          have e1 : ∀ t, t < (domL (at0 (propL cs (resCL ds ls)) i)).length → at0 (domL (at0 (propL cs (resCL ds ls)) i)) t = at0 (xK ds ls ls.length) i := by
            intro t ht
            obtain ⟨a, ha, a6⟩ := domL_val _ ht
            have hb := domL_at _ ht
            rw [ha, Int.toNat_natCast] at hb
            have hb2 := hP.sub.sub i hi a a6 hb
            have hil : i < (resCL ds ls).length := by rw [← hP.sub.len]; exact hi
            have hy : (xK ds ls ls.length).set i a ∈ tups (resCL ds ls) := by
              obtain ⟨q1, q2⟩ := (tups_in _ _).1 hxr
              refine (tups_in _ _).2 ⟨by rw [List.length_set]; exact q1, fun j hj => ?_⟩
              by_cases hji : j = i
              · subst hji
                exact ⟨a, a6, by simp [at0, q1, hj], hb2⟩
              · obtain ⟨v, c1, c2, c3⟩ := q2 j hj
                exact ⟨v, c1, by rw [← c2]; simp [at0, List.getD_eq_getElem?_getD, List.getElem?_set_ne (Ne.symm hji)], c3⟩
            have he := hone _ hy
            have q1 := ((tups_in _ _).1 hxr).1
            rw [ha, ← he]
            simp [at0, q1, hil]
          have := domL_lt (at0 (propL cs (resCL ds ls)) i) (i := 0) (j := 1) (by omega) h2
          rw [e1 0 (by omega), e1 1 h2] at this
          omega
        · omega
      have hs := sol_leaf hP.good hst hd1
      have hm : (propL cs (resCL ds ls)).map (fun e => at0 (domL e) 0) ∈ solL cs (propL cs (resCL ds ls)) := by rw [hs]; simp
      rw [solL_prop hg h4] at hm
      obtain ⟨m1, m2⟩ := solL_in.1 hm
      rw [hone _ m1, ho] at m2
      cases m2
end
end Go.Proofs.YtgpbmggfpbebmaaGreat
