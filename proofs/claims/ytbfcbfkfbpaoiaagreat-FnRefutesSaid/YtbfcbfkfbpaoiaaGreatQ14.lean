/- Refutation: what the law says of it, in plain Lean. -/
import Derived.Test.YtbfcbfkfbpaoiaaGreatNgW
import Derived.Test.YtbfcbfkfbpaoiaaGreatQ5
import Derived.Test.YtbfcbfkfbpaoiaaGreatQ11
import Derived.Test.YtbfcbfkfbpaoiaaGreatRfS
import Derived.Deep.CutBlock
import Derived.Deep.DeepCutAuto
namespace Go.Proofs.YtbfcbfkfbpaoiaaGreat
open Go.RowKit

theorem has_some {d : Int} (h0 : 0 < d) (h1 : d ≤ 63) : ∃ v : Nat, v < 6 ∧ hasB d v = true := by
  have key : ∀ n : Fin 64, 0 < n.val → ∃ v : Fin 6, hasB (n.val : Int) v.val = true := by decide
  obtain ⟨v, hv⟩ := key ⟨d.toNat, by omega⟩ (by show 0 < d.toNat; omega)
  refine ⟨v.val, v.isLt, ?_⟩
  rw [show d = ((d.toNat : Nat) : Int) by omega]
  exact hv
section
variable {cs : List Con} {n : Nat}
theorem ltT_iff {x : List Int} {ls : List Lt} {i : Nat} (h : ltT x ls i = true) : (ltN ls i = false → at0 x (ltX ls i).toNat = ltV ls i) ∧ (ltN ls i = true → at0 x (ltX ls i).toNat ≠ ltV ls i) := by
  unfold ltT at h
  cases hn : ltN ls i <;> rw [hn] at h <;> simpa using h
theorem allT_at {x : List Int} {ls : List Lt} (h : allT x ls = true) {i : Nat} (hi : i < ls.length) : ltT x ls i = true := by
  unfold allT at h
  rw [Bool.not_eq_true', anyB_false] at h
  simpa using h i hi
/-- A list that makes the literals true lies in the domains that they leave. -/
theorem allT_resC {ds : List Int} (h : GoodD cs n ds) {ls : List Lt} (hc : okCl ls n = true) {x : List Int} (hx : x ∈ tups ds) (ha : allT x ls = true) : ∀ k, k ≤ ls.length → x ∈ tups (resC ds ls k)
  | 0, _ => hx
  | k + 1, hk => by
    have ih := allT_resC h hc hx ha k (by omega)
    obtain ⟨hg, -⟩ := resC_good h hc k (by omega)
    obtain ⟨X, V, hX, hV, hXn, hV6⟩ := okCl_lt hc (i := k) (by omega)
    obtain ⟨h1, h2⟩ := (tups_in _ _).1 ih
    have hl := ltT_iff (allT_at ha (i := k) (by omega))
    rw [hX, Int.toNat_natCast] at hl
    have hlv : (lt0 ls k).v.toNat = V := by show (ltV ls k).toNat = V; omega
    rw [resC, hX, Int.toNat_natCast]
    refine (tups_in _ _).2 ⟨by rw [List.length_set]; exact h1, fun i hi => ?_⟩
    rw [List.length_set] at hi
    obtain ⟨v, v6, hv, hb⟩ := h2 i hi
    refine ⟨v, v6, hv, ?_⟩
    by_cases hiX : i = X
    · subst hiX
      rw [show at0 ((resC ds ls k).set i (andL (at0 (resC ds ls k) i) (lt0 ls k))) i = andL (at0 (resC ds ls k) i) (lt0 ls k) by simp [at0, hi]]
      obtain ⟨d0, d1⟩ := hg.2.1 i hi
      unfold andL
      cases hn : (lt0 ls k).n with
      | true =>
        rw [if_pos rfl, hlv, delV_has d0 d1 hV6 v6, hb]
        have := hl.2 hn
        rw [hv, hV] at this
        simp; omega
      | false =>
        rw [if_neg (by simp), hlv, andV_has d0 d1 hV6 v6, hb]
        have := hl.1 hn
        rw [hv, hV] at this
        simp; omega
    · rw [show at0 ((resC ds ls k).set X (andL (at0 (resC ds ls k) X) (lt0 ls k))) i = at0 (resC ds ls k) i by simp [at0, List.getD_eq_getElem?_getD, List.getElem?_set_ne (Ne.symm hiX)]]
      exact hb
theorem solL_in {ds x : List Int} : x ∈ solL cs ds ↔ x ∈ tups ds ∧ okAll cs x = true := by unfold solL; exact List.mem_filter
/-- What is refuted is a nogood. -/
theorem ng_of_rft {ds : List Int} (h : GoodD cs n ds) (h4 : n ≤ 4) {ls : List Lt} (hc : okCl ls n = true) (hr : rftB cs ds ls = true) : ngB cs ds ls = true := by
  unfold ngB
  rw [Bool.not_eq_true', anyB_false]
  intro i hi
  cases hT : allT (rw0 (solL cs ds) i) ls with
  | false => rfl
  | true =>
    have hm : rw0 (solL cs ds) i ∈ solL cs ds := by
      unfold rw0
      rw [List.getD_eq_getElem?_getD, List.getElem?_eq_getElem hi]
      exact List.getElem_mem hi
    obtain ⟨h1, h2⟩ := solL_in.1 hm
    have h3 : rw0 (solL cs ds) i ∈ solL cs (resCL ds ls) := solL_in.2 ⟨allT_resC h hc h1 hT _ (Nat.le_refl _), h2⟩
    rw [← solL_prop (rft_good h hc) h4] at h3
    have h4 := (solL_in.1 h3).1
    rw [tups_empty hr] at h4
    cases h4
/-- The program's test of a value. -/
def hasD (d v : Int) : Bool := vDom d && (inR v 0 5 && hasB d v.toNat)
def xF (ds : List Int) (ls : List Lt) (i : Nat) (x : List Int) : List Int := if decide (ltX ls i = x.length) && (!ltN ls i && hasD (at0 ds x.length) (ltV ls i)) then x ++ [ltV ls i] else x
def xK (ds : List Int) (ls : List Lt) : Nat → List Int
  | 0 => []
  | i + 1 => xF ds ls i (xK ds ls i)
theorem xF_len (ds : List Int) (ls : List Lt) (i : Nat) (x : List Int) : x.length ≤ (xF ds ls i x).length ∧ (xF ds ls i x).length ≤ x.length + 1 := by
  unfold xF; split <;> simp
theorem xK_len (ds : List Int) (ls : List Lt) (i : Nat) : ∀ m, (xK ds ls (i + m)).length ≤ (xK ds ls i).length + m
  | 0 => Nat.le_refl _
  | m + 1 => by have := xK_len ds ls i m; have := (xF_len ds ls (i + m) (xK ds ls (i + m))).2; rw [← Nat.add_assoc, xK]; omega
theorem xK_le (ds : List Int) (ls : List Lt) (i : Nat) : (xK ds ls i).length ≤ i := by have := xK_len ds ls 0 i; rw [Nat.zero_add] at this; simpa [xK] using this
/-- As many values as literals: each literal gives the value of its variable. -/
theorem xK_full {ds : List Int} {ls : List Lt} (h : (xK ds ls ls.length).length = ls.length) : ∀ i, i ≤ ls.length → (xK ds ls i).length = i ∧ ∀ j, j < i → ltX ls j = j ∧ ltN ls j = false ∧ hasD (at0 ds j) (ltV ls j) = true ∧ at0 (xK ds ls i) j = ltV ls j
  | 0, _ => ⟨rfl, fun j hj => absurd hj (by omega)⟩
  | i + 1, hi => by
    obtain ⟨h1, h2⟩ := xK_full h i (by omega)
    have h3 : (xK ds ls (i + 1)).length = i + 1 := by
      have a := xK_len ds ls (i + 1) (ls.length - (i + 1))
      rw [show i + 1 + (ls.length - (i + 1)) = ls.length by omega] at a
      have b := xK_le ds ls (i + 1)
      omega
    refine ⟨h3, fun j hj => ?_⟩
    rw [xK, xF] at h3 ⊢
    split at h3
    · rename_i ht
      rw [if_pos ht]
      rw [h1] at ht
      simp only [Bool.and_eq_true, decide_eq_true_eq, Bool.not_eq_true'] at ht
      by_cases hji : j < i
      · obtain ⟨a, b, c, d⟩ := h2 j hji
        refine ⟨a, b, c, ?_⟩
        rw [show at0 (xK ds ls i ++ [ltV ls i]) j = at0 (xK ds ls i) j by simp [at0, List.getElem?_append_left (show j < (xK ds ls i).length by omega)]]
        exact d
      · obtain rfl : j = i := by omega
        refine ⟨ht.1, ht.2.1, ht.2.2, ?_⟩
        rw [show at0 (xK ds ls j ++ [ltV ls j]) j = at0 (xK ds ls j ++ [ltV ls j]) (xK ds ls j).length by rw [h1]]
        simp [at0]
    · omega
theorem hasD_iff {d v : Int} (h : hasD d v = true) : ∃ u : Nat, u < 6 ∧ v = u ∧ hasB d u = true := by
  simp only [hasD, Bool.and_eq_true, inR, decide_eq_true_eq] at h
  obtain ⟨-, ⟨h1, h2⟩, h3⟩ := h
  exact ⟨v.toNat, by omega, by omega, h3⟩
/-- The domains that full literals leave hold just one list. -/
theorem resC_full {ds : List Int} (h : GoodD cs n ds) {ls : List Lt} (hc : okCl ls n = true) (hl : (xK ds ls ls.length).length = ls.length) (hn : ls.length = n) :
    xK ds ls ls.length ∈ tups ds ∧ xK ds ls ls.length ∈ tups (resCL ds ls) ∧ ∀ y, y ∈ tups (resCL ds ls) → y = xK ds ls ls.length := by
  obtain ⟨-, hF⟩ := xK_full hl ls.length (Nat.le_refl _)
  have hx : xK ds ls ls.length ∈ tups ds := (tups_in _ _).2 ⟨by rw [hl, hn, h.1], fun i hi => by
    obtain ⟨-, -, c, d⟩ := hF i (by rw [hn, ← h.1]; exact hi)
    obtain ⟨u, u6, hu, hb⟩ := hasD_iff c
    exact ⟨u, u6, by rw [d, hu], hb⟩⟩
  have ha : allT (xK ds ls ls.length) ls = true := by
    unfold allT
    rw [Bool.not_eq_true', anyB_false]
    intro i hi
    obtain ⟨a, b, -, d⟩ := hF i hi
    unfold ltT
    rw [a, b, Int.toNat_natCast, d]
    simp
  refine ⟨hx, allT_resC h hc hx ha _ (Nat.le_refl _), fun y hy => ?_⟩
  have hg := rft_good h hc
  obtain ⟨h1, h2⟩ := (tups_in _ _).1 hy
  have hyl : y.length = n := by rw [h1, hg.1]
  refine at0_ext (by rw [hyl, hl, hn]) fun u hu => ?_
  have key : ∀ k, k ≤ ls.length → u < k → hasB (at0 (resC ds ls k) u) (at0 y u).toNat = true → at0 y u = ltV ls u := by
    intro k
    induction k with
    | zero => intro _ h0; omega
    | succ k ih =>
      intro hk huk hb
      obtain ⟨hgk, -⟩ := resC_good h hc k (by omega)
      obtain ⟨a, b, -, -⟩ := hF k (by omega)
      rw [resC, a, Int.toNat_natCast] at hb
      by_cases huk2 : u = k
      · subst huk2
        have hul : u < (resC ds ls u).length := by rw [hgk.1]; omega
        rw [show at0 ((resC ds ls u).set u (andL (at0 (resC ds ls u) u) (lt0 ls u))) u = andL (at0 (resC ds ls u) u) (lt0 ls u) by simp [at0, hul]] at hb
        obtain ⟨v, v6, hv, -⟩ := h2 u (by rw [hg.1]; omega)
        obtain ⟨X, V, hX, hV, hXn, hV6⟩ := okCl_lt hc (i := u) (by omega)
        obtain ⟨d0, d1⟩ := hgk.2.1 u hul
        have hlv : (lt0 ls u).v.toNat = V := by show (ltV ls u).toNat = V; omega
        unfold andL at hb
        rw [if_neg (by show ¬ ltN ls u = true; rw [b]; simp), hlv, hv, Int.toNat_natCast, andV_has d0 d1 hV6 v6, Bool.and_eq_true, beq_iff_eq] at hb
        rw [hv, hV, hb.2]
      · rw [show at0 ((resC ds ls k).set k (andL (at0 (resC ds ls k) k) (lt0 ls k))) u = at0 (resC ds ls k) u by simp [at0, List.getD_eq_getElem?_getD, List.getElem?_set_ne (Ne.symm huk2)]] at hb
        exact ih (by omega) (by omega) hb
  obtain ⟨v, v6, hv, hb⟩ := h2 u (by rw [hg.1, ← hyl]; exact hu)
  rw [(hF u (by rw [hn, ← hyl]; exact hu)).2.2.2]
  exact key ls.length (Nat.le_refl _) (by rw [hn, ← hyl]; exact hu) (by rw [hv, Int.toNat_natCast]; exact hb)
/-- With all variables given, refuted is the contrary of satisfied. -/
theorem rft_full {ds : List Int} (h : GoodD cs n ds) (h4 : n ≤ 4) (h0 : 0 < n) {ls : List Lt} (hc : okCl ls n = true) (hl : (xK ds ls ls.length).length = ls.length) (hn : ls.length = n) : rftB cs ds ls = !okAll cs (xK ds ls ls.length) := by
  obtain ⟨hx, hxr, hone⟩ := resC_full h hc hl hn
  have hg := rft_good h hc
  have hP := propL_R hg h4
  unfold rftB
  cases ho : okAll cs (xK ds ls ls.length) with
  | true =>
    have h1 : xK ds ls ls.length ∈ solL cs (propL cs (resCL ds ls)) := by rw [solL_prop hg h4]; exact solL_in.2 ⟨hxr, ho⟩
    cases hh : hasI (propL cs (resCL ds ls)) 0 with
    | false => rfl
    | true =>
      have h2 := (solL_in.1 h1).1
      rw [tups_empty hh] at h2
      cases h2
  | false =>
    rcases hP.cas with hz | ⟨hh, hst⟩
    · rw [hz]
      exact hasI_iff.2 ⟨0, by rw [zer_len]; exact h0, zer_at _ _⟩
    · exfalso
      have hd1 : ∀ i, i < (propL cs (resCL ds ls)).length → (domL (at0 (propL cs (resCL ds ls)) i)).length = 1 := by
        intro i hi
        have hpos : 0 < (domL (at0 (propL cs (resCL ds ls)) i)).length := by
          rcases Nat.eq_zero_or_pos (domL (at0 (propL cs (resCL ds ls)) i)).length with h0 | h0
          · exfalso
            have he : domL (at0 (propL cs (resCL ds ls)) i) = [] := List.length_eq_zero_iff.1 h0
            have hz : at0 (propL cs (resCL ds ls)) i ≠ 0 := fun e => by
              have := hasI_iff.2 ⟨i, hi, e⟩
              rw [hh] at this; cases this
            obtain ⟨b0, b1⟩ := hP.good.2.1 i hi
            obtain ⟨v, v6, hv⟩ := has_some (d := at0 (propL cs (resCL ds ls)) i) (by omega) b1
            have := (domL_in _ v).2 ⟨v6, hv⟩
            rw [he] at this; cases this
          · exact h0
        rcases Nat.lt_or_ge 1 (domL (at0 (propL cs (resCL ds ls)) i)).length with h2 | h2
        · exfalso
          have e1 : ∀ t, t < (domL (at0 (propL cs (resCL ds ls)) i)).length → at0 (domL (at0 (propL cs (resCL ds ls)) i)) t = at0 (xK ds ls ls.length) i := by
            intro t ht
            obtain ⟨a, ha, a6⟩ := domL_val _ ht
            have hb := domL_at _ ht
            rw [ha, Int.toNat_natCast] at hb
            have hb2 := hP.sub.sub i hi a a6 hb
            have hil : i < (resCL ds ls).length := by rw [← hP.sub.len]; exact hi
            have hy : (xK ds ls ls.length).set i a ∈ tups (resCL ds ls) := by
              obtain ⟨q1, q2⟩ := (tups_in _ _).1 hxr
              refine (tups_in _ _).2 ⟨by rw [List.length_set]; exact q1, fun j hj => ?_⟩
              by_cases hji : j = i
              · subst hji
                exact ⟨a, a6, by simp [at0, q1, hj], hb2⟩
              · obtain ⟨v, c1, c2, c3⟩ := q2 j hj
                exact ⟨v, c1, by rw [← c2]; simp [at0, List.getD_eq_getElem?_getD, List.getElem?_set_ne (Ne.symm hji)], c3⟩
            have he := hone _ hy
            have q1 := ((tups_in _ _).1 hxr).1
            rw [ha, ← he]
            simp [at0, q1, hil]
          have := domL_lt (at0 (propL cs (resCL ds ls)) i) (i := 0) (j := 1) (by omega) h2
          rw [e1 0 (by omega), e1 1 h2] at this
          omega
        · omega
      have hs := sol_leaf hP.good hst hd1
      have hm : (propL cs (resCL ds ls)).map (fun e => at0 (domL e) 0) ∈ solL cs (propL cs (resCL ds ls)) := by rw [hs]; simp
      rw [solL_prop hg h4] at hm
      obtain ⟨m1, m2⟩ := solL_in.1 hm
      rw [hone _ m1, ho] at m2
      cases m2
end
end Go.Proofs.YtbfcbfkfbpaoiaaGreat
/- The program's test of an assignment, and of a value. -/
namespace Go.Proofs.YtbfcbfkfbpaoiaaGreat
open Go.RowKit

set_option maxHeartbeats 1000000 in
theorem DomainHasI_any (d v : Int) (w : World) :
    Calls Tryz.prog 9 #[.int .i64 d, .int .i64 v] w fun e w' => e = .returned (.bool (hasD d v)) ∧ w = w' := by
  cases hd : vDom d with
  | false =>
    have HR := hide (show hasD d v = false by rw [hasD, hd]; rfl)
    go_enter Tryz.func9, Tryz.ntmps9
    go_wp2_with (go_at_call 28; refine (ValidDomain_any _ _).mono ?_; rintro e w' ⟨rfl, rfl⟩; rw [hd])
    go_ret
    exact ⟨ret_b HR.out.symm, rfl⟩
  | true =>
    cases hv : inR v 0 5 with
    | false =>
      have HR := hide (show hasD d v = false by rw [hasD, hd, hv]; rfl)
      go_enter Tryz.func9, Tryz.ntmps9
      go_wp2_with (first | (go_at_call 28; refine (ValidDomain_any _ _).mono ?_; rintro e w' ⟨rfl, rfl⟩; rw [hd]) | (go_at_call 26; refine (valueOk_any _ _).mono ?_; rintro e w' ⟨rfl, rfl⟩; rw [hv]))
      go_ret
      exact ⟨ret_b HR.out.symm, rfl⟩
    | true =>
      have h1 : 0 ≤ d ∧ d ≤ 63 := by simp only [vDom, inR, Bool.and_eq_true, decide_eq_true_eq] at hd; omega
      have h2 : 0 ≤ v ∧ v ≤ 5 := by simp only [inR, Bool.and_eq_true, decide_eq_true_eq] at hv; omega
      obtain ⟨u, rfl⟩ : ∃ u : Nat, v = u := ⟨v.toNat, by omega⟩
      have HR := hide (show hasD d u = hasB d u by rw [hasD, hd, hv, Int.toNat_natCast]; rfl)
      go_enter Tryz.func9, Tryz.ntmps9
      go_wp2_with (first | (go_at_call 28; refine (ValidDomain_any _ _).mono ?_; rintro e w' ⟨rfl, rfl⟩; rw [hd]) | (go_at_call 26; refine (valueOk_any _ _).mono ?_; rintro e w' ⟨rfl, rfl⟩; rw [hv]) | (go_at_call 29; refine (has_any d u _ h1.1 (by omega) (by omega)).mono ?_; rintro e w' ⟨rfl, rfl⟩))
      go_ret
      exact ⟨ret_b HR.out.symm, rfl⟩
def solB (ds : List Int) (cs : List Con) (x : List Int) : Bool := vMod ds cs && ((decide ((x.length : Int) = ds.length) && allR x 0 5) && (memB ds x && okAll cs x))
theorem allR_val {x : List Int} (h : allR x 0 5 = true) : ValL x := fun i hi => by have := allR_at h hi; omega
set_option maxRecDepth 100000 in
set_option maxHeartbeats 4000000 in
theorem IsSolutionI_any (vd vc vx : Value) (ds : List Int) (cs : List Con) (x : List Int) (w : World) (hD : SInts w vd ds) (hC : SCons w vc cs) (hX : SInts w vx x) :
    Calls Tryz.prog 10 #[.agg #[vd, vc], vx] w (Ret (.bool (solB ds cs x)) w) := by
  have hD0 := hide hD
  have hC0 := hide hC
  have hX0 := hide hX
  obtain ⟨Ad, cd, rfl, -, hld⟩ := hD.form
  obtain ⟨Ac, cc, rfl, -, hlc⟩ := hC.form
  obtain ⟨Ax, cx, rfl, -, hlx⟩ := hX.form
  clear hD hC hX
  obtain ⟨w0, hw0⟩ : ∃ w0, w0 = w.alloc (.cells #[.slice Ad ds.length cd, .slice Ac cs.length cc] 26) := ⟨_, rfl⟩
  have hx0 : Ext w w0 := by rw [hw0]; exact (Ext.refl w).alloc _
  have k0 : w0.cell? ⟨w.heap.size, 0, none⟩ = some (.slice Ad ds.length cd) := by rw [hw0]; go_simp
  have k1 : w0.cell? ⟨w.heap.size, 1, none⟩ = some (.slice Ac cs.length cc) := by rw [hw0]; go_simp
  have ks : w.heap.size < w0.heap.size := by rw [hw0]; simp
  have HX0 := hide hx0
  clear hx0
  cases hm : vMod ds cs with
  | false =>
    have HR := hide (show solB ds cs x = false by rw [solB, hm]; rfl)
    go_enter Tryz.func10, Tryz.ntmps10
    go_wp2_with fail
    try rw [← hw0]
    clear hw0
    refine (ValidModelI_any _ _ ds cs _ (hD0.out.ext HX0.out) (hC0.out.ext HX0.out) (fun i _ => fits_all (con0 cs i))).mono ?_
    rintro e w1 ⟨rfl, hx1⟩
    rw [hm]
    have HX1 := hide (HX0.out.trans hx1)
    clear hx1
    go_wp2_with fail
    go_ret
    exact Ret.mk (ret_b HR.out.symm) HX1.out
  | true =>
    cases ha : (decide ((x.length : Int) = ds.length) && allR x 0 5) with
    | false =>
      have HR := hide (show solB ds cs x = false by rw [solB, hm, ha]; rfl)
      go_enter Tryz.func10, Tryz.ntmps10
      go_wp2_with fail
      try rw [← hw0]
      clear hw0
      refine (ValidModelI_any _ _ ds cs _ (hD0.out.ext HX0.out) (hC0.out.ext HX0.out) (fun i _ => fits_all (con0 cs i))).mono ?_
      rintro e w1 ⟨rfl, hx1⟩
      rw [hm]
      have k0 := (hx1.cells _ _ ks).trans k0
      have k1 := (hx1.cells _ _ ks).trans k1
      have HX1 := hide (HX0.out.trans hx1)
      clear hx1
      go_wp2_with fail
      refine (assigned_any _ x _ _ (hX0.out.ext HX1.out)).mono ?_
      rintro e w2 ⟨rfl, hx2⟩
      rw [ha]
      have HX2 := hide (HX1.out.trans hx2)
      clear hx2
      go_wp2_with fail
      go_ret
      exact Ret.mk (ret_b HR.out.symm) HX2.out
    | true =>
      have h1 : (x.length : Int) = ds.length ∧ allR x 0 5 = true := by simpa using ha
      have HR := hide (show solB ds cs x = (memB ds x && okAll cs x) by rw [solB, hm, ha]; rfl)
      obtain ⟨hg, hp, h4⟩ := vMod_good hm
      have HG := hide hg
      have HV := hide (allR_val h1.2)
      have HL := hide (show x.length = ds.length by omega)
      clear h1 hg
      go_enter Tryz.func10, Tryz.ntmps10
      go_wp2_with fail
      try rw [← hw0]
      clear hw0
      refine (ValidModelI_any _ _ ds cs _ (hD0.out.ext HX0.out) (hC0.out.ext HX0.out) (fun i _ => fits_all (con0 cs i))).mono ?_
      rintro e w1 ⟨rfl, hx1⟩
      rw [hm]
      have ks1 := Nat.lt_of_lt_of_le ks hx1.size
      have k0 := (hx1.cells _ _ ks).trans k0
      have k1 := (hx1.cells _ _ ks).trans k1
      have HX1 := hide (HX0.out.trans hx1)
      clear hx1
      go_wp2_with fail
      refine (assigned_any _ x _ _ (hX0.out.ext HX1.out)).mono ?_
      rintro e w2 ⟨rfl, hx2⟩
      rw [ha]
      have k0 := (hx2.cells _ _ ks1).trans k0
      have k1 := (hx2.cells _ _ ks1).trans k1
      have HX2 := hide (HX1.out.trans hx2)
      clear hx2
      go_wp2_with fail
      refine (isSolution_any _ _ x ds cs _ ⟨_, _, rfl, hD0.out.ext HX2.out, hC0.out.ext HX2.out⟩ (hX0.out.ext HX2.out) HG.out HL.out h4 HV.out).mono ?_
      rintro e w3 ⟨rfl, hx3⟩
      have HX3 := hide (HX2.out.trans hx3)
      clear hx3
      go_wp2_with fail
      go_ret
      exact Ret.mk (ret_b HR.out.symm) HX3.out
end Go.Proofs.YtbfcbfkfbpaoiaaGreat
/- The law's walk: FnRefutes returns true. -/
namespace Go.Proofs.YtbfcbfkfbpaoiaaGreat
open Go.RowKit

theorem AppI.sintsR {base : Nat} {w : World} {v : Value} {xs : List Int} (h : AppI base w v xs) (hl : xs.length ≤ 1000000) (hi : ∀ i, i < xs.length → I64 (at0 xs i)) : SInts w v xs := by
  rcases h.2 with ⟨h1, h2⟩ | ⟨g, cap, cur, h1, hg, hh, hnc, hm, hcs, htk⟩
  · exact ⟨none, 0, by rw [h1, h2], by omega, by omega, hi, fun hp => absurd hp (by omega)⟩
  · refine ⟨_, _, h1, hnc, by omega, hi, fun _ => ⟨g, 0, rfl, (Array.getElem?_eq_some_iff.1 hh).1, fun i hi' => ?_⟩⟩
    have e1 : (cur.toList.take (xs.length * 1))[i]? = (xs.map vI)[i]? := by rw [htk]
    rw [List.getElem?_take, if_pos (by omega), List.getElem?_map, List.getElem?_eq_getElem hi', Array.getElem?_toList] at e1
    unfold at0
    rw [getD_lt _ _ hi']
    simp [World.cell?, hh, e1, vI]
theorem xK_I64 (ds : List Int) (ls : List Lt) : ∀ k i, i < (xK ds ls k).length → I64 (at0 (xK ds ls k) i)
  | 0, i, hi => absurd hi (by simp [xK])
  | k + 1, i, hi => by
    have ih := xK_I64 ds ls k
    rw [xK, xF] at hi ⊢
    split at hi
    · rename_i ht
      rw [if_pos ht]
      simp only [Bool.and_eq_true] at ht
      obtain ⟨u, u6, hu, -⟩ := hasD_iff ht.2.2
      by_cases hil : i < (xK ds ls k).length
      · rw [show at0 (xK ds ls k ++ [ltV ls k]) i = at0 (xK ds ls k) i by simp [at0, List.getElem?_append_left hil]]
        exact ih i hil
      · obtain rfl : i = (xK ds ls k).length := by simp at hi; omega
        rw [show at0 (xK ds ls k ++ [ltV ls k]) (xK ds ls k).length = ltV ls k by simp [at0], hu]
        unfold I64; omega
    · rename_i ht
      rw [if_neg ht]
      exact ih i hi
/-- What the law says at the end. -/
theorem law_end {ds : List Int} {cs : List Con} {ls : List Lt} (hm : vMod ds cs = true) (hc : okCl ls ds.length = true) :
    ((xK ds ls ls.length).length = ds.length → ls.length = (xK ds ls ls.length).length → (rftB cs ds ls == solB ds cs (xK ds ls ls.length)) = false) ∧ (rftB cs ds ls = true → ngV ds cs ls = true) := by
  obtain ⟨hg, hp, h4⟩ := vMod_good hm
  refine ⟨fun h1 h2 => ?_, fun h => ?_⟩
  · have hl : (xK ds ls ls.length).length = ls.length := h2.symm
    have hn : ls.length = ds.length := by omega
    obtain ⟨hx, -, -⟩ := resC_full hg hc hl hn
    have hv : allR (xK ds ls ls.length) 0 5 = true := allR_of fun i hi => by
      have := (tups_val hx).2 i hi
      simp only [inR, Bool.and_eq_true, decide_eq_true_eq]
      omega
    have hs : solB ds cs (xK ds ls ls.length) = okAll cs (xK ds ls ls.length) := by
      rw [solB, hm, hv, memB_of hx, h1]
      simp
    rw [rft_full hg h4 hp hc hl hn, hs]
    cases okAll cs (xK ds ls ls.length) <;> rfl
  · rw [ngV, hm, hc, ng_of_rft hg h4 hc h]; rfl
set_option maxRecDepth 100000 in
set_option maxHeartbeats 16000000 in
theorem lawRefutesP (v : Value) (n : Nat) (w : World) (hB : SBytes w v n) (_hn : n ≤ 140737488351232) :
    Calls Tryz.prog 3 #[v] w (Ret (.bool true) w) := by
  have HB := hide hB
  obtain ⟨A, c, rfl, -⟩ := hB
  by_cases hl : (1048576 : Int) < n
  · go_enter Tryz.func3, Tryz.ntmps3
    go_wp2
    go_ret
    exact Ret.mk rfl (Ext.refl _)
  · go_enter Tryz.func3, Tryz.ntmps3
    go_wp2_with fail
    refine (DrawRefutes_any _ n _ HB.out).mono ?_
    rintro e w1 ⟨vd, vc, vl, ds, cs, ls, rfl, hD, hC, hL, hd1, hd4, hx1⟩
    obtain ⟨Ad, cd, rfl, -, hld⟩ := hD.form
    obtain ⟨Ac, cc, rfl, -, hlc⟩ := hC.form
    obtain ⟨Al, cl, rfl, -, hll⟩ := hL.form
    have HX1 := hide hx1
    have HD1 := hide hD
    have HC1 := hide hC
    have HL1 := hide hL
    clear hx1 hD hC hL
    go_upto_region 4 with fail
    obtain ⟨w0, hw0⟩ : ∃ w0, w0 = w1.alloc (.cells #[.slice Ad ds.length cd, .slice Ac cs.length cc] 26) := ⟨_, rfl⟩
    have hx0 : Ext w1 w0 := by rw [hw0]; exact (Ext.refl w1).alloc _
    have k0 : w0.cell? ⟨w1.heap.size, 0, none⟩ = some (.slice Ad ds.length cd) := by rw [hw0]; go_simp
    have k1 : w0.cell? ⟨w1.heap.size, 1, none⟩ = some (.slice Ac cs.length cc) := by rw [hw0]; go_simp
    have ks : w1.heap.size < w0.heap.size := by rw [hw0]; simp
    rw [← hw0]
    clear hw0
    have HX0 := hide (HX1.out.trans hx0)
    have HD0 := hide (HD1.out.ext hx0)
    have HC0 := hide (HC1.out.ext hx0)
    have HM0 := hide (show SMod w0 (.agg #[.slice Ad ds.length cd, .slice Ac cs.length cc]) ds cs from ⟨_, _, rfl, HD0.out, HC0.out⟩)
    have HL0 := hide (HL1.out.ext hx0)
    clear hx0 HD1 HC1 HL1 HX1
    have K0 := hide k0
    have K1 := hide k1
    go_wp2_with fail
    refine (RefutesI_any _ _ ds cs ls _ HM0.out HL0.out (fun i _ => fits_all (con0 cs i))).mono ?_
    rintro e w2 ⟨rfl, hx2⟩
    have ks2 := Nat.lt_of_lt_of_le ks hx2.size
    have HX2 := hide hx2
    clear hx2 k0 k1
    obtain ⟨ok, hok⟩ : ∃ ok, ok = (vMod ds cs && (okCl ls ds.length && rftB cs ds ls)) := ⟨_, rfl⟩
    rw [← hok]
    have HOK := hide hok
    clear hok
    go_upto_region 5 with fail
    go_cut [5, 36] from 8 (fun s5 s wx => s5 = .bool ok ∧ s = .bool (!(vMod ds cs && okCl ls ds.length)) ∧ Ext w0 wx)
    case first =>
      have k0 := (HX2.out.cells _ _ ks).trans K0.out
      have k1 := (HX2.out.cells _ _ ks).trans K1.out
      have hne : (ok != ok) = false := by simp
      go_wp2_with fail
      refine (RefutesS_any _ _ ds cs ls _ (HM0.out.ext HX2.out) (HL0.out.ext HX2.out)).mono ?_
      rintro e w3 ⟨rfl, hx3⟩
      rw [← HOK.out]
      have ks3 := Nat.lt_of_lt_of_le ks2 hx3.size
      have k0 := (hx3.cells _ _ ks2).trans k0
      have k1 := (hx3.cells _ _ ks2).trans k1
      have HX3 := hide (HX2.out.trans hx3)
      clear hx3
      cases hm : vMod ds cs with
      | false =>
        go_wp2_with fail
        refine (ValidModelI_any _ _ ds cs _ (HD0.out.ext HX3.out) (HC0.out.ext HX3.out) (fun i _ => fits_all (con0 cs i))).mono ?_
        rintro e w4 ⟨rfl, hx4⟩
        rw [hm]
        have HX4 := hide (HX3.out.trans hx4)
        clear hx4
        go_wp2_with fail
        go_meet
        exact ⟨rfl, by rw [hm]; rfl, HX4.out⟩
      | true =>
        go_wp2_with fail
        refine (ValidModelI_any _ _ ds cs _ (HD0.out.ext HX3.out) (HC0.out.ext HX3.out) (fun i _ => fits_all (con0 cs i))).mono ?_
        rintro e w4 ⟨rfl, hx4⟩
        rw [hm]
        have ks4 := Nat.lt_of_lt_of_le ks3 hx4.size
        have k0 := (hx4.cells _ _ ks3).trans k0
        have k1 := (hx4.cells _ _ ks3).trans k1
        have HX4 := hide (HX3.out.trans hx4)
        clear hx4
        go_wp2_with fail
        refine (ValidClauseI_any _ ls ds.length _ (HL0.out.ext HX4.out) (by omega) (by omega)).mono ?_
        rintro e w5 ⟨rfl, hx5⟩
        rw [show (inR (ds.length : Int) 1 4 && okCl ls (ds.length : Int)) = okCl ls (ds.length : Int) by rw [show inR (ds.length : Int) 1 4 = true by simp only [inR, Bool.and_eq_true, decide_eq_true_eq]; omega]; rfl]
        have HX5 := hide (HX4.out.trans hx5)
        clear hx5
        go_wp2_with fail
        go_meet
        exact ⟨rfl, by rw [hm]; rfl, HX5.out⟩
    case rest =>
      obtain ⟨rfl, rfl, hx3⟩ := hcut
      have HX3 := hide hx3
      have ks3 := Nat.lt_of_lt_of_le ks hx3.size
      clear HX2 ks2
      cases hq : (vMod ds cs && okCl ls ds.length) with
      | false =>
        have k0 := (hx3.cells _ _ ks).trans K0.out
        have k1 := (hx3.cells _ _ ks).trans K1.out
        have heq : (ok == ok) = true := by simp
        clear hx3
        go_wp2_with fail
        refine (RefutesS_any _ _ ds cs ls _ (HM0.out.ext HX3.out) (HL0.out.ext HX3.out)).mono ?_
        rintro e w4 ⟨rfl, hx4⟩
        rw [← HOK.out]
        have HX4 := hide (HX0.out.trans (HX3.out.trans hx4))
        clear hx4
        go_wp2_with fail
        go_ret
        exact Ret.mk rfl HX4.out
      | true =>
        have hmc : vMod ds cs = true ∧ okCl ls ds.length = true := by simpa using hq
        have HMC := hide hmc
        have HOKR := hide (show ok = rftB cs ds ls by rw [HOK.out, hmc.1, hmc.2]; rfl)
        have HEND := hide (law_end hmc.1 hmc.2)
        clear hmc hq hx3
        obtain ⟨wb, hwb⟩ : ∃ wb, wb = wc := ⟨wc, rfl⟩
        subst hwb
        rw [show (!true) = false from rfl]
        go_wp2_with fail
        go_loopw [6, 7] (fun x i wr => ∃ k : Nat, i = .int .i64 k ∧ k ≤ ls.length ∧ AppI wb.heap.size wr x (xK ds ls k) ∧ Ext wb wr) (fun _ i _ => ls.length - (intOf i).toNat)
        case atStart => exact ⟨0, rfl, Nat.zero_le _, AppI.empty wb, (Ext.refl wb).alloc _⟩
        case round =>
          obtain ⟨k, rfl, hk, hA, hx⟩ := hrel
          have HA := hide hA
          have HXW := hide (HX3.out.trans hx)
          have HXB := hide hx
          obtain ⟨Ax, cx, hxv, hxc⟩ := hA.form
          subst hxv
          have hxk := xK_le ds ls k
          have ksr := Nat.lt_of_lt_of_le ks HXW.out.size
          clear hA hx
          by_cases hkl : k < ls.length
          · have hkI : (k : Int) < ls.length := by omega
            have hlt := okCl_lt HMC.out.2 hkl
            have hl12 := okCl_len HMC.out.2
            obtain ⟨bl, ol, rfl, hbl, e0, e1, e2⟩ := (HL0.out.ext HXW.out).at_ hkl
            have k0 := (HXW.out.cells _ _ ks).trans K0.out
            have k1 := (HXW.out.cells _ _ ks).trans K1.out
            go_upto_region 11 with fail
            go_cut [78] from 43 to 86 (fun s wx => s = .bool (decide (ltX ls k = (xK ds ls k).length) && (!ltN ls k && hasD (at0 ds (xK ds ls k).length) (ltV ls k))) ∧ Ext wr wx)
            case first =>
              by_cases hx : ltX ls k = (xK ds ls k).length
              · have hxb : (ltX ls k == ((xK ds ls k).length : Int)) = true := by simp [hx]
                cases hN : ltN ls k with
                | true =>
                  rw [hN] at e2
                  have HX := hide hx
                  clear hx
                  refine wp_region_ext (by kernel_rfl) (by kernel_rfl) ?_
                  iterate 9 (apply quiet_val; (focus rfl); (focus (intro w' hw'; have hk' := hw'.cells; go_simp; all_goals exact rfl)); simp only [Act.put, List.setIfInBounds_toArray, List.set_cons_succ, List.set_cons_zero])
                  iterate 6 (go_big_quiet_want; apply quietK_val; (focus (intro w' hw'; have hk' := hw'.cells; go_simp; all_goals exact rfl)); simp only [Act.put, List.setIfInBounds_toArray, List.set_cons_succ, List.set_cons_zero]; go_big_quiet_on)
                  iterate 2 (apply quiet_val; (focus rfl); (focus (intro w' hw'; have hk' := hw'.cells; go_simp; all_goals exact rfl)); simp only [Act.put, List.setIfInBounds_toArray, List.set_cons_succ, List.set_cons_zero])
                  iterate 12 go_big_quiet_skip
                  (apply quiet_val; (focus rfl); (focus (intro w' hw'; have hk' := hw'.cells; go_simp; all_goals exact rfl)); simp only [Act.put, List.setIfInBounds_toArray, List.set_cons_succ, List.set_cons_zero])
                  refine wpQuiet_nil ?_
                  intro w5 hx5
                  go_wp2_with fail
                  go_meet
                  exact ⟨by simp [hN], hx5⟩
                | false =>
                  rw [hN] at e2
                  obtain ⟨X, V, hX, hV, hXn, hV6⟩ := hlt
                  have hxl : (xK ds ls k).length < ds.length := by omega
                  have hxI : ((xK ds ls k).length : Int) < ds.length := by omega
                  have hx0 : (0 : Int) ≤ (xK ds ls k).length := by omega
                  obtain ⟨bd, od, rfl, hbd, d0⟩ := (HD0.out.ext HXW.out).at_ hxl
                  have HX := hide hx
                  clear hX hV hx
                  refine wp_region_ext (by kernel_rfl) (by kernel_rfl) ?_
                  iterate 9 (apply quiet_val; (focus rfl); (focus (intro w' hw'; have hk' := hw'.cells; go_simp; all_goals exact rfl)); simp only [Act.put, List.setIfInBounds_toArray, List.set_cons_succ, List.set_cons_zero])
                  iterate 6 (go_big_quiet_want; apply quietK_val; (focus (intro w' hw'; have hk' := hw'.cells; go_simp; all_goals exact rfl)); simp only [Act.put, List.setIfInBounds_toArray, List.set_cons_succ, List.set_cons_zero]; go_big_quiet_on)
                  iterate 2 (apply quiet_val; (focus rfl); (focus (intro w' hw'; have hk' := hw'.cells; go_simp; all_goals exact rfl)); simp only [Act.put, List.setIfInBounds_toArray, List.set_cons_succ, List.set_cons_zero])
                  iterate 11 (go_big_quiet_want; apply quietK_val; (focus (intro w' hw'; have hk' := hw'.cells; go_simp; all_goals exact rfl)); simp only [Act.put, List.setIfInBounds_toArray, List.set_cons_succ, List.set_cons_zero]; go_big_quiet_on)
                  go_big_quiet_want; apply quietK_call; (focus (intro w' hw'; go_simp; all_goals (first | exact rfl | (apply And.intro <;> exact rfl))))
                  · exact fun w' hw' => (DomainHasI_any _ _ w').mono fun e w2 h => ⟨h.1, h.2 ▸ hw'⟩
                  (simp only [Act.put, List.setIfInBounds_toArray, List.set_cons_succ, List.set_cons_zero]; go_big_quiet_on)
                  (apply quiet_val; (focus rfl); (focus (intro w' hw'; have hk' := hw'.cells; go_simp; all_goals exact rfl)); simp only [Act.put, List.setIfInBounds_toArray, List.set_cons_succ, List.set_cons_zero])
                  refine wpQuiet_nil ?_
                  intro w5 hx5
                  go_wp2_with fail
                  go_meet
                  exact ⟨by simp [HX.out, hN], hx5⟩
              · have hxb : (ltX ls k == ((xK ds ls k).length : Int)) = false := by simp [hx]
                refine wp_region_ext (by kernel_rfl) (by kernel_rfl) ?_
                iterate 9 (apply quiet_val; (focus rfl); (focus (intro w' hw'; have hk' := hw'.cells; go_simp; all_goals exact rfl)); simp only [Act.put, List.setIfInBounds_toArray, List.set_cons_succ, List.set_cons_zero])
                iterate 6 go_big_quiet_skip
                iterate 2 (apply quiet_val; (focus rfl); (focus (intro w' hw'; have hk' := hw'.cells; go_simp; all_goals exact rfl)); simp only [Act.put, List.setIfInBounds_toArray, List.set_cons_succ, List.set_cons_zero])
                iterate 12 go_big_quiet_skip
                (apply quiet_val; (focus rfl); (focus (intro w' hw'; have hk' := hw'.cells; go_simp; all_goals exact rfl)); simp only [Act.put, List.setIfInBounds_toArray, List.set_cons_succ, List.set_cons_zero])
                refine wpQuiet_nil ?_
                intro w5 hx5
                go_wp2_with fail
                go_meet
                exact ⟨by simp [hx], hx5⟩
            case rest =>
              obtain ⟨rfl, hx5⟩ := hcut
              have HX5 := hide hx5
              have e1' := (hx5.cells _ _ hbl).trans e1
              have HA5 := hide (HA.out.ext hx5)
              have hbl5 := Nat.lt_of_lt_of_le hbl hx5.size
              have hsb := HXB.out.size
              have hs5 := hx5.size
              clear hx5 e0 e1 e2 k0 k1
              cases hT : (decide (ltX ls k = (xK ds ls k).length) && (!ltN ls k && hasD (at0 ds (xK ds ls k).length) (ltV ls k))) with
              | true =>
                have HT := hide (show xK ds ls (k + 1) = xK ds ls k ++ [ltV ls k] by rw [xK, xF, if_pos hT])
                clear hT
                go_wp2_with (at_builtin; go_must (refine wpList_app1 _ rfl _ _ rfl wb.heap.size (.slice Ax (xK ds ls k).length cx) (xK ds ls k) (ltV ls k) wc.heap.size 1 rfl rfl (HA5.out.ext ((Ext.refl _).alloc _)) (World.cell?_alloc_at _ _ _ _ rfl) (by omega) (by rw [World.size_alloc]; omega) ?_); intro v6 W6 hA6 hb6; have HA6 := hide hA6; have HB6 := hide (((HXB.out.trans HX5.out).alloc _).below hb6); clear hA6 hb6)
                go_roundw
                case rel =>
                  exact ⟨k + 1, by go_num, by omega, by rw [HT.out]; exact HA6.out, HB6.out⟩
                case measure => simp [intOf]; omega
              | false =>
                have HT := hide (show xK ds ls (k + 1) = xK ds ls k by rw [xK, xF, hT]; rfl)
                clear hT
                go_wp2_with fail
                go_roundw
                case rel => exact ⟨k + 1, by go_num, by omega, by rw [HT.out]; exact HA5.out, HXB.out.trans HX5.out⟩
                case measure => simp [intOf]; omega
          · obtain rfl : k = ls.length := by omega
            have hkI : ¬ ((ls.length : Int) < ls.length) := by omega
            have k0 := (HXW.out.cells _ _ ks).trans K0.out
            have k1 := (HXW.out.cells _ _ ks).trans K1.out
            go_upto_region 13 with fail
            go_cut [5, 106] from 8 (fun s5 s wx => s5 = .bool ok ∧ s = .bool false ∧ Ext wr wx)
            case first =>
              by_cases h1 : (xK ds ls ls.length).length = ds.length
              · have h1b : (((xK ds ls ls.length).length : Int) == (ds.length : Int)) = true := by simp [h1]
                by_cases h2 : ls.length = (xK ds ls ls.length).length
                · have h2b : ((ls.length : Int) == ((xK ds ls ls.length).length : Int)) = true := by rw [← h2]; simp
                  have HNE := hide (HEND.out.1 h1 h2)
                  have HSX := hide (AppI.sintsR HA.out (by omega) (xK_I64 ds ls _))
                  clear h1 h2
                  go_wp2_with fail
                  refine (IsSolutionI_any _ _ _ ds cs (xK ds ls ls.length) _ (HD0.out.ext HXW.out) (HC0.out.ext HXW.out) HSX.out).mono ?_
                  rintro e w5 ⟨rfl, hx5⟩
                  have HX5 := hide hx5
                  clear hx5
                  have hnn : (ok == solB ds cs (xK ds ls ls.length)) = false := by rw [HOKR.out]; exact HNE.out
                  go_wp2_with fail
                  go_meet
                  exact ⟨rfl, rfl, HX5.out⟩
                · have h2b : ((ls.length : Int) == ((xK ds ls ls.length).length : Int)) = false := by simp; omega
                  clear h1 h2
                  go_wp2_with fail
                  go_meet
                  exact ⟨rfl, rfl, Ext.refl _⟩
              · have h1b : (((xK ds ls ls.length).length : Int) == (ds.length : Int)) = false := by simp; omega
                clear h1
                go_wp2_with fail
                go_meet
                exact ⟨rfl, rfl, Ext.refl _⟩
            case rest =>
              obtain ⟨rfl, rfl, hx5⟩ := hcut
              have k0 := (hx5.cells _ _ ksr).trans k0
              have k1 := (hx5.cells _ _ ksr).trans k1
              have HX5 := hide (HXW.out.trans hx5)
              clear hx5
              cases hb : ok with
              | false =>
                go_wp2_with fail
                go_ret
                exact Ret.mk rfl (HX0.out.trans HX5.out)
              | true =>
                have HNG := hide (HEND.out.2 (by rw [← HOKR.out]; exact hb))
                go_wp2_with fail
                refine (IsNogoodI_any _ _ ds cs ls _ (HM0.out.ext HX5.out) (HL0.out.ext HX5.out)).mono ?_
                rintro e w6 ⟨rfl, hx6⟩
                rw [HNG.out]
                have HX6 := hide (HX0.out.trans (HX5.out.trans hx6))
                clear hx6
                go_wp2_with fail
                go_ret
                exact Ret.mk rfl HX6.out
end Go.Proofs.YtbfcbfkfbpaoiaaGreat
