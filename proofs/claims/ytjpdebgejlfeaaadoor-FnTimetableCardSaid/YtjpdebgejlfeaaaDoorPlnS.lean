/- Schedules, in plain numbers: the energy of a feasible schedule; the best of a list. -/
import Derived.Test.YtjpdebgejlfeaaaDoorSch
import Derived.Test.YtjpdebgejlfeaaaDoorEner
import Derived.Test.YtjpdebgejlfeaaaDoorQ8
namespace Go.Proofs.YtjpdebgejlfeaaaDoor
open Go.RowKit

/-- f a + .. + f (a + n - 1) -/
def sm (f : Nat → Int) (a : Nat) : Nat → Int
  | 0 => 0
  | n + 1 => sm f a n + f (a + n)
theorem sm_add (f g : Nat → Int) (a : Nat) : ∀ n, sm (fun t => f t + g t) a n = sm f a n + sm g a n
  | 0 => rfl
  | n + 1 => by rw [sm, sm_add f g a n, sm, sm]; omega
theorem sm_le (f : Nat → Int) (a : Nat) (c : Int) : ∀ n, (∀ t, a ≤ t → t < a + n → f t ≤ c) → sm f a n ≤ c * n
  | 0, _ => by simp [sm]
  | n + 1, h => by
    have h1 := sm_le f a c n (fun t h1 h2 => h t h1 (by omega))
    have h2 := h (a + n) (by omega) (by omega)
    rw [sm, show ((n + 1 : Nat) : Int) = (n : Int) + 1 by omega, Int.mul_add, Int.mul_one]
    omega
theorem sm_split (f : Nat → Int) (a m : Nat) : ∀ n, sm f a (m + n) = sm f a m + sm f (a + m) n
  | 0 => by simp [sm]
  | n + 1 => by rw [← Nat.add_assoc, sm, sm_split f a m n, sm, Nat.add_assoc a m n]; omega
theorem ov_succ (s e l h : Int) (hl : l ≤ h) : ov s e l (h + 1) = ov s e l h + if s ≤ h ∧ h < e then 1 else 0 := by
  unfold ov
  split <;> omega
theorem ov_self (s e l : Int) : ov s e l l = 0 := by unfold ov; omega
theorem sm_run (s e m : Int) (a : Nat) : ∀ n, sm (fun t => if s ≤ (t : Int) ∧ (t : Int) < e then m else 0) a n = ov s e a ((a + n : Nat) : Int) * m
  | 0 => by rw [sm, Nat.add_zero, ov_self, Int.zero_mul]
  | n + 1 => by
    rw [sm, sm_run s e m a n, ← Nat.add_assoc, show ((a + n + 1 : Nat) : Int) = ((a + n : Nat) : Int) + 1 by omega, ov_succ _ _ _ _ (by omega)]
    by_cases h : s ≤ ((a + n : Nat) : Int) ∧ ((a + n : Nat) : Int) < e
    · rw [if_pos h, if_pos h, Int.add_mul, Int.one_mul]
    · rw [if_neg h, if_neg h, Int.add_zero, Int.add_zero]
/-- The energy of the first k tasks where they start at x. -/
def enx (ts : List Tk) (x : List Int) (l h : Int) : Nat → Int
  | 0 => 0
  | k + 1 => enx ts x l h k + ov (at0 x k) (at0 x k + tkD ts k) l h * tkM ts k
theorem sm_zero (a : Nat) : ∀ n, sm (fun _ => 0) a n = 0
  | 0 => rfl
  | n + 1 => by rw [sm, sm_zero a n]; rfl
theorem sm_us (ts : List Tk) (x : List Int) (a n : Nat) : ∀ k, sm (us ts x k) a n = enx ts x a ((a + n : Nat) : Int) k
  | 0 => by show sm (fun t => us ts x 0 t) a n = _; simp only [us]; exact sm_zero a n
  | k + 1 => by
    rw [enx, ← sm_us ts x a n k, ← sm_run, ← sm_add]
    rfl
theorem lk_le (ts : List Tk) (i : Nat) (l h : Int) (j : Nat) : ∀ J, j < J → lk ts i l h J ≤ ov (at0 (domL (tkS ts i)) j) (at0 (domL (tkS ts i)) j + tkD ts i) l h
  | 0, hj => by omega
  | J + 1, hj => by
    rw [lk]
    by_cases e : j = J
    · subst e; omega
    · have := lk_le ts i l h j J (by omega); omega
theorem tups_dom : ∀ (ds x : List Int), x ∈ tups ds → ∀ i, i < ds.length → at0 x i ∈ domL (at0 ds i)
  | [], x, _, i, hi => by simp at hi
  | d :: ds, x, h, i, hi => by
    simp only [tups, List.mem_flatMap, List.mem_map] at h
    obtain ⟨v, hv, t, ht, rfl⟩ := h
    cases i with
    | zero => exact hv
    | succ i => exact tups_dom ds t ht i (by simpa using hi)
theorem en_enx {ts : List Tk} (hv : vTks ts = true) {x : List Int} (hx : x ∈ tups (startsL ts)) (l h : Int) : ∀ k, k ≤ ts.length → en ts l h k ≤ enx ts x l h k
  | 0, _ => Int.le_refl _
  | k + 1, hk => by
    have h1 := en_enx hv hx l h k (by omega)
    have hd := tups_dom _ _ hx k (by rw [startsL_len]; omega)
    rw [startsL_at ts (by omega)] at hd
    obtain ⟨j, hj, e⟩ := List.mem_iff_getElem.1 hd
    have h2 := lk_le ts k l h j (domL (tkS ts k)).length hj
    have e' : at0 (domL (tkS ts k)) j = at0 x k := by rw [at0, getD_lt _ _ hj, e]
    rw [e'] at h2
    have h3 := (vTks_at hv (show k < ts.length by omega)).2.2.2.2.2
    have h4 : lkA ts k l h * tkM ts k ≤ ov (at0 x k) (at0 x k + tkD ts k) l h * tkM ts k := Int.mul_le_mul_of_nonneg_right h2 h3.1
    rw [en, enx]
    omega
theorem feas_all {ts : List Tk} {c : Int} {x : List Int} (h : feas ts c x = true) : ∀ t, t < 11 → us ts x ts.length t ≤ c := by
  unfold feas mxL at h
  rw [decide_eq_true_iff, usL_len, mxK_le] at h
  exact fun t ht => by have := h t (by omega); rwa [usL_at _ _ ht] at this
theorem feas_mk {ts : List Tk} {c : Int} {x : List Int} (h : ∀ t, t < 11 → us ts x ts.length t ≤ c) : feas ts c x = true := by
  unfold feas mxL
  rw [decide_eq_true_iff, usL_len, mxK_le]
  exact fun i hi => by rw [usL_at _ _ (by omega)]; exact h i (by omega)
theorem over_none {ts : List Tk} (hv : vTks ts = true) {c : Int} {a b : Nat} (hab : a < b) (hb : b ≤ 11) (h : ovBad ts c a b) : schO ts c = none := by
  have hf : (tups (startsL ts)).filter (feas ts c) = [] := by
    rw [List.filter_eq_nil_iff]
    intro x hx hfx
    have h1 := en_enx hv hx a b ts.length (Nat.le_refl _)
    have h2 := sm_us ts x a (b - a) ts.length
    have h3 := sm_le (us ts x ts.length) a c (b - a) (fun t h1 h2 => feas_all hfx t (by omega))
    rw [show a + (b - a) = b by omega] at h2
    unfold ovBad at h
    rw [show (((b - a : Nat)) : Int) = (b : Int) - a by omega] at h3
    omega
  rw [schO, hf]; rfl
theorem bestF_le (f : List Int → Int) : ∀ (L : List (List Int)) (o : Option (List Int)), (∀ z ∈ L, ∃ b, L.foldl (bstep f) o = some b ∧ f b ≤ f z) ∧ (∀ b0, o = some b0 → ∃ b, L.foldl (bstep f) o = some b ∧ f b ≤ f b0)
  | [], o => ⟨fun z hz => by simp at hz, fun b0 h => ⟨b0, h, Int.le_refl _⟩⟩
  | x :: L, o => by
    have ih := bestF_le f L (bstep f o x)
    have hx : ∃ b1, bstep f o x = some b1 ∧ f b1 ≤ f x ∧ ∀ b0, o = some b0 → f b1 ≤ f b0 := by
      cases o with
      | none => exact ⟨x, rfl, Int.le_refl _, fun b0 h => by cases h⟩
      | some b0 =>
        by_cases h : f x < f b0
        · exact ⟨x, by rw [bstep, if_pos h], Int.le_refl _, fun b hb => by cases hb; omega⟩
        · exact ⟨b0, by rw [bstep, if_neg h], by omega, fun b hb => by cases hb; omega⟩
    obtain ⟨b1, e1, l1, l2⟩ := hx
    obtain ⟨b2, e2, l3⟩ := ih.2 b1 e1
    refine ⟨fun z hz => ?_, fun b0 h => ⟨b2, e2, by have := l2 b0 h; omega⟩⟩
    rcases List.mem_cons.1 hz with rfl | hz
    · exact ⟨b2, e2, by omega⟩
    · exact ih.1 z hz
theorem schO_mem {ts : List Tk} {c : Int} {x : List Int} (h : schO ts c = some x) : x ∈ tups (startsL ts) ∧ feas ts c x = true := by
  have h1 : bestF (fun x => mk ts x ts.length) ((tups (startsL ts)).filter (feas ts c)) = some x := h
  rcases bestF_mem _ _ _ _ h1 with h | h
  · cases h
  · exact List.mem_filter.1 h
theorem sch_more {ts : List Tk} {c : Int} {x : List Int} (h : schO ts c = some x) : ∃ y, schO ts (c + 1) = some y ∧ mk ts y ts.length ≤ mk ts x ts.length := by
  obtain ⟨h1, h2⟩ := schO_mem h
  have h3 : x ∈ (tups (startsL ts)).filter (feas ts (c + 1)) := List.mem_filter.2 ⟨h1, feas_mk fun t ht => by have := feas_all h2 t ht; omega⟩
  exact (bestF_le (fun x => mk ts x ts.length) _ none).1 x h3
theorem mk_ge (ts : List Tk) (x : List Int) : ∀ k i, i < k → at0 x i + tkD ts i ≤ mk ts x k
  | 0, i, h => by omega
  | k + 1, i, h => by
    rw [mk]
    by_cases e : i = k
    · subst e; split <;> omega
    · have := mk_ge ts x k i (by omega); split <;> omega
theorem us_late (ts : List Tk) (x : List Int) (t n : Nat) (h : ∀ i, i < n → at0 x i + tkD ts i ≤ (t : Int)) : ∀ k, k ≤ n → us ts x k t = 0
  | 0, _ => rfl
  | k + 1, hk => by
    have := h k (by omega)
    rw [us, us_late ts x t n h k (by omega), if_neg (by omega)]; rfl
theorem sch_energy {ts : List Tk} (hv : vTks ts = true) {c : Int} {x : List Int} (h : schO ts c = some x) : en ts 0 11 ts.length ≤ c * mk ts x ts.length := by
  obtain ⟨h1, h2⟩ := schO_mem h
  have hok := tups_ok hv h1
  obtain ⟨m0, m1⟩ := mk_bd hok ts.length (Nat.le_refl _)
  obtain ⟨n, hn⟩ : ∃ n : Nat, mk ts x ts.length = n := ⟨_, (Int.toNat_of_nonneg m0).symm⟩
  rw [hn] at m1 ⊢
  have e1 := en_enx hv h1 0 11 ts.length (Nat.le_refl _)
  have e2 := sm_us ts x 0 11 ts.length
  have e3 := sm_split (us ts x ts.length) 0 n (11 - n)
  have e4 := sm_le (us ts x ts.length) 0 c n (fun t h1 h3 => feas_all h2 t (by omega))
  have e5 := sm_le (us ts x ts.length) (0 + n) 0 (11 - n) (fun t h3 h4 => by
    rw [us_late ts x t ts.length (fun i hi => by have := mk_ge ts x ts.length i hi; omega) _ (Nat.le_refl _)]; exact Int.le_refl _)
  rw [show n + (11 - n) = 11 by omega] at e3
  simp only [Nat.zero_add, Int.zero_mul] at e2 e3 e5
  have e6 : enx ts x 0 11 ts.length = sm (us ts x ts.length) 0 11 := e2.symm
  omega
end Go.Proofs.YtjpdebgejlfeaaaDoor
