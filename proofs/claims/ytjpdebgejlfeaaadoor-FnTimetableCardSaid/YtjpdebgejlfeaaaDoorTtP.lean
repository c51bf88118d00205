/- Timetable filtering in plain Lean. -/
import Derived.Test.YtjpdebgejlfeaaaDoorPrpZ
import Derived.Test.YtjpdebgejlfeaaaDoorBitZ
import Derived.Test.YtjpdebgejlfeaaaDoorCpy
namespace Go.Proofs.YtjpdebgejlfeaaaDoor
open Go.RowKit

/-- What the first k of the other tasks need at time t. -/
def ttK (ts : List Tk) (ds : List Int) (i : Nat) (t : Int) : Nat → Int
  | 0 => 0
  | k + 1 => ttK ts ds i t k + (if k ≠ i ∧ (topB (at0 ds k).toNat : Int) ≤ t ∧ t < (lowB (at0 ds k).toNat : Int) + tkD ts k then tkM ts k else 0)
/-- Task i does not fit at v. -/
def crB (ts : List Tk) (c : Int) (ds : List Int) (i v : Nat) : Bool := anyB (fun j => decide (c < tkM ts i + ttK ts ds i ((v : Int) + j) ts.length)) (tkD ts i).toNat
/-- The first t values of task k have been looked at. -/
def ttI (ts : List Tk) (c : Int) (now : List Int) (k : Nat) (l q : List Int) : Nat → List Int
  | 0 => q
  | t + 1 => if crB ts c now k (at0 l t).toNat then (ttI ts c now k l q t).set k (delV (at0 (ttI ts c now k l q t) k) (at0 l t).toNat) else ttI ts c now k l q t
def ttQ (ts : List Tk) (c : Int) (now : List Int) : Nat → List Int
  | 0 => now
  | k + 1 => ttI ts c now k (domL (at0 now k)) (ttQ ts c now k) (domL (at0 now k)).length
/-- One step of the program. -/
def ttS (ts : List Tk) (c : Int) (now : List Int) : List Int := ttQ ts c now now.length
/-- What stays of domain i. -/
def ttE (ts : List Tk) (c : Int) (now : List Int) (i : Nat) : Int := sumB (fun v => hasB (at0 now i) v && !crB ts c now i v)
/-- One step of the reference. -/
def ttR (ts : List Tk) (c : Int) (now : List Int) : List Int := (List.range now.length).map (ttE ts c now)
theorem sumB_bdT (f : Nat → Bool) : 0 ≤ sumB f ∧ sumB f ≤ 63 := by
  unfold sumB
  constructor <;> repeat' split
  all_goals omega
theorem sumB_hasT (f : Nat → Bool) {v : Nat} (hv : v < 6) : hasB (sumB f) v = f v := by
  have key : ∀ a0 a1 a2 a3 a4 a5 : Bool, ∀ u : Fin 6, hasB ((if a0 then 1 else 0) + (if a1 then 2 else 0) + (if a2 then 4 else 0) + (if a3 then 8 else 0) + (if a4 then 16 else 0) + (if a5 then 32 else 0)) u.val = ([a0, a1, a2, a3, a4, a5] : List Bool).getD u.val false := by decide
  have h := key (f 0) (f 1) (f 2) (f 3) (f 4) (f 5) ⟨v, hv⟩
  unfold sumB
  rw [h]
  match v, hv with
  | 0, _ => rfl
  | 1, _ => rfl
  | 2, _ => rfl
  | 3, _ => rfl
  | 4, _ => rfl
  | 5, _ => rfl
theorem anyB_succT (p : Nat → Bool) (n : Nat) : anyB p (n + 1) = (anyB p n || p n) := by simp [anyB, List.range_succ]
theorem ttI_ok {ts : List Tk} {c : Int} {now : List Int} {k : Nat} {l q : List Int} (hq : DomL q) (hk : k < q.length) (hl : ∀ s, s < l.length → ∃ a : Nat, at0 l s = a ∧ a < 6) : ∀ t, t ≤ l.length →
    (ttI ts c now k l q t).length = q.length ∧ DomL (ttI ts c now k l q t) ∧ (∀ u, u ≠ k → at0 (ttI ts c now k l q t) u = at0 q u) ∧
      ∀ v, v < 6 → hasB (at0 (ttI ts c now k l q t) k) v = (hasB (at0 q k) v && !anyB (fun s => decide (at0 l s = v) && crB ts c now k v) t)
  | 0, _ => ⟨rfl, hq, fun _ _ => rfl, fun v hv => by simp [ttI, anyB]⟩
  | t + 1, ht => by
    obtain ⟨h1, h2, h3, h4⟩ := ttI_ok (ts := ts) (c := c) (now := now) hq hk hl t (by omega)
    obtain ⟨a, ha, ha6⟩ := hl t (by omega)
    obtain ⟨r, hr⟩ : ∃ r, r = ttI ts c now k l q t := ⟨_, rfl⟩
    rw [← hr] at h1 h2 h3 h4
    rw [ttI, ha, Int.toNat_natCast, ← hr]
    have hkr : k < r.length := by omega
    have hb := h2 k hkr
    cases hc : crB ts c now k a with
    | true =>
      rw [if_pos rfl]
      have hd := delV_bd hb.1 hb.2 ha6
      refine ⟨by rw [List.length_set]; exact h1, fun u hu => ?_, fun u hu => ?_, fun v hv => ?_⟩
      · rw [List.length_set] at hu
        rw [at0_set _ _ _ _ hkr]
        split
        · exact hd
        · exact h2 u hu
      · rw [at0_set _ _ _ _ hkr, if_neg (fun e => hu e.symm)]
        exact h3 u hu
      · rw [at0_set _ _ _ _ hkr, if_pos rfl, delV_has hb.1 hb.2 ha6 hv, h4 v hv, anyB_succT, ha]
        by_cases e : v = a
        · subst e; simp [hc]
        · have e2 : ¬ ((a : Int) = (v : Int)) := fun h => e (by omega)
          have e3 : (v != a) = true := by simp [e]
          rw [e3, decide_eq_false e2]; simp
    | false =>
      rw [if_neg (by simp)]
      refine ⟨h1, h2, h3, fun v hv => ?_⟩
      rw [h4 v hv, anyB_succT, ha]
      by_cases e : v = a
      · subst e; simp [hc]
      · have e2 : ¬ ((a : Int) = (v : Int)) := fun h => e (by omega)
        rw [decide_eq_false e2]; simp
theorem ttQ_ok {ts : List Tk} {c : Int} {now : List Int} (hn : DomL now) : ∀ k, k ≤ now.length → (ttQ ts c now k).length = now.length ∧ DomL (ttQ ts c now k) ∧ ∀ u, u < now.length → at0 (ttQ ts c now k) u = if u < k then ttE ts c now u else at0 now u
  | 0, _ => ⟨rfl, hn, fun u _ => by simp [ttQ]⟩
  | k + 1, hk => by
    obtain ⟨h1, h2, h3⟩ := ttQ_ok (ts := ts) (c := c) hn k (by omega)
    obtain ⟨g1, g2, g3, g4⟩ := ttI_ok (ts := ts) (c := c) (now := now) (k := k) (l := domL (at0 now k)) h2 (by omega) (fun s hs => domL_val _ hs) _ (Nat.le_refl _)
    refine ⟨by rw [ttQ, g1]; exact h1, by rw [ttQ]; exact g2, fun u hu => ?_⟩
    rw [ttQ]
    by_cases e : u = k
    · subst e
      rw [if_pos (Nat.lt_succ_self u)]
      have hkk := h3 u hu
      rw [if_neg (Nat.lt_irrefl u)] at hkk
      refine dom_ext (g2 u (by rw [g1]; omega)) (sumB_bdT _) fun v hv => ?_
      rw [g4 v hv, hkk, ttE, sumB_hasT _ hv]
      cases hb : hasB (at0 now u) v with
      | false => rfl
      | true =>
        have hm := (domL_in (at0 now u) v).2 ⟨hv, hb⟩
        obtain ⟨s, hs, es⟩ := List.mem_iff_getElem.1 hm
        have hs2 : at0 (domL (at0 now u)) s = v := by show (domL (at0 now u)).getD s 0 = _; rw [getD_lt _ _ hs]; exact es
        have : anyB (fun s => decide (at0 (domL (at0 now u)) s = v) && crB ts c now u v) (domL (at0 now u)).length = crB ts c now u v := by
          cases hc : crB ts c now u v with
          | true => exact anyB_iff.2 ⟨s, hs, by simp [hs2]⟩
          | false => exact anyB_false.2 fun i hi => by simp
        rw [this]
    · rw [g3 u e, h3 u hu]
      by_cases h : u < k
      · rw [if_pos h, if_pos (by omega)]
      · rw [if_neg h, if_neg (by omega)]
/-- Both steps give the same. -/
theorem ttS_eq {ts : List Tk} {c : Int} {now : List Int} (hn : DomL now) : ttS ts c now = ttR ts c now := by
  obtain ⟨h1, -, h3⟩ := ttQ_ok (ts := ts) (c := c) hn now.length (Nat.le_refl _)
  refine at0_ext (by rw [ttS, h1, ttR]; simp) fun u hu => ?_
  rw [ttS, h1] at hu
  rw [ttS, h3 u hu, if_pos hu, ttR]
  unfold at0
  rw [getD_lt _ _ (by simpa using hu)]
  simp
/-- Domains of n tasks. -/
def TtG (n : Nat) (ds : List Int) : Prop := ds.length = n ∧ DomL ds
theorem ttS_ok (ts : List Tk) (c : Int) (n : Nat) : StOK (ttS ts c) (TtG n) n where
  dom := fun _ h => h.2
  len := fun _ h => h.1
  sub := fun ds h => by
    obtain ⟨h1, h2, h3⟩ := ttQ_ok (ts := ts) (c := c) h.2 ds.length (Nat.le_refl _)
    refine ⟨h1, fun u hu v hv hb => ?_⟩
    rw [ttS, h1] at hu
    rw [ttS, h3 u hu, if_pos hu, ttE, sumB_hasT _ hv, Bool.and_eq_true] at hb
    exact hb.1
  stay := fun ds h => by
    obtain ⟨h1, h2, -⟩ := ttQ_ok (ts := ts) (c := c) h.2 ds.length (Nat.le_refl _)
    exact ⟨by rw [ttS, h1]; exact h.1, h2⟩

/-- The value of TimetableFilter. -/
def ttV (ts : List Tk) (c : Int) : List Int := if vTks ts && inR c 0 9 then fixL (ttS ts c) 300 (startsL ts) else []
theorem fixL_tt {ts : List Tk} {c : Int} {n : Nat} : ∀ (k : Nat) (ds : List Int), TtG n ds → TtG n (fixL (ttS ts c) k ds)
  | 0, _, h => h
  | k + 1, ds, h => by
    rw [fixL]
    split
    · rw [h.1]; exact ⟨zer_len n, DomL.zer n⟩
    · split
      · exact h
      · exact fixL_tt k _ ((ttS_ok ts c n).stay ds h)
theorem vTks_bits {ts : List Tk} (h : vTks ts = true) : 1 ≤ ts.length ∧ ts.length ≤ 4 ∧ ∀ i, i < ts.length → 1 ≤ tkS ts i ∧ tkS ts i ≤ 63 ∧ 1 ≤ tkD ts i ∧ tkD ts i ≤ 6 ∧ 0 ≤ tkM ts i ∧ tkM ts i ≤ 9 := by
  unfold vTks at h
  rw [Bool.and_eq_true] at h
  obtain ⟨h1, h2⟩ := h
  simp [inR] at h2
  refine ⟨by omega, by omega, fun i hi => ?_⟩
  rw [List.all_eq_true] at h1
  have := h1 _ (tk0_mem hi)
  simp [vTk, vDom, inR] at this
  unfold tkS tkD tkM
  omega
theorem starts_tt {ts : List Tk} (h : vTks ts = true) : TtG ts.length (startsL ts) ∧ hasI (startsL ts) 0 = false := by
  obtain ⟨h1, h2, h3⟩ := vTks_bits h
  have hl : (startsL ts).length = ts.length := by simp [startsL]
  refine ⟨⟨hl, fun i hi => ?_⟩, ?_⟩
  · rw [startsL_at ts (by omega)]
    have := h3 i (by omega)
    omega
  · cases hh : hasI (startsL ts) 0 with
    | false => rfl
    | true =>
      obtain ⟨i, hi, e⟩ := hasI_iff.1 hh
      rw [startsL_at ts (by omega)] at e
      have := h3 i (by omega)
      omega
theorem ttV_len (ts : List Tk) (c : Int) : (ttV ts c).length ≤ 4 := by
  unfold ttV
  split
  · rename_i h
    rw [Bool.and_eq_true] at h
    have := (fixL_tt (ts := ts) (c := c) 300 _ (starts_tt h.1).1).1
    have := (vTks_bits h.1).2.1
    omega
  · simp
theorem ttV_dom (ts : List Tk) (c : Int) : DomL (ttV ts c) := by
  unfold ttV
  split
  · rename_i h
    rw [Bool.and_eq_true] at h
    exact (fixL_tt (ts := ts) (c := c) 300 _ (starts_tt h.1).1).2
  · exact fun i hi => absurd hi (by simp)
theorem ttV_i64 (ts : List Tk) (c : Int) : ∀ i, i < (ttV ts c).length → I64 (at0 (ttV ts c) i) := fun i hi => by
  have := ttV_dom ts c i hi
  unfold I64
  omega
end Go.Proofs.YtjpdebgejlfeaaaDoor
