/- Usage accounts for all demands: plain Lean. -/
import Derived.Test.YtjpdebgejlfeaaaDoorLawTk
import Derived.Test.YtjpdebgejlfeaaaDoorPlnE
import Derived.Test.YtjpdebgejlfeaaaDoorSatZ
namespace Go.Proofs.YtjpdebgejlfeaaaDoor
open Go.RowKit

/-- No number is greater than the limit. -/
def atmB (us : List Int) (l : Int) : Bool := !anyB (fun i => decide (l < at0 us i)) us.length
theorem enx_full {ts : List Tk} {xs : List Int} (h : okTS ts xs = true) : ∀ k, k ≤ ts.length → enx ts xs 0 11 k = alE ts k
  | 0, _ => rfl
  | k + 1, hk => by
    obtain ⟨hv, hl, hr⟩ := okTS_iff.1 h
    have h1 := vTks_at hv (show k < ts.length by omega)
    have h2 := allR_at hr (k := k) (by omega)
    rw [enx, alE, enx_full h k (by omega), Int.mul_comm (tkM ts k)]
    have : ov (at0 xs k) (at0 xs k + tkD ts k) 0 11 = tkD ts k := by unfold ov; omega
    rw [this]
theorem upA_lo (ts : List Tk) {k : Nat} (hk : k < ts.length) : at0 (upA ts ts.length) k = tkD ts k := by
  unfold at0
  rw [getD_lt _ _ (by rw [upA_len]; omega)]
  unfold upA
  rw [List.getElem_append_left (by rw [upD_len]; exact hk)]
  simp [upD]
theorem upA_hi (ts : List Tk) {k : Nat} (hk : k < ts.length) : at0 (upA ts ts.length) (ts.length + k) = tkM ts k := by
  unfold at0
  rw [getD_lt _ _ (by rw [upA_len]; omega)]
  unfold upA
  rw [List.getElem_append_right (by rw [upD_len]; omega)]
  simp [upM, upD_len]
theorem loadT_us (ts : List Tk) (xs : List Int) (t : Nat) : ∀ k, k ≤ ts.length → loadT (upA ts ts.length) xs ts.length t k = us ts xs k t
  | 0, _ => rfl
  | k + 1, hk => by
    rw [loadT, us, loadT_us ts xs t k (by omega), upA_hi ts (by omega)]
    unfold runsB
    rw [upA_lo ts (by omega)]
    by_cases h : at0 xs k ≤ (t : Int) ∧ (t : Int) < at0 xs k + tkD ts k
    · rw [if_pos h, if_pos (by simp [h.1, h.2])]
    · rw [if_neg h, if_neg (by simp; omega), Int.add_zero]
theorem wordL_upI (xs : List Int) : wordL (upI xs.length) xs = xs := by
  apply List.ext_getElem (by simp [wordL, upI])
  intro i h1 h2
  simp [wordL, upI, at0]
  rw [List.getElem?_eq_getElem h2]; rfl
theorem cum_sat {ts : List Tk} {xs : List Int} (h : okTS ts xs = true) {c : Int} (hc : 0 ≤ c) : satB (cumC ts c) (wordL (cumC ts c).vars xs) = atmB (usL ts xs) c := by
  obtain ⟨hv, hl, hr⟩ := okTS_iff.1 h
  have e0 : wordL (cumC ts c).vars xs = xs := by show wordL (upI ts.length) xs = xs; rw [← hl]; exact wordL_upI xs
  rw [e0]
  show roomB (upA ts ts.length) c xs = _
  unfold roomB atmB
  rw [hl, usL_len]
  congr 1
  rw [Bool.eq_iff_iff, anyB_iff, anyB_iff]
  constructor
  · rintro ⟨t, ht, hh⟩
    rw [loadT_us ts xs t _ (Nat.le_refl _)] at hh
    by_cases h11 : t < 11
    · exact ⟨t, h11, by rw [usL_at ts xs h11]; exact hh⟩
    · have : us ts xs ts.length t = 0 := us_late ts xs t ts.length (fun i hi => by
        have h1 := vTks_at hv hi
        have h2 := allR_at hr (k := i) (by omega)
        omega) _ (Nat.le_refl _)
      rw [this] at hh
      simp at hh
      omega
  · rintro ⟨t, ht, hh⟩
    rw [usL_at ts xs ht] at hh
    exact ⟨t, by omega, by rw [loadT_us ts xs t _ (Nat.le_refl _)]; exact hh⟩
/-- The sum of the first k numbers. -/
def smL (xs : List Int) : Nat → Int
  | 0 => 0
  | k + 1 => smL xs k + at0 xs k
theorem smL_us {ts : List Tk} {xs : List Int} : ∀ k, k ≤ 11 → smL (usL ts xs) k = sm (us ts xs ts.length) 0 k
  | 0, _ => rfl
  | k + 1, hk => by rw [smL, sm, smL_us k (by omega), usL_at ts xs (by omega), Nat.zero_add]
theorem smL_all {ts : List Tk} {xs : List Int} (h : okTS ts xs = true) : smL (usL ts xs) 11 = alE ts ts.length := by
  rw [smL_us 11 (Nat.le_refl _), sm_us]
  exact enx_full h _ (Nat.le_refl _)
theorem smL_bd {ts : List Tk} {xs : List Int} (h : okTS ts xs = true) : ∀ k, k ≤ 11 → 0 ≤ smL (usL ts xs) k ∧ smL (usL ts xs) k ≤ 36 * k := by
  intro k hk
  rw [smL_us k hk]
  exact sm_us_bd h 0 k
/-- Which of the first k constraints are violated. -/
def vioL (cs : List Con) (x : List Int) : Nat → List Int
  | 0 => []
  | k + 1 => if satB (con0 cs k) (wordL (con0 cs k).vars x) then vioL cs x k else vioL cs x k ++ [(k : Int)]
theorem vioL_len (cs : List Con) (x : List Int) : ∀ k, (vioL cs x k).length ≤ k
  | 0 => Nat.le_refl _
  | k + 1 => by
    have := vioL_len cs x k
    rw [vioL]
    split
    · omega
    · simp; omega
def vioV (ds : List Int) (cs : List Con) (x : List Int) : List Int := if vMod ds cs && (decide ((x.length : Int) = ds.length) && allR x 0 5) then vioL cs x cs.length else []
theorem vio_cum {ts : List Tk} {xs : List Int} (h : okTS ts xs = true) {c : Int} (hc : 0 ≤ c) (hc9 : c ≤ 9) : decide ((vioV (upS ts ts.length) [cumC ts c] xs).length = 0) = atmB (usL ts xs) c := by
  obtain ⟨hv, hl, hr⟩ := okTS_iff.1 h
  have e1 : vMod (upS ts ts.length) [cumC ts c] = true := vMod_cum hv (by simp [inR]; omega)
  have e2 : (decide ((xs.length : Int) = (upS ts ts.length).length) && allR xs 0 5) = true := by rw [upS_len, hr]; simp [hl]
  rw [vioV, e1, e2, ← cum_sat h hc]
  show decide ((vioL [cumC ts c] xs 1).length = 0) = _
  rw [vioL]
  show decide ((if satB (cumC ts c) (wordL (cumC ts c).vars xs) = true then vioL [cumC ts c] xs 0 else vioL [cumC ts c] xs 0 ++ [((0 : Nat) : Int)]).length = 0) = _
  cases satB (cumC ts c) (wordL (cumC ts c).vars xs) <;> rfl
end Go.Proofs.YtjpdebgejlfeaaaDoor
