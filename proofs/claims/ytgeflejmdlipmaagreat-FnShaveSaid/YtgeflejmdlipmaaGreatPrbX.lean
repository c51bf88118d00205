/- Probe: the program's, and the reference's. -/
import Derived.Test.YtgeflejmdlipmaaGreatPrb
import Derived.Test.YtgeflejmdlipmaaGreatSpD
namespace Go.Proofs.YtgeflejmdlipmaaGreat
open Go.RowKit

def prbOk (ds : List Int) (cs : List Con) (i a : Int) : Bool := vMod ds cs && (inR i 0 (ds.length - 1) && inR a 0 5)
def prbV (ds : List Int) (cs : List Con) (i a : Int) : List Int := if prbOk ds cs i a = true then probL cs ds i.toNat a.toNat else []
theorem prbOk_of {ds : List Int} {cs : List Con} {i a : Int} (h : prbOk ds cs i a = true) : ∃ n m : Nat, i = n ∧ a = m ∧ n < ds.length ∧ m < 6 ∧ GoodD cs ds.length ds ∧ ds.length ≤ 4 ∧ prbV ds cs i a = probL cs ds n m := by
  have h0 := h
  simp only [prbOk, Bool.and_eq_true, inR, decide_eq_true_eq] at h
  obtain ⟨h1, ⟨h2, h3⟩, h4, h5⟩ := h
  obtain ⟨hG, hp, h6⟩ := vMod_good h1
  refine ⟨i.toNat, a.toNat, by omega, by omega, by omega, by omega, hG, h6, ?_⟩
  rw [prbV, if_pos h0]
theorem prbV_no {ds : List Int} {cs : List Con} {i a : Int} (h : prbOk ds cs i a = false) : prbV ds cs i a = [] := by rw [prbV, h]; rfl
theorem prbV_i64 (ds : List Int) (cs : List Con) (i a : Int) : ∀ j, j < (prbV ds cs i a).length → I64 (at0 (prbV ds cs i a) j) := by
  intro j hj
  cases h : prbOk ds cs i a with
  | false => rw [prbV_no h] at hj; simp at hj
  | true =>
    obtain ⟨n, m, rfl, rfl, hn, hm, hG, h4, e⟩ := prbOk_of h
    rw [e] at hj ⊢
    exact (propL_R (hG.prob hn hm) h4).good.i64 j hj
theorem prbV_len (ds : List Int) (cs : List Con) (i a : Int) : (prbV ds cs i a).length ≤ 4 := by
  cases h : prbOk ds cs i a with
  | false => rw [prbV_no h]; simp
  | true =>
    obtain ⟨n, m, rfl, rfl, hn, hm, hG, h4, e⟩ := prbOk_of h
    rw [e, show (probL cs ds n m).length = ds.length from (propL_R (hG.prob hn hm) h4).good.1]
    exact h4
end Go.Proofs.YtgeflejmdlipmaaGreat
