/- The walk of the law FnMakespan: it returns true, and memory only grows. -/
import Derived.Test.YticallgbmmahjaaPlnS
import Derived.Test.YticallgbmmahjaaDrw7
namespace Go.Proofs.Yticallgbmmahjaa
open Go.RowKit

/-- Tasks and starts came; memory only grew. -/
def DrawnTS (w : World) (e : Ending) (w' : World) : Prop :=
  ∃ (v : Value) (ts : List Tk) (v2 : Value) (xs : List Int), e = .returned (.tuple #[v, v2]) ∧ 1 ≤ ts.length ∧ ts.length ≤ 8 ∧ xs.length ≤ 8 ∧ STasks w' v ts ∧ SInts w' v2 xs ∧ Ext w w'
set_option maxHeartbeats 1000000 in
theorem DrawUsage_any (v : Value) (n : Nat) (w : World) (hB : SBytes w v n) : Calls Try.prog 5 #[v] w (DrawnTS w) := by
  have HB := hide hB
  obtain ⟨A, c, rfl, -⟩ := hB
  go_enter Try.func5, Try.ntmps5
  go_wp2_with fail
  refine (newReader_any w w _ n HB.out (Ext.refl w)).mono ?_
  rintro e w1 ⟨br, rfl, hR, hx1, hbr⟩
  have HX := hide hx1
  have hbl := hR.lt
  clear hx1
  go_wp2_with fail
  refine (anyTasks_any w br 0 _ (by omega) hR).mono ?_
  rintro e w2 ⟨v2, m, c2, rfl, l1, l8, c0, c1, hL, hR2, hK2⟩
  obtain ⟨g, cap, rfl, hg, hgl, hcap⟩ := hL.form
  obtain ⟨ts, rfl, hT⟩ := hL.tasks (by omega) (by omega) (by omega)
  have HT := hide hT
  have HR2 := hide hR2
  have HX2 := hide (show Ext w w2 from Below.trans HX.out (hK2.below HX.out.size (fun k hk => by omega)))
  have hgb : g ≠ br := by omega
  clear hL hR2 hK2 hT hR
  go_wp2_with fail
  refine (anyStarts_any w br (0 + 40) _ g 0 cap ts (by omega) HR2.out HT.out hgb l1 l8).mono ?_
  rintro e w3 ⟨v3, xs, rfl, lx, hS, -, hK3⟩
  obtain ⟨A3, c3, rfl, -⟩ := hS.form
  have HE := hide (show DrawnTS w (.returned (.tuple #[.slice (some ⟨g, 0, none⟩) ts.length cap, .slice A3 xs.length c3])) w3 from ⟨_, ts, _, xs, rfl, l1, l8, lx, HT.out.keep hK3 hgb, hS, Below.trans HX2.out (hK3.below HX2.out.size (fun k hk => by omega))⟩)
  clear hS hK3
  go_wp2
  go_ret2
  exact HE.out
/-- One of the first k tasks ends at M. -/
def isK (ts : List Tk) (xs : List Int) (M : Int) : Nat → Bool
  | 0 => false
  | k + 1 => isK ts xs M k || (at0 xs k + tkD ts k == M)
theorem isK_of (ts : List Tk) (xs : List Int) (M : Int) : ∀ k i, i < k → at0 xs i + tkD ts i = M → isK ts xs M k = true
  | 0, i, h, _ => by omega
  | k + 1, i, h, e => by
    rw [isK]
    by_cases hik : i = k
    · subst hik; simp [e]
    · rw [isK_of ts xs M k i (by omega) e]; rfl
theorem mk_att {ts : List Tk} {xs : List Int} (h : ∀ i, i < ts.length → 1 ≤ at0 xs i + tkD ts i) : ∀ k, 0 < k → k ≤ ts.length → ∃ i, i < k ∧ at0 xs i + tkD ts i = mk ts xs k
  | 0, h0, _ => by omega
  | k + 1, _, hk => by
    rw [mk]
    split
    · exact ⟨k, by omega, rfl⟩
    · rename_i hn
      by_cases h0 : 0 < k
      · obtain ⟨i, hi, e⟩ := mk_att h k h0 (by omega)
        exact ⟨i, by omega, e⟩
      · obtain rfl : k = 0 := by omega
        have := h 0 (by omega)
        simp only [mk] at hn
        omega
end Go.Proofs.Yticallgbmmahjaa
