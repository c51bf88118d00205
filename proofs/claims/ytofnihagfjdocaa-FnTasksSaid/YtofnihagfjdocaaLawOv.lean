/- The walks of Overload, in the reference and in the program, and of the law FnExactOverload. -/
import Derived.Test.YtofnihagfjdocaaLawRE
namespace Go.Proofs.Ytofnihagfjdocaa
open Go.RowKit

/-- The interval from a to b is too full. -/
def ovBad (ts : List Tk) (c : Int) (a b : Nat) : Prop := c * ((b : Int) - a) < en ts a b ts.length
/-- The result is the first interval that is too full, or nothing. -/
def OvVal (ts : List Tk) (c : Int) (x y : Int) (ok : Bool) : Prop :=
  ((vTks ts && inR c 0 9) = true ∧ ok = true ∧ ∃ a b : Nat, x = a ∧ y = b ∧ a < b ∧ b ≤ 11 ∧ ovBad ts c a b ∧ ∀ a' b' : Nat, a' < b' → b' ≤ 11 → (a' < a ∨ a' = a ∧ b' < b) → ¬ ovBad ts c a' b') ∨
  (((vTks ts && inR c 0 9) = true → ∀ a' b' : Nat, a' < b' → b' ≤ 11 → ¬ ovBad ts c a' b') ∧ x = 0 ∧ y = 0 ∧ ok = false)
def OvRes (ts : List Tk) (c : Int) (w : World) (e : Ending) (w' : World) : Prop :=
  ∃ x y ok, e = .returned (.tuple #[.int .i64 x, .int .i64 y, .bool ok]) ∧ OvVal ts c x y ok ∧ Ext w w'
theorem OvRes.yes {ts : List Tk} {c : Int} {w w' : World} {e : Ending} {a b : Nat} (he : e = .returned (.tuple #[.int .i64 a, .int .i64 b, .bool true])) (h1 : (vTks ts && inR c 0 9) = true) (h2 : a < b) (h3 : b ≤ 11) (h4 : ovBad ts c a b)
    (h5 : ∀ a' b' : Nat, a' < b' → b' ≤ 11 → (a' < a ∨ a' = a ∧ b' < b) → ¬ ovBad ts c a' b') (hx : Ext w w') : OvRes ts c w e w' :=
  ⟨_, _, _, he, .inl ⟨h1, rfl, a, b, rfl, rfl, h2, h3, h4, h5⟩, hx⟩
theorem OvRes.no {ts : List Tk} {c : Int} {w w' : World} {e : Ending} (he : e = .returned (.tuple #[.int .i64 0, .int .i64 0, .bool false])) (h1 : (vTks ts && inR c 0 9) = true → ∀ a' b' : Nat, a' < b' → b' ≤ 11 → ¬ ovBad ts c a' b') (hx : Ext w w') : OvRes ts c w e w' :=
  ⟨_, _, _, he, .inr ⟨h1, rfl, rfl, rfl⟩, hx⟩
theorem OvVal.uniq {ts : List Tk} {c x y x' y' : Int} {ok ok' : Bool} (h : OvVal ts c x y ok) (h' : OvVal ts c x' y' ok') : x = x' ∧ y = y' ∧ ok = ok' := by
  rcases h with ⟨h1, rfl, a, b, rfl, rfl, h2, h3, h4, h5⟩ | ⟨h1, rfl, rfl, rfl⟩
  · rcases h' with ⟨_, rfl, a', b', rfl, rfl, h2', h3', h4', h5'⟩ | ⟨h1', rfl, rfl, rfl⟩
    · have e1 : ¬ (a' < a ∨ a' = a ∧ b' < b) := fun hh => h5 a' b' h2' h3' hh h4'
      have e2 : ¬ (a < a' ∨ a = a' ∧ b < b') := fun hh => h5' a b h2 h3 hh h4
      refine ⟨?_, ?_, rfl⟩ <;> omega
    · exact absurd h4 (h1' h1 a b h2 h3)
  · rcases h' with ⟨h1', rfl, a', b', rfl, rfl, h2', h3', h4', h5'⟩ | ⟨h1', rfl, rfl, rfl⟩
    · exact absurd h4' (h1 h1' a' b' h2' h3')
    · exact ⟨rfl, rfl, rfl⟩

set_option maxHeartbeats 2000000 in
theorem OverloadS_any (v : Value) (ts : List Tk) (c : Int) (w : World) (hT : STasks w v ts) :
    Calls Try.prog 33 #[v, .int .i64 c] w (OvRes ts c w) := by
  by_cases h1 : (vTks ts && inR c 0 9) = true
  · have hv : vTks ts = true := by simp at h1; exact h1.1
    have hc : 0 ≤ c ∧ c ≤ 9 := by simp [inR] at h1; omega
    obtain ⟨hc1, hc2⟩ := hc
    have Hv := hide hv; clear hv
    have H1 := hide h1
    go_enter Try.func33, Try.ntmps33
    go_wp2_with (go_at_call 36; refine (validTasks_any _ ts _ _ hT).mono ?_; rintro e w1 ⟨rfl, hx1⟩)
    clear h1
    go_loopw [7] (fun i wr => ∃ k : Nat, k ≤ 11 ∧ i = .int .i64 k ∧ (∀ a b : Nat, a < b → b ≤ 11 → a < k → ¬ ovBad ts c a b) ∧ Ext w wr) (fun i _ => 11 - (intOf i).toNat)
    case atStart => exact ⟨0, by omega, rfl, fun a b _ _ h => absurd h (by omega), hx1⟩
    case round =>
      obtain ⟨k, hk, rfl, hn, hx⟩ := hrel
      have Hn := hide hn; clear hn
      by_cases hlt : k < 11
      · have hdk : decide ((k : Int) < 11) = true := by simp; omega
        go_wp2
        clear hdk
        have Hx := hide hx; clear hx
        go_loopw [8] (fun i wr => ∃ j : Nat, k < j ∧ j ≤ 12 ∧ i = .int .i64 j ∧ (∀ a b : Nat, a < b → b ≤ 11 → (a < k ∨ a = k ∧ b < j) → ¬ ovBad ts c a b) ∧ Ext w wr) (fun i _ => 12 - (intOf i).toNat)
        case atStart => exact ⟨k + 1, by omega, by omega, by go_num, fun a b hab hb h => Hn.out a b hab hb (by omega), Hx.out⟩
        case round =>
          obtain ⟨j, hkj, hj, rfl, hn2, hx2⟩ := hrel
          have Hn2 := hide hn2; clear hn2
          by_cases hj2 : j ≤ 11
          · obtain ⟨e1, e2⟩ := en_bd Hv.out k j ts.length (Nat.le_refl _)
            have hl4 := (vTks_len Hv.out).2
            have m0 : 0 ≤ c * ((j : Int) - k) ∧ c * ((j : Int) - k) ≤ 99 := by
              have a1 := Int.mul_nonneg hc1 (show 0 ≤ (j : Int) - k by omega)
              have a2 := Int.mul_le_mul hc2 (show (j : Int) - k ≤ 11 by omega) (by omega) (by omega : (0 : Int) ≤ 9)
              omega
            obtain ⟨m1, m2⟩ := m0
            by_cases hbad : c * ((j : Int) - k) < en ts k j ts.length
            · have hb : ovBad ts c k j := hbad
              have HB := hide hb; clear hb
              go_wp2_with (go_at_call 65; refine (requiredEnergy_any _ ts _ _ _ (hT.ext hx2) Hv.out (by omega) (by omega) (by omega)).mono ?_; rintro e w2 ⟨rfl, hx3⟩)
              go_ret3
              exact OvRes.yes rfl H1.out (by omega) (by omega) HB.out Hn2.out (hx2.trans hx3)
            · have hb : ¬ ovBad ts c k j := hbad
              have HB := hide hb; clear hb
              go_wp2_with (go_at_call 65; refine (requiredEnergy_any _ ts _ _ _ (hT.ext hx2) Hv.out (by omega) (by omega) (by omega)).mono ?_; rintro e w2 ⟨rfl, hx3⟩)
              go_roundw
              case rel => exact ⟨j + 1, by omega, by omega, by go_num, fun a b hab hb' h' => by
                rcases (by omega : (a < k ∨ a = k ∧ b < j) ∨ (a = k ∧ b = j)) with h' | ⟨rfl, rfl⟩
                · exact Hn2.out a b hab hb' h'
                · exact HB.out, hx2.trans hx3⟩
              case measure => simp [intOf]; omega
          · go_wp2
            go_roundw
            case rel => exact ⟨k + 1, by omega, by go_num, fun a b hab hb' h' => Hn2.out a b hab hb' (by omega), hx2⟩
            case measure => simp [intOf]; omega
      · go_wp2
        go_ret3
        exact OvRes.no rfl (fun _ a b hab hb' => Hn.out a b hab hb' (by omega)) hx
  · have h1' : (vTks ts && inR c 0 9) = false := Bool.eq_false_iff.2 h1
    clear h1
    go_enter Try.func33, Try.ntmps33
    go_wp2_with (go_at_call 36; refine (validTasks_any _ ts _ _ hT).mono ?_; rintro e w1 ⟨rfl, hx1⟩)
    go_ret3
    exact OvRes.no rfl (fun h => by rw [h1'] at h; cases h) hx1

set_option maxHeartbeats 2000000 in
theorem OverloadI_any (v : Value) (ts : List Tk) (c : Int) (w : World) (hT : STasks w v ts) :
    Calls Try.prog 32 #[v, .int .i64 c] w (OvRes ts c w) := by
  by_cases h1 : (vTks ts && inR c 0 9) = true
  · have hv : vTks ts = true := by simp at h1; exact h1.1
    have hc : 0 ≤ c ∧ c ≤ 9 := by simp [inR] at h1; omega
    obtain ⟨hc1, hc2⟩ := hc
    have Hv := hide hv; clear hv
    have H1 := hide h1
    go_enter Try.func32, Try.ntmps32
    go_wp2_with (go_at_call 19; refine (ValidTasksI_any _ ts _ _ hT).mono ?_; rintro e w1 ⟨rfl, hx1⟩)
    clear h1
    go_loopw [13] (fun i wr => ∃ k : Nat, k ≤ 11 ∧ i = .int .i64 k ∧ (∀ a b : Nat, a < b → b ≤ 11 → a < k → ¬ ovBad ts c a b) ∧ Ext w wr) (fun i _ => 11 - (intOf i).toNat)
    case atStart => exact ⟨0, by omega, rfl, fun a b _ _ h => absurd h (by omega), hx1⟩
    case round =>
      obtain ⟨k, hk, rfl, hn, hx⟩ := hrel
      have Hn := hide hn; clear hn
      by_cases hlt : k < 11
      · have hdk : decide ((k : Int) < 11) = true := by simp; omega
        go_wp2
        clear hdk
        have Hx := hide hx; clear hx
        go_loopw [8] (fun i wr => ∃ j : Nat, k < j ∧ j ≤ 12 ∧ i = .int .i64 j ∧ (∀ a b : Nat, a < b → b ≤ 11 → (a < k ∨ a = k ∧ b < j) → ¬ ovBad ts c a b) ∧ Ext w wr) (fun i _ => 12 - (intOf i).toNat)
        case atStart => exact ⟨k + 1, by omega, by omega, by go_num, fun a b hab hb h => Hn.out a b hab hb (by omega), Hx.out⟩
        case round =>
          obtain ⟨j, hkj, hj, rfl, hn2, hx2⟩ := hrel
          have Hn2 := hide hn2; clear hn2
          by_cases hj2 : j ≤ 11
          · obtain ⟨e1, e2⟩ := en_bd Hv.out k j ts.length (Nat.le_refl _)
            have hl4 := (vTks_len Hv.out).2
            have m0 : 0 ≤ c * ((j : Int) - k) ∧ c * ((j : Int) - k) ≤ 99 := by
              have a1 := Int.mul_nonneg hc1 (show 0 ≤ (j : Int) - k by omega)
              have a2 := Int.mul_le_mul hc2 (show (j : Int) - k ≤ 11 by omega) (by omega) (by omega : (0 : Int) ≤ 9)
              omega
            obtain ⟨m1, m2⟩ := m0
            by_cases hbad : c * ((j : Int) - k) < en ts k j ts.length
            · have hb : ovBad ts c k j := hbad
              have HB := hide hb; clear hb
              go_wp2_with (go_at_call 63; refine (energy_any _ ts _ _ _ (hT.ext hx2) Hv.out (by omega) (by omega) (by omega)).mono ?_; rintro e w2 ⟨rfl, hx3⟩)
              go_ret3
              exact OvRes.yes rfl H1.out (by omega) (by omega) HB.out Hn2.out (hx2.trans hx3)
            · have hb : ¬ ovBad ts c k j := hbad
              have HB := hide hb; clear hb
              go_wp2_with (go_at_call 63; refine (energy_any _ ts _ _ _ (hT.ext hx2) Hv.out (by omega) (by omega) (by omega)).mono ?_; rintro e w2 ⟨rfl, hx3⟩)
              go_roundw
              case rel => exact ⟨j + 1, by omega, by omega, by go_num, fun a b hab hb' h' => by
                rcases (by omega : (a < k ∨ a = k ∧ b < j) ∨ (a = k ∧ b = j)) with h' | ⟨rfl, rfl⟩
                · exact Hn2.out a b hab hb' h'
                · exact HB.out, hx2.trans hx3⟩
              case measure => simp [intOf]; omega
          · go_wp2
            go_roundw
            case rel => exact ⟨k + 1, by omega, by go_num, fun a b hab hb' h' => Hn2.out a b hab hb' (by omega), hx2⟩
            case measure => simp [intOf]; omega
      · go_wp2
        go_ret3
        exact OvRes.no rfl (fun _ a b hab hb' => Hn.out a b hab hb' (by omega)) hx
  · have h1' : (vTks ts && inR c 0 9) = false := Bool.eq_false_iff.2 h1
    clear h1
    go_enter Try.func32, Try.ntmps32
    go_wp2_with (go_at_call 19; refine (ValidTasksI_any _ ts _ _ hT).mono ?_; rintro e w1 ⟨rfl, hx1⟩)
    go_ret3
    exact OvRes.no rfl (fun h => by rw [h1'] at h; cases h) hx1

end Go.Proofs.Ytofnihagfjdocaa
