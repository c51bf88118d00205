/- The walks of the checks of numbers in a range, in the reference and in the program. -/
import Derived.Test.YtllgicpiddapeaaGreatDoorRng
import Derived.Test.YtllgicpiddapeaaGreatDoorFuncsA
namespace Go.Proofs.YtllgicpiddapeaaGreatDoor
open Go.RowKit

set_option maxHeartbeats 1000000 in
theorem allInRange_any (v : Value) (xs : List Int) (l h : Int) (w : World) (hS : SInts w v xs) :
    Calls Tryz.prog 43 #[v, .int .i64 l, .int .i64 h] w fun e w' => e = .returned (.bool (allR xs l h)) ∧ w = w' := by
  have hS0 := hide hS
  obtain ⟨A, cp, rfl, hl, hlen⟩ := hS.form
  clear hS
  go_enter Tryz.func43, Tryz.ntmps43
  go_wp2
  go_loop [7] (fun i => ∃ k : Nat, k ≤ xs.length ∧ i = .int .i64 k ∧ (∀ j, j < k → inR (at0 xs j) l h = true)) (fun i => xs.length - (intOf i).toNat)
  case atStart => exact ⟨0, Nat.zero_le _, rfl, fun j hj => absurd hj (by omega)⟩
  case round =>
    obtain ⟨k, hk, rfl, hv⟩ := hrel
    have Hv := hide hv; clear hv
    by_cases hlt : k < xs.length
    · obtain ⟨b, off, rfl, hbl, f1⟩ := hS0.out.at_ hlt
      by_cases h1 : inR (at0 xs k) l h = true
      · go_wp2_with (go_at_call 42; refine (inRange_any _ _ _ _).mono ?_; rintro e w' ⟨rfl, rfl⟩)
        go_round
        case rel => exact ⟨k + 1, by omega, by go_num, upto_succ Hv.out h1⟩
        case measure => simp [intOf]; omega
      · have h1' : inR (at0 xs k) l h = false := Bool.eq_false_iff.2 h1
        clear h1
        go_wp2_with (go_at_call 42; refine (inRange_any _ _ _ _).mono ?_; rintro e w' ⟨rfl, rfl⟩)
        go_ret
        exact ⟨ret_b (allR_no hlt h1').symm, rfl⟩
    · have hkl : k = xs.length := by omega
      subst hkl
      go_wp2
      go_ret
      exact ⟨ret_b (allR_of Hv.out).symm, rfl⟩

theorem allIn1_any (n l h : Int) (b1 b2 : Nat) (w : World) (h1 : w.cell? ⟨b1, 0, none⟩ = some (.int .i64 l)) (h2 : w.cell? ⟨b2, 0, none⟩ = some (.int .i64 h)) :
    Calls Tryz.prog 81 #[.int .i64 n, .pointer (some ⟨b1, 0, none⟩), .pointer (some ⟨b2, 0, none⟩)] w fun e w' => e = .returned (.bool (!inR n l h)) ∧ w = w' := by
  go_enter Tryz.func81, Tryz.ntmps81
  go_wp2_with (go_at_call 82; refine (within_any _ _ _ _).mono ?_; rintro e w' ⟨rfl, rfl⟩)
  go_ret
  exact ⟨rfl, rfl⟩

theorem allR_any (xs : List Int) (l h : Int) : allR xs l h = !anyB (fun i => !inR (at0 xs i) l h) xs.length := by
  by_cases hh : ∀ j, j < xs.length → inR (at0 xs j) l h = true
  · rw [allR_of hh, anyB_false.2 (fun i hi => by simp [hh i hi])]; rfl
  · have h' : ∃ j, j < xs.length ∧ inR (at0 xs j) l h = false := by simpa using hh
    obtain ⟨j, hj, hf⟩ := h'
    rw [anyB_iff.2 ⟨j, hj, by simp [hf]⟩, allR_no hj hf]; rfl

set_option maxHeartbeats 1000000 in
theorem allIn_any (v : Value) (xs : List Int) (l h : Int) (w : World) (hS : SInts w v xs) :
    Calls Tryz.prog 49 #[v, .int .i64 l, .int .i64 h] w (Ret (.bool (allR xs l h)) w) := by
  have hS0 := hide hS
  obtain ⟨A, cp, rfl, hl, hlen⟩ := hS.form
  clear hS
  go_enter Tryz.func49, Tryz.ntmps49
  go_wp2_with fail
  refine (ContainsFuncI_any _ xs 81 _ (fun i => !inR (at0 xs i) l h) _ (hS0.out.ext (((Ext.refl w).alloc _).alloc _)) (callFunc_body Tryz.func81 (by decide) rfl) (hide fun i hi W hW => ?_)).mono ?_
  · refine (allIn1_any _ l h _ _ W ((hW.cells _ _ (by simp; omega)).trans ?_) ((hW.cells _ _ (by simp)).trans ?_)).mono ?_
    · go_simp
    · go_simp
    · rintro e w' ⟨rfl, rfl⟩
      exact Ret.same rfl
  rintro e w' ⟨rfl, hx⟩
  go_wp2
  go_ret
  exact Ret.mk (ret_b (by rw [allR_any])) ((((Ext.refl w).alloc _).alloc _).trans hx)

end Go.Proofs.YtllgicpiddapeaaGreatDoor
