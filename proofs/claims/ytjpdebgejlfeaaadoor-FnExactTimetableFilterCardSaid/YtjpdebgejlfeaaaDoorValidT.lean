/- The walks of the functions that decide whether tasks are valid. -/
import Derived.Test.YtjpdebgejlfeaaaDoorUtlA
namespace Go.Proofs.YtjpdebgejlfeaaaDoor
open Go.RowKit

theorem capacityOk_any (n : Int) (w : World) :
    Calls Tryd.prog 42 #[.int .i64 n] w fun e w' => e = .returned (.bool (inR n 0 9)) ∧ w = w' := by
  go_enter Tryd.func42, Tryd.ntmps42
  go_wp2_with (go_at_call 61; refine (within_any _ _ _ _).mono ?_; rintro e w' ⟨rfl, rfl⟩)
  go_ret
  exact ⟨rfl, rfl⟩

set_option maxHeartbeats 1000000 in
theorem validTasks_any (v : Value) (ts : List Tk) (c : Int) (w : World) (hS : STasks w v ts) :
    Calls Tryd.prog 19 #[v, .int .i64 c] w (Ret (.bool (vTks ts && inR c 0 9)) w) := by
  have hS0 := hS
  obtain ⟨A, cp, rfl, hl, hc, hb, hcell⟩ := hS
  have hlen : ts.length ≤ 9223372036854775807 := by omega
  have Hc := hide hcell; clear hcell
  have Hb := hide hb; clear hb
  go_enter Tryd.func19, Tryd.ntmps19
  go_wp2
  go_loopw [5] (fun i wr => ∃ k : Nat, k ≤ ts.length ∧ i = .int .i64 k ∧ (∀ j, j < k → vTk (tk0 ts j) = true) ∧ Ext w wr) (fun i _ => ts.length - (intOf i).toNat)
  case atStart => exact ⟨0, Nat.zero_le _, rfl, fun j hj => absurd hj (by omega), Ext.refl w⟩
  case round =>
    obtain ⟨k, hk, rfl, hv, hx⟩ := hrel
    have Hv := hide hv; clear hv
    by_cases hlt : k < ts.length
    · obtain ⟨b, off, rfl, hbl, hcs⟩ := Hc.out (by omega)
      obtain ⟨g1, g2, g3⟩ := hcs k hlt
      have f1 := (hx.cell (p := ⟨b, off + k * 3, none⟩) hbl).trans g1
      have f2 := (hx.cell (p := ⟨b, off + k * 3 + 1, none⟩) hbl).trans g2
      have f3 := (hx.cell (p := ⟨b, off + k * 3 + 2, none⟩) hbl).trans g3
      clear hcs g1 g2 g3
      by_cases h1 : vDom (tkS ts k) = true
      · by_cases h2 : (tkS ts k == 0) = true
        · go_wp2_with (first | (go_at_call 36; refine (validDomain_any _ _).mono ?_; rintro e w' ⟨rfl, rfl⟩) | (go_at_call 37; refine (inRange_any _ _ _ _).mono ?_; rintro e w' ⟨rfl, rfl⟩))
          go_ret
          exact Ret.mk (by rw [vTks_false hlt (vTk_no (.inr (.inl h2)))]; rfl) (hx.alloc _)
        · by_cases h3 : inR (tkD ts k) 1 6 = true
          · by_cases h4 : inR (tkM ts k) 0 9 = true
            · go_wp2_with (first | (go_at_call 36; refine (validDomain_any _ _).mono ?_; rintro e w' ⟨rfl, rfl⟩) | (go_at_call 37; refine (inRange_any _ _ _ _).mono ?_; rintro e w' ⟨rfl, rfl⟩))
              go_roundw
              case rel => exact ⟨k + 1, by omega, by go_num, upto_succ Hv.out (vTk_of h1 (Bool.eq_false_iff.2 h2) h3 h4), hx.alloc _⟩
              case measure => simp [intOf]; omega
            · go_wp2_with (first | (go_at_call 36; refine (validDomain_any _ _).mono ?_; rintro e w' ⟨rfl, rfl⟩) | (go_at_call 37; refine (inRange_any _ _ _ _).mono ?_; rintro e w' ⟨rfl, rfl⟩))
              go_ret
              exact Ret.mk (by rw [vTks_false hlt (vTk_no (.inr (.inr (.inr (Bool.eq_false_iff.2 h4)))))]; rfl) (hx.alloc _)
          · go_wp2_with (first | (go_at_call 36; refine (validDomain_any _ _).mono ?_; rintro e w' ⟨rfl, rfl⟩) | (go_at_call 37; refine (inRange_any _ _ _ _).mono ?_; rintro e w' ⟨rfl, rfl⟩))
            go_ret
            exact Ret.mk (by rw [vTks_false hlt (vTk_no (.inr (.inr (.inl (Bool.eq_false_iff.2 h3)))))]; rfl) (hx.alloc _)
      · go_wp2_with (first | (go_at_call 36; refine (validDomain_any _ _).mono ?_; rintro e w' ⟨rfl, rfl⟩) | (go_at_call 37; refine (inRange_any _ _ _ _).mono ?_; rintro e w' ⟨rfl, rfl⟩))
        go_ret
        exact Ret.mk (by rw [vTks_false hlt (vTk_no (.inl (Bool.eq_false_iff.2 h1)))]; rfl) (hx.alloc _)
    · have hkl : k = ts.length := by omega
      have Hkl := hide hkl; clear hkl
      go_wp2_with (first | (go_at_call 37; refine (inRange_any _ _ _ _).mono ?_; rintro e w' ⟨rfl, rfl⟩))
      all_goals go_ret
      all_goals refine Ret.mk ?_ hx
      all_goals rw [vTks_all (fun j hj => Hv.out j (by rw [Hkl.out]; exact hj))]
      all_goals simp [*]
end Go.Proofs.YtjpdebgejlfeaaaDoor
