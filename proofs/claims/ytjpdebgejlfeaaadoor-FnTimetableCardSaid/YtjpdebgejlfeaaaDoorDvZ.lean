/- The walk of the program's valid, of one task. -/
import Derived.Test.YtjpdebgejlfeaaaDoorUtlA
import Derived.Test.YtjpdebgejlfeaaaDoorDom
namespace Go.Proofs.YtjpdebgejlfeaaaDoor
open Go.RowKit

theorem valid_any (s d m : Int) (w : World) :
    Calls Tryd.prog 64 #[.agg #[.int .i64 s, .int .i64 d, .int .i64 m]] w (Ret (.bool (vTk ⟨s, d, m⟩)) w) := by
  by_cases h1 : vDom s = true
  · by_cases h2 : (s == 0) = true
    · have h2' : (s != 0) = false := by simpa using h2
      go_enter Tryd.func64, Tryd.ntmps64
      go_wp2_with (first | (go_at_call 77; refine (ValidDomain_any _ _).mono ?_; rintro e w' ⟨rfl, rfl⟩) | (go_at_call 61; refine (within_any _ _ _ _).mono ?_; rintro e w' ⟨rfl, rfl⟩))
      go_ret
      exact Ret.mk (ret_b (vTk_no (.inr (.inl h2))).symm) ((Ext.refl w).alloc _)
    · have h2' : (s != 0) = true := by simpa using h2
      have h2'' : (s == 0) = false := by simpa using h2
      clear h2
      by_cases h3 : inR d 1 6 = true
      · go_enter Tryd.func64, Tryd.ntmps64
        go_wp2_with (first | (go_at_call 77; refine (ValidDomain_any _ _).mono ?_; rintro e w' ⟨rfl, rfl⟩) | (go_at_call 61; refine (within_any _ _ _ _).mono ?_; rintro e w' ⟨rfl, rfl⟩))
        go_ret
        exact Ret.mk (ret_b (by simp [vTk, *])) ((Ext.refl w).alloc _)
      · have h3' : inR d 1 6 = false := Bool.eq_false_iff.2 h3
        clear h3
        go_enter Tryd.func64, Tryd.ntmps64
        go_wp2_with (first | (go_at_call 77; refine (ValidDomain_any _ _).mono ?_; rintro e w' ⟨rfl, rfl⟩) | (go_at_call 61; refine (within_any _ _ _ _).mono ?_; rintro e w' ⟨rfl, rfl⟩))
        go_ret
        exact Ret.mk (ret_b (by simp [vTk, *])) ((Ext.refl w).alloc _)
  · have h1' : vDom s = false := Bool.eq_false_iff.2 h1
    clear h1
    go_enter Tryd.func64, Tryd.ntmps64
    go_wp2_with (first | (go_at_call 77; refine (ValidDomain_any _ _).mono ?_; rintro e w' ⟨rfl, rfl⟩) | (go_at_call 61; refine (within_any _ _ _ _).mono ?_; rintro e w' ⟨rfl, rfl⟩))
    go_ret
    exact Ret.mk (ret_b (vTk_no (.inl h1')).symm) ((Ext.refl w).alloc _)

end Go.Proofs.YtjpdebgejlfeaaaDoor
/- DomainValues of the program. -/
namespace Go.Proofs.YtjpdebgejlfeaaaDoor
open Go.RowKit

end Go.Proofs.YtjpdebgejlfeaaaDoor
