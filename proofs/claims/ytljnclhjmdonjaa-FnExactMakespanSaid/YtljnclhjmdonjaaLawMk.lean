/- The walk of the law FnExactMakespan: it returns true, and memory only grows. -/
import Derived.Test.YtljnclhjmdonjaaLawVT
import Derived.Test.YtljnclhjmdonjaaLawsI
import Derived.Test.YtljnclhjmdonjaaMksp
namespace Go.Proofs.Ytljnclhjmdonjaa
open Go.RowKit

set_option maxHeartbeats 1000000 in
theorem lawMakespan (v v' : Value) (ts : List Tk) (xs : List Int) (w : World) (hT : STasks w v ts) (hS : SInts w v' xs) :
    Calls Try.prog 4 #[v, v'] w (Ret (.bool true) w) := by
  have Tb := hide hT.i64
  have hTb := hT.bytes
  have Sb := hide (fun i (hi : i < xs.length) => hS.i64 hi)
  have hSb := hS.bytes
  have hS0 := hide hS
  obtain ⟨A, cp, rfl, hl, hlen⟩ := hS.form
  clear hS
  by_cases hl1 : (1048576 : Int) < xs.length
  · go_enter Try.func4, Try.ntmps4
    go_wp2
    go_ret
    exact Ret.mk rfl (Ext.refl _)
  by_cases hlt : (1048576 : Int) < ts.length
  · have e1 : left0 1048576 ts.length < 0 := by rw [left0_neg hlt]; decide
    go_enter Try.func4, Try.ntmps4
    go_wp2_with (go_at_call 8; refine (szTaskS_any _ ts _ _ hT (by omega) (by omega)).mono ?_; rintro e w' ⟨rfl, rfl⟩)
    go_ret
    exact Ret.mk rfl (Ext.refl _)
  · have e1 : 0 ≤ left0 1048576 ts.length := by rw [left0_pos (by omega)]; omega
    go_enter Try.func4, Try.ntmps4
    go_wp2_with (go_at_call 8; refine (szTaskS_any _ ts _ _ hT (by omega) (by omega)).mono ?_; rintro e w' ⟨rfl, rfl⟩)
    refine (toTaskS_any _ ts _ hT).mono ?_
    rintro e w1 ⟨b1, -, rfl, hr1, hx1⟩
    have T1 := STasks.of_row hr1 hTb Tb.out
    go_wp2_with fail
    refine (toIntS_any _ xs _ (hS0.out.ext hx1)).mono ?_
    rintro e w2 ⟨b2, -, rfl, hr2, hx2⟩
    have S2 := SInts.of_row hr2 hSb Sb.out
    go_wp2_with fail
    refine (MakespanS_any _ _ ts xs _ (T1.ext hx2) S2).mono ?_
    rintro e w3 ⟨rfl, hx3⟩
    have hx03 := (hx1.trans hx2).trans hx3
    go_wp2_with fail
    refine (toTaskS_any _ ts _ (hT.ext hx03)).mono ?_
    rintro e w4 ⟨b4, -, rfl, hr4, hx4⟩
    have T4 := STasks.of_row hr4 hTb Tb.out
    go_wp2_with fail
    refine (toIntS_any _ xs _ (hS0.out.ext (hx03.trans hx4))).mono ?_
    rintro e w5 ⟨b5, -, rfl, hr5, hx5⟩
    have S5 := SInts.of_row hr5 hSb Sb.out
    go_wp2_with fail
    refine (MakespanI_any _ _ ts xs _ (T4.ext hx5) S5).mono ?_
    rintro e w6 ⟨rfl, hx6⟩
    have hx06 := ((hx03.trans hx4).trans hx5).trans hx6
    go_wp2_with fail
    refine (toTaskS_any _ ts _ (hT.ext hx06)).mono ?_
    rintro e w7 ⟨b7, -, rfl, hr7, hx7⟩
    have T7 := STasks.of_row hr7 hTb Tb.out
    go_wp2_with fail
    refine (eqTaskS_same _ _ ts _ (T4.ext ((hx5.trans hx6).trans hx7)) T7).mono ?_
    rintro e w8 ⟨rfl, hx8⟩
    go_wp2_with fail
    refine (toIntS_any _ xs _ (hS0.out.ext ((hx06.trans hx7).trans hx8))).mono ?_
    rintro e w9 ⟨b9, -, rfl, hr9, hx9⟩
    have S9 := SInts.of_row hr9 hSb Sb.out
    go_wp2_with fail
    refine (eqIntS_same _ _ xs _ (S5.ext (((hx6.trans hx7).trans hx8).trans hx9)) S9).mono ?_
    rintro e w10 ⟨rfl, hx10⟩
    go_wp2
    go_ret
    exact Ret.mk rfl ((((hx06.trans hx7).trans hx8).trans hx9).trans hx10)
end Go.Proofs.Ytljnclhjmdonjaa
