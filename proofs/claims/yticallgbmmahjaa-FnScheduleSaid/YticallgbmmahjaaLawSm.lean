/- The walk of the law FnScheduleMore: it returns true, and memory only grows. -/
import Derived.Test.YticallgbmmahjaaLawOv2
import Derived.Test.YticallgbmmahjaaQ6
import Derived.Test.YticallgbmmahjaaLawSc
namespace Go.Proofs.Yticallgbmmahjaa
open Go.RowKit

set_option maxHeartbeats 1000000 in
/-- Two slices that read as the same ints are found equal. -/
theorem equalInts_same (v v' : Value) (xs : List Int) (w : World) (hS : SInts w v xs) (hS' : SInts w v' xs) :
    Calls Try.prog 7 #[v, v'] w (Ret (.bool true) w) := by
  have hS0 := hide hS
  have hS0' := hide hS'
  obtain ⟨A, cp, rfl, hl, hlen⟩ := hS.form
  obtain ⟨A', cp', rfl, hl', -⟩ := hS'.form
  clear hS hS'
  go_enter Try.func7, Try.ntmps7
  go_wp2
  go_loopw [5] (fun i wr => ∃ k : Nat, k ≤ xs.length ∧ i = .int .i64 k ∧ Ext w wr) (fun i _ => xs.length - (intOf i).toNat)
  case atStart => exact ⟨0, Nat.zero_le _, rfl, Ext.refl w⟩
  case round =>
    obtain ⟨k, hk, rfl, hxr⟩ := hrel
    by_cases hlt : k < xs.length
    · obtain ⟨b, off, rfl, hbl, f1⟩ := (hS0.out.ext hxr).at_ hlt
      obtain ⟨b', off', rfl, hbl', f1'⟩ := (hS0'.out.ext hxr).at_ hlt
      go_wp2
      refine wp_region_ext (by kernel_rfl) (by kernel_rfl) ?_
      iterate 9 (apply quiet_val; (focus rfl); (focus (intro w' hw'; have hk' := hw'.cells; go_simp; all_goals exact rfl)); simp only [Act.put, List.setIfInBounds_toArray, List.set_cons_succ, List.set_cons_zero])
      refine wpQuiet_nil ?_
      intro w2 hx2
      go_wp2
      go_roundw
      case rel => exact ⟨k + 1, by omega, by go_num, hxr.trans hx2⟩
      case measure => simp [intOf]; omega
    · go_wp2
      go_ret
      exact Ret.mk rfl hxr
set_option maxHeartbeats 1000000 in
theorem DrawSchedule_any (v : Value) (n : Nat) (w : World) (hB : SBytes w v n) : Calls Try.prog 12 #[v] w (DrawnTC w) := by
  have HB := hide hB
  obtain ⟨A, c, rfl, -⟩ := hB
  go_enter Try.func12, Try.ntmps12
  go_wp2_with fail
  refine (newReader_any w w _ n HB.out (Ext.refl w)).mono ?_
  rintro e w1 ⟨br, rfl, hR, hx1, hbr⟩
  have HX := hide hx1
  clear hx1
  go_wp2_with fail
  refine (anyTasks_any w br 0 _ (by omega) hR).mono ?_
  intro e w2 h
  have hd := TasksGot.to h HX.out hbr
  obtain ⟨v2, ts, c2, rfl, q⟩ := hd
  have HE := hide (show DrawnTC w (.returned (.tuple #[v2, .int .i64 c2])) w2 from ⟨v2, ts, c2, rfl, q⟩)
  clear h q
  go_wp2
  go_ret2
  exact HE.out
end Go.Proofs.Yticallgbmmahjaa
