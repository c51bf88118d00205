/- The walk of the comparison of two slices of tasks. -/
import Derived.Test.YtjpdebgejlfeaaaDoorLwsA
namespace Go.Proofs.YtjpdebgejlfeaaaDoor
open Go.RowKit

def eqTk (a b : Tk) : Bool := decide (a.s = b.s) && decide (a.d = b.d) && decide (a.m = b.m)
theorem eqTk_self (a : Tk) : eqTk a a = true := by simp [eqTk]

theorem eqTask_same (s d m : Int) (w : World) :
    Calls Tryd.prog 31 #[.agg #[.int .i64 s, .int .i64 d, .int .i64 m], .agg #[.int .i64 s, .int .i64 d, .int .i64 m]] w (Ret (.bool true) w) :=
  (eqTask_any s d m s d m w).mono fun _ _ h => ⟨by simpa using h.1, h.2⟩
set_option maxHeartbeats 1000000 in
/-- Two slices that read as the same tasks are found equal. -/
theorem eqTaskS_same (v v' : Value) (ts : List Tk) (w : World) (hS : STasks w v ts) (hS' : STasks w v' ts) :
    Calls Tryd.prog 10 #[v, v'] w (Ret (.bool true) w) := by
  obtain ⟨A, cp, rfl, hl, hc, hb, hcell⟩ := hS
  obtain ⟨A', cp', rfl, hl', hc', hb', hcell'⟩ := hS'
  have hlen : ts.length ≤ 9223372036854775807 := by omega
  have Hc := hide hcell; clear hcell
  have Hb := hide hb; clear hb
  have Hc' := hide hcell'; clear hcell'
  have Hb' := hide hb'; clear hb'
  go_enter Tryd.func10, Tryd.ntmps10
  go_wp2
  go_loopw [5] (fun i wr => ∃ k : Nat, k ≤ ts.length ∧ i = .int .i64 k ∧ Ext w wr) (fun i _ => ts.length - (intOf i).toNat)
  case atStart => exact ⟨0, Nat.zero_le _, rfl, Ext.refl w⟩
  case round =>
    obtain ⟨k, hk, rfl, hxr⟩ := hrel
    by_cases hlt : k < ts.length
    · obtain ⟨b, off, rfl, hbl, hcs⟩ := Hc.out (by omega)
      obtain ⟨b', off', rfl, hbl', hcs'⟩ := Hc'.out (by omega)
      obtain ⟨g1, g2, g3⟩ := hcs k hlt
      obtain ⟨g1', g2', g3'⟩ := hcs' k hlt
      have f1 := (hxr.cell (p := ⟨b, off + k * 3, none⟩) hbl).trans g1
      have f2 := (hxr.cell (p := ⟨b, off + k * 3 + 1, none⟩) hbl).trans g2
      have f3 := (hxr.cell (p := ⟨b, off + k * 3 + 2, none⟩) hbl).trans g3
      have f1' := (hxr.cell (p := ⟨b', off' + k * 3, none⟩) hbl').trans g1'
      have f2' := (hxr.cell (p := ⟨b', off' + k * 3 + 1, none⟩) hbl').trans g2'
      have f3' := (hxr.cell (p := ⟨b', off' + k * 3 + 2, none⟩) hbl').trans g3'
      have hbr : b < wr.heap.size := Nat.lt_of_lt_of_le hbl hxr.size
      have hbr' : b' < wr.heap.size := Nat.lt_of_lt_of_le hbl' hxr.size
      clear hcs g1 g2 g3 hcs' g1' g2' g3'
      go_wp2
      refine wp_region_ext (by kernel_rfl) (by kernel_rfl) ?_
      iterate 8 (apply quiet_val; (focus rfl); (focus (intro w' hw'; have hk' := hw'.cells; go_simp; all_goals exact rfl)); simp only [Act.put, List.setIfInBounds_toArray, List.set_cons_succ, List.set_cons_zero])
      apply quiet_call; (focus rfl); (focus (intro w' hw'; go_simp; all_goals (first | exact rfl | (apply And.intro <;> exact rfl))))
      · exact fun w' hw' => Ret.quiet (eqTask_same _ _ _ _) hw'
      (simp only [Act.put, List.setIfInBounds_toArray, List.set_cons_succ, List.set_cons_zero])
      (apply quiet_val; (focus rfl); (focus (intro w' hw'; have hk' := hw'.cells; go_simp; all_goals exact rfl)); simp only [Act.put, List.setIfInBounds_toArray, List.set_cons_succ, List.set_cons_zero])
      refine wpQuiet_nil ?_
      intro w2 hx2
      go_wp2
      go_roundw
      case rel => exact ⟨k + 1, by omega, by go_num, hxr.trans hx2⟩
      case measure => simp [intOf]; omega
    · go_wp2
      go_ret
      exact Ret.mk rfl hxr
end Go.Proofs.YtjpdebgejlfeaaaDoor
