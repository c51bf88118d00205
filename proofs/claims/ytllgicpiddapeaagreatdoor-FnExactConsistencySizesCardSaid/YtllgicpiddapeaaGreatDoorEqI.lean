/- slices.Equal on ints. -/
import Derived.Test.YtllgicpiddapeaaGreatDoorBase
namespace Go.Proofs.YtllgicpiddapeaaGreatDoor
open Go.RowKit

set_option maxHeartbeats 2000000 in
theorem EqualI_any (v v' : Value) (xs ys : List Int) (w : World) (hS : SInts w v xs) (hS' : SInts w v' ys) : Calls Tryz.prog 84 #[v, v'] w (Ret (.bool (decide (xs = ys))) w) := by
  have hS0 := hide hS
  have hS0' := hide hS'
  obtain ⟨A, c, rfl, -, hln⟩ := hS.form
  obtain ⟨A', c', rfl, -, hln'⟩ := hS'.form
  clear hS hS'
  by_cases hl : xs.length = ys.length
  · have hl' : ((xs.length : Int) != (ys.length : Int)) = false := by simp [hl]
    have HL := hide hl
    clear hl
    go_enter Tryz.func84, Tryz.ntmps84
    go_wp2
    go_loopw [13] (fun i wr => ∃ k : Nat, k ≤ xs.length ∧ i = .int .i64 k ∧ Ext w wr ∧ ∀ j, j < k → at0 xs j = at0 ys j) (fun i _ => xs.length - (intOf i).toNat)
    case atStart => exact ⟨0, Nat.zero_le _, rfl, Ext.refl w, fun j hj => by omega⟩
    case round =>
      obtain ⟨k, hk, rfl, hxr, hq⟩ := hrel
      have HQ := hide hq
      clear hq
      by_cases hlt : k < xs.length
      · have hlt' : k < ys.length := by have := HL.out; omega
        have hkI : (k : Int) < xs.length := by omega
        have hkI' : (k : Int) < ys.length := by omega
        obtain ⟨b, off, rfl, hbl, f1⟩ := (hS0.out.ext hxr).at_ hlt
        obtain ⟨b', off', rfl, hbl', f1'⟩ := (hS0'.out.ext hxr).at_ hlt'
        go_wp2
        refine wp_region_ext (by kernel_rfl) (by kernel_rfl) ?_
        iterate 9 (apply quiet_val; (focus rfl); (focus (intro w' hw'; have hk' := hw'.cells; go_simp; all_goals exact rfl)); simp only [Act.put, List.setIfInBounds_toArray, List.set_cons_succ, List.set_cons_zero])
        refine wpQuiet_nil ?_
        intro w2 hx2
        have HX2 := hide (hxr.trans hx2)
        clear hx2 f1 f1'
        by_cases he : at0 xs k = at0 ys k
        · have he' : (at0 xs k != at0 ys k) = false := by simp [he]
          have HE := hide he
          clear he
          go_wp2
          go_roundw
          case rel => exact ⟨k + 1, by omega, by go_num, HX2.out, fun j hj => by
            by_cases e : j = k
            · subst e; exact HE.out
            · exact HQ.out j (by omega)⟩
          case measure => simp [intOf]; omega
        · have he' : (at0 xs k != at0 ys k) = true := by simpa using he
          have HE := hide he
          clear he
          go_wp2
          go_ret
          exact Ret.mk (ret_b (by symm; rw [decide_eq_false_iff_not]; intro e; exact HE.out (by rw [e]))) HX2.out
      · obtain rfl : k = xs.length := by omega
        go_wp2
        go_ret
        refine Ret.mk (ret_b ?_) hxr
        symm
        rw [decide_eq_true_iff]
        refine List.ext_getElem HL.out fun i h1 h2 => ?_
        have := HQ.out i h1
        unfold at0 at this
        rwa [getD_lt _ _ h1, getD_lt _ _ h2] at this
  · have hl' : ((xs.length : Int) != (ys.length : Int)) = true := by rw [bne_iff_ne]; omega
    have HL := hide hl
    clear hl
    go_enter Tryz.func84, Tryz.ntmps84
    go_wp2
    go_ret
    exact Ret.mk (ret_b (by symm; rw [decide_eq_false_iff_not]; intro e; exact HL.out (by rw [e]))) (Ext.refl w)
end Go.Proofs.YtllgicpiddapeaaGreatDoor
