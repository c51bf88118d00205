/- fixpoint of the reference. -/
import Derived.Test.YtllgicpiddapeaaDoorSpB
import Derived.Test.YtllgicpiddapeaaDoorPropP
import Derived.Test.YtllgicpiddapeaaDoorProp
namespace Go.Proofs.YtllgicpiddapeaaDoor
open Go.RowKit

set_option maxHeartbeats 1000000 in
theorem equalIntsS_any (v v' : Value) (xs ys : List Int) (w : World) (hS : SInts w v xs) (hS' : SInts w v' ys) :
    Calls Tryd.prog 44 #[v, v'] w (Ret (.bool (decide (xs = ys))) w) := by
  have hS0 := hide hS
  have hS0' := hide hS'
  obtain ⟨A, cp, rfl, hl, hlen⟩ := hS.form
  obtain ⟨A', cp', rfl, hl', -⟩ := hS'.form
  clear hS hS'
  by_cases he : xs.length = ys.length
  · have heI : ((xs.length : Int) != (ys.length : Int)) = false := by simp [he]
    have HE := hide he
    clear he
    go_enter Tryd.func44, Tryd.ntmps44
    go_wp2
    go_loopw [5] (fun i wr => ∃ k : Nat, k ≤ xs.length ∧ i = .int .i64 k ∧ Ext w wr ∧ ∀ j, j < k → at0 xs j = at0 ys j) (fun i _ => xs.length - (intOf i).toNat)
    case atStart => exact ⟨0, Nat.zero_le _, rfl, Ext.refl w, fun j hj => by omega⟩
    case round =>
      obtain ⟨k, hk, rfl, hxr, hall⟩ := hrel
      have HA := hide hall
      clear hall
      by_cases hlt : k < xs.length
      · have hlt2 : k < ys.length := by rw [← HE.out]; exact hlt
        have hltI : (k : Int) < xs.length := by omega
        have hltI2 : (k : Int) < ys.length := by omega
        obtain ⟨b, off, rfl, hbl, f1⟩ := (hS0.out.ext hxr).at_ hlt
        obtain ⟨b', off', rfl, hbl', f1'⟩ := (hS0'.out.ext hxr).at_ hlt2
        cases hd : (at0 xs k != at0 ys k) with
        | true =>
          have HD := hide (show decide (xs = ys) = false by
            rw [decide_eq_false_iff_not]; intro e; rw [e] at hd; simp at hd)
          have HX := hide hxr
          clear hxr
          go_wp2
          refine wp_region_ext (by kernel_rfl) (by kernel_rfl) ?_
          iterate 9 (apply quiet_val; (focus rfl); (focus (intro w' hw'; have hk' := hw'.cells; go_simp; all_goals exact rfl)); simp only [Act.put, List.setIfInBounds_toArray, List.set_cons_succ, List.set_cons_zero])
          refine wpQuiet_nil ?_
          intro w2 hx2
          have HX2 := hide (HX.out.trans hx2)
          clear hx2
          go_wp2
          go_ret
          exact Ret.mk (ret_b HD.out.symm) HX2.out
        | false =>
          have HD := hide (show at0 xs k = at0 ys k by simpa using hd)
          have HX := hide hxr
          clear hxr
          go_wp2
          refine wp_region_ext (by kernel_rfl) (by kernel_rfl) ?_
          iterate 9 (apply quiet_val; (focus rfl); (focus (intro w' hw'; have hk' := hw'.cells; go_simp; all_goals exact rfl)); simp only [Act.put, List.setIfInBounds_toArray, List.set_cons_succ, List.set_cons_zero])
          refine wpQuiet_nil ?_
          intro w2 hx2
          have HX2 := hide (HX.out.trans hx2)
          clear hx2
          go_wp2
          go_roundw
          case rel => exact ⟨k + 1, by omega, by go_num, HX2.out, fun j hj => by
            by_cases e : j = k
            · subst e; exact HD.out
            · exact HA.out j (by omega)⟩
          case measure => simp [intOf]; omega
      · obtain rfl : k = xs.length := by omega
        have hkI : ¬ ((xs.length : Int) < xs.length) := by omega
        have HD := hide (show decide (xs = ys) = true from decide_eq_true (at0_ext HE.out HA.out))
        go_wp2
        go_ret
        exact Ret.mk (ret_b HD.out.symm) hxr
  · have heI : ((xs.length : Int) != (ys.length : Int)) = true := by simp; omega
    have HD := hide (show decide (xs = ys) = false by
      rw [decide_eq_false_iff_not]; intro e; exact he (by rw [e]))
    clear he
    go_enter Tryd.func44, Tryd.ntmps44
    go_wp2
    go_ret
    exact Ret.mk (ret_b HD.out.symm) (Ext.refl _)
set_option maxHeartbeats 1000000 in
theorem hasEmpty_any (v : Value) (xs : List Int) (w : World) (hS : SInts w v xs) :
    Calls Tryd.prog 43 #[v] w fun e w' => e = .returned (.bool (hasI xs 0)) ∧ w = w' := by
  have hS0 := hide hS
  obtain ⟨A, c, rfl, -, hln⟩ := hS.form
  clear hS
  go_enter Tryd.func43, Tryd.ntmps43
  go_wp2
  go_loop [3] (fun i => ∃ k : Nat, k ≤ xs.length ∧ i = .int .i64 k ∧ ∀ j, j < k → ((0 : Int) == at0 xs j) = false) (fun i => xs.length - (intOf i).toNat)
  case atStart => exact ⟨0, Nat.zero_le _, rfl, fun j hj => by omega⟩
  case round =>
    obtain ⟨k, hk, rfl, hno⟩ := hrel
    have HNO := hide hno
    clear hno
    by_cases hlt : k < xs.length
    · obtain ⟨b, off, rfl, hbl, f1⟩ := hS0.out.at_ hlt
      have hkI : (k : Int) < xs.length := by omega
      cases hx : (at0 xs k == 0) with
      | true =>
        have HF := hide (show hasI xs 0 = true from anyB_iff.2 ⟨k, hlt, by rw [beq_iff_eq] at hx ⊢; exact hx.symm⟩)
        go_wp2
        go_ret
        exact ⟨ret_b HF.out.symm, rfl⟩
      | false =>
        have HX := hide (show ((0 : Int) == at0 xs k) = false by rw [beq_eq_false_iff_ne] at hx ⊢; exact fun h => hx h.symm)
        go_wp2
        go_round
        case rel => exact ⟨k + 1, by omega, by go_num, upto_succ HNO.out HX.out⟩
        case measure => simp [intOf]; omega
    · obtain rfl : k = xs.length := by omega
      have HF := hide (show hasI xs 0 = false from anyB_false.2 HNO.out)
      go_wp2
      go_ret
      exact ⟨ret_b HF.out.symm, rfl⟩
end Go.Proofs.YtllgicpiddapeaaDoor
/- fixpoint of the reference: the walk. -/
namespace Go.Proofs.YtllgicpiddapeaaDoor
open Go.RowKit

theorem fixL_empty {st : List Int → List Int} {k : Nat} {ds : List Int} (h : hasI ds 0 = true) : fixL st (k + 1) ds = zer ds.length := by rw [fixL, if_pos h]
theorem fixL_done {st : List Int → List Int} {k : Nat} {ds : List Int} (h : hasI ds 0 = false) (h2 : st ds = ds) : fixL st (k + 1) ds = ds := by rw [fixL, h, if_neg (by simp), if_pos h2]
theorem fixL_on {st : List Int → List Int} {k : Nat} {ds : List Int} (h : hasI ds 0 = false) (h2 : st ds ≠ ds) : fixL st (k + 1) ds = fixL st k (st ds) := by rw [fixL, h, if_neg (by simp), if_neg h2]
theorem GoodD.i64 {cs : List Con} {n : Nat} {ds : List Int} (h : GoodD cs n ds) : ∀ i, i < ds.length → I64 (at0 ds i) := fun i hi => by have := h.2.1 i hi; unfold I64; omega
/-- A result of its own reads. -/
theorem OwnRes.ints {xs : List Int} {w w' : World} {v : Value} (h : OwnRes xs w (.returned v) w') (hb : ∀ i, i < xs.length → I64 (at0 xs i)) : SInts w' v xs := by
  obtain ⟨A, c, b, m, f, h1, h2, h3, h4, h5, h6⟩ := h
  injection h1 with h1
  subst h1
  exact SInts.own h2 h3 h5 hb
theorem OwnRes.form {xs : List Int} {w w' : World} {v : Value} (h : OwnRes xs w (.returned v) w') : ∃ A c, v = .slice A xs.length c := by
  obtain ⟨A, c, b, m, f, h1, -⟩ := h
  injection h1 with h1
  exact ⟨A, c, h1⟩
theorem OwnRes.ext0 {xs : List Int} {w w' : World} {e : Ending} (h : OwnRes xs w e w') : Ext w w' := by
  obtain ⟨A, c, b, m, f, h1, h2, h3, h4, h5, h6⟩ := h
  exact h6
theorem OwnRes.from {xs : List Int} {w w1 w' : World} {e : Ending} (h : OwnRes xs w1 e w') (hx : Ext w w1) : OwnRes xs w e w' := by
  obtain ⟨A, c, b, m, f, h1, h2, h3, h4, h5, h6⟩ := h
  exact ⟨A, c, b, m, f, h1, h2, h3, Nat.le_trans hx.size h4, h5, hx.trans h6⟩
theorem zer_own {w w' : World} {b n : Nat} (hr : w'.rowIs b 3 n (fun _ => .int .i64 0)) (hb : w.heap.size ≤ b) (hx : Ext w w') (h4 : n ≤ 4) : OwnRes (zer n) w (.returned (.slice (some ⟨b, 0, none⟩) n n)) w' :=
  ⟨_, n, b, n, _, by rw [zer_len], by rw [zer_len]; exact Nat.le_refl _, by rw [zer_len]; omega, hb, fun _ => ⟨rfl, hr, by rw [zer_len]; exact Nat.le_refl _, fun i _ => by rw [zer_at]⟩, hx⟩
end Go.Proofs.YtllgicpiddapeaaDoor
