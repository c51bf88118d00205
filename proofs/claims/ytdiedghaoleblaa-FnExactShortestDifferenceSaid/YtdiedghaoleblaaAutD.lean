/- The walk of AutomatonAccepts in the program. -/
import Derived.Test.YtdiedghaoleblaaAutA
namespace Go.Proofs.Ytdiedghaoleblaa
open Go.RowKit

theorem mRows_ok {a : Au} (hv : vAut a = true) : (mRows a).length * 24 ≤ 140737488355328 ∧ (∀ i, i < (mRows a).length → (rw0 (mRows a) i).length * 8 ≤ 140737488355328) ∧ (∀ i, i < (mRows a).length → ∀ j, j < (rw0 (mRows a) i).length → I64 (at0 (rw0 (mRows a) i) j)) := by
  have hl := vAut_len hv
  rw [mRows_len]
  refine ⟨by omega, fun i hi => ?_, fun i hi j hj => ?_⟩
  · have := (mRows_row hv hi).1; omega
  · obtain ⟨h1, h2⟩ := mRows_row hv hi
    have := h2 j (by omega)
    unfold I64
    omega
theorem runM_in {a : Au} (hv : vAut a = true) {xs : List Int} (hx : allR xs 0 5 = true) : ∀ k, k ≤ xs.length → 0 ≤ runM a 0 xs k ∧ runM a 0 xs k ≤ a.next.length := by
  intro k
  induction k with
  | zero => intro _; rw [runM]; omega
  | succ k ih =>
    intro hk
    obtain ⟨h1, h2⟩ := ih (by omega)
    obtain ⟨x1, x2⟩ := allR_at hx (k := k) (by omega)
    rw [runM]
    exact (mRows_row hv (by omega)).2 _ (by omega)
set_option maxHeartbeats 2000000 in
theorem AutomatonAcceptsI_any (vn vf v : Value) (a : Au) (xs : List Int) (w : World) (hN : SRows w vn a.next) (hF : SInts w vf a.final) (hS : SInts w v xs) :
    Calls Try.prog 16 #[.agg #[vn, vf], v] w (Ret (.bool (accB a xs)) w) := by
  have hN0 := hide hN
  have hF0 := hide hF
  have hS0 := hide hS
  obtain ⟨A, c, rfl, -, hln⟩ := hN.form
  obtain ⟨A', c', rfl, -, hlf⟩ := hF.form
  obtain ⟨A2, c2, rfl, -, hlx⟩ := hS.form
  clear hN hF hS
  have hx0 := (Ext.refl w).alloc (.cells #[.slice A a.next.length c, .slice A' a.final.length c'] 26)
  by_cases hv : vAut a = true
  · have HV := hide hv
    by_cases h8 : (xs.length : Int) ≤ 8
    · by_cases hx : allR xs 0 5 = true
      · have HX := hide hx
        have HW := hide (show vWord xs = true by rw [vWord, hx]; simpa using h8)
        have HR := hide (mRows_ok hv)
        have hn8 := (vAut_len hv).2
        go_enter Try.func16, Try.ntmps16
        go_wp2_with fail
        refine (ValidAutomatonI_any _ _ a _ (hN0.out.ext hx0) (hF0.out.ext hx0)).mono ?_
        rintro e w1 ⟨rfl, hx1⟩
        rw [hv]
        go_wp2_with fail
        refine (allIn_any _ xs _ _ _ (hS0.out.ext (hx0.trans hx1))).mono ?_
        rintro e w2 ⟨rfl, hx2⟩
        rw [hx]
        clear hx hv
        have f0 : w2.cell? ⟨w.heap.size, 0, none⟩ = some (.slice A a.next.length c) := ((hx1.trans hx2).cells _ _ (by simp)).trans (by go_simp)
        have f1 : w2.cell? ⟨w.heap.size, 1, none⟩ = some (.slice A' a.final.length c') := ((hx1.trans hx2).cells _ _ (by simp)).trans (by go_simp)
        have hx02 := (hx0.trans hx1).trans hx2
        have Hx02 := hide hx02
        clear hx1 hx2 hx0
        go_wp2_with fail
        refine (machineOf_any _ _ a _ (hN0.out.ext hx02) (hF0.out.ext hx02) HV.out).mono ?_
        rintro e w3 ⟨v3, b3, rfl, hA3, hb3, hr3, hx3⟩
        have hSR := hA3.rows HR.out.1 HR.out.2.1 HR.out.2.2
        have HSR := hide hSR
        obtain ⟨A3, c3, hvv, -⟩ := hA3.form
        rw [mRows_len] at hvv
        subst hvv
        have Hx3 := hide hx3
        have hb3' := hr3.lt
        have HR3 := hide hr3
        clear hA3 hSR hr3 hx3 hx02
        go_wp2_with fail
        go_loop [6, 26] (fun st i => ∃ k : Nat, k ≤ xs.length ∧ i = .int .i64 k ∧ st = .int .i64 (runM a 0 xs k)) (fun _ i => xs.length - (intOf i).toNat)
        case atStart => exact ⟨0, Nat.zero_le _, rfl, rfl⟩
        case round =>
          obtain ⟨k, hk, rfl, rfl⟩ := hrel
          obtain ⟨q1, q2⟩ := runM_in HV.out HX.out k hk
          have q3 : runM a 0 xs k < (a.next.length : Int) + 1 := by omega
          by_cases hlt : k < xs.length
          · obtain ⟨b, off, rfl, hbl, e1⟩ := (hS0.out.ext (Hx02.out.trans Hx3.out)).at_ hlt
            obtain ⟨x1, x2⟩ := allR_at HX.out hlt
            have j1 : at0 xs k < 6 := by omega
            obtain ⟨b2, off2, A4, c4, rfl, hbl2, e2, hrow⟩ := HSR.out.at_ (k := (runM a 0 xs k).toNat) (by rw [mRows_len]; omega)
            have hl6 := (mRows_row HV.out (i := (runM a 0 xs k).toNat) (by omega)).1
            obtain ⟨b4, off4, rfl, hbl4, e3⟩ := hrow.at_ (k := (at0 xs k).toNat) (by omega)
            rw [hl6] at e2
            clear hrow hl6
            go_wp2
            go_round
            case rel => exact ⟨k + 1, by omega, by go_num, by rw [runM]⟩
            case measure => simp [intOf]; omega
          · have hkl : k = xs.length := by omega
            subst hkl
            have e4 : w3.cell? ⟨b3, (runM a 0 xs xs.length).toNat, none⟩ = some (mFin a.final a.final.length (runM a 0 xs xs.length).toNat) := HR3.out.cell (by omega)
            unfold mFin at e4
            go_wp2
            go_ret
            refine Ret.mk (ret_b ?_) ((Hx02.out.trans Hx3.out).alloc _)
            rw [accB, HV.out, HW.out, ← accM HV.out HX.out, Int.max_eq_left q1]
            rfl
      · have hx' : allR xs 0 5 = false := Bool.eq_false_iff.2 hx
        have HW := hide (show vWord xs = false by rw [vWord, hx']; simp)
        clear hx
        go_enter Try.func16, Try.ntmps16
        go_wp2_with fail
        refine (ValidAutomatonI_any _ _ a _ (hN0.out.ext hx0) (hF0.out.ext hx0)).mono ?_
        rintro e w1 ⟨rfl, hx1⟩
        rw [hv]
        go_wp2_with fail
        refine (allIn_any _ xs _ _ _ (hS0.out.ext (hx0.trans hx1))).mono ?_
        rintro e w2 ⟨rfl, hx2⟩
        rw [hx']
        go_wp2
        go_ret
        exact Ret.mk (ret_b (by rw [accB, HW.out]; simp)) ((hx0.trans hx1).trans hx2)
    · have HW := hide (show vWord xs = false by rw [vWord, decide_eq_false h8]; rfl)
      go_enter Try.func16, Try.ntmps16
      go_wp2_with fail
      refine (ValidAutomatonI_any _ _ a _ (hN0.out.ext hx0) (hF0.out.ext hx0)).mono ?_
      rintro e w1 ⟨rfl, hx1⟩
      rw [hv]
      go_wp2
      go_ret
      exact Ret.mk (ret_b (by rw [accB, HW.out]; simp)) (hx0.trans hx1)
  · have hv' : vAut a = false := Bool.eq_false_iff.2 hv
    have HV := hide hv'
    clear hv
    go_enter Try.func16, Try.ntmps16
    go_wp2_with fail
    refine (ValidAutomatonI_any _ _ a _ (hN0.out.ext hx0) (hF0.out.ext hx0)).mono ?_
    rintro e w1 ⟨rfl, hx1⟩
    rw [hv']
    go_wp2
    go_ret
    exact Ret.mk (ret_b (by rw [accB, HV.out]; rfl)) (hx0.trans hx1)
end Go.Proofs.Ytdiedghaoleblaa
