/- The walk of the law FnUsage: it returns true, and memory only grows. -/
import Derived.Test.YticallgbmmahjaaQ9
import Derived.Test.YticallgbmmahjaaLawMkP
import Derived.Test.YticallgbmmahjaaLawSm
namespace Go.Proofs.Yticallgbmmahjaa
open Go.RowKit

theorem atmB_vio {ts : List Tk} {xs : List Int} (h : okTS ts xs = true) {c : Nat} (hc : c ≤ 9) : (((vioV (upS ts ts.length) [cumC ts c] xs).length : Int) == 0) = atmB (usL ts xs) c := by
  rw [← vio_cum h (by omega) (by omega)]
  rw [Bool.eq_iff_iff, beq_iff_eq, decide_eq_true_iff]
  omega
theorem OwnRes.ints9 {xs : List Int} {w w' : World} {v : Value} (h : OwnRes xs w (.returned v) w') (hb : ∀ i, i < xs.length → I64 (at0 xs i)) : SInts w' v xs ∧ Ext w w' := by
  obtain ⟨A, c, b, m, f, h1, h2, h3, h4, h5, h6⟩ := h
  injection h1 with h1
  subst h1
  exact ⟨SInts.own h2 h3 h5 hb, h6⟩
set_option maxRecDepth 100000 in
set_option maxHeartbeats 8000000 in
theorem lawUsageP (v : Value) (n : Nat) (w : World) (hB : SBytes w v n) (_hn : n ≤ 140737488351232) :
    Calls Try.prog 3 #[v] w (Ret (.bool true) w) := by
  have HB := hide hB
  obtain ⟨A, c, rfl, -⟩ := hB
  by_cases hl : (1048576 : Int) < n
  · go_enter Try.func3, Try.ntmps3
    go_wp2
    go_ret
    exact Ret.mk rfl (Ext.refl _)
  · go_enter Try.func3, Try.ntmps3
    go_wp2_with fail
    refine (DrawUsage_any _ n _ HB.out).mono ?_
    rintro e w1 ⟨v1, ts, v2, xs, rfl, l1, l8, lx, hT, hS, hx1⟩
    have hT0 := hide hT
    have hS0 := hide hS
    obtain ⟨A1, cp1, rfl, -⟩ := hT.form
    obtain ⟨A2, cp2, rfl, -⟩ := hS.form
    have HX1 := hide hx1
    clear hT hS hx1
    go_wp2_with fail
    refine (UsageI_any _ _ ts xs _ hT0.out hS0.out).mono ?_
    intro e w2 hu
    obtain ⟨u, hue⟩ : ∃ u, e = .returned u := by obtain ⟨A, c, b, m, f, h1, -⟩ := hu; exact ⟨_, h1⟩
    subst hue
    obtain ⟨hU, hx2⟩ := hu.ints9 (usageL_i64 ts xs)
    have HU := hide hU
    obtain ⟨A3, cp3, rfl, -⟩ := hU.form
    have HX2 := hide hx2
    clear hu hU hx2
    go_wp2_with fail
    refine (UsageS_any _ _ ts xs _ (hT0.out.ext HX2.out) (hS0.out.ext HX2.out)).mono ?_
    intro e w3 hu
    obtain ⟨u, hue⟩ : ∃ u, e = .returned u := by obtain ⟨A, c, b, m, f, h1, -⟩ := hu; exact ⟨_, h1⟩
    subst hue
    obtain ⟨hW, hx3⟩ := hu.ints9 (usageL_i64 ts xs)
    have HW := hide hW
    obtain ⟨A4, cp4, rfl, -⟩ := hW.form
    have HX3 := hide (HX2.out.trans hx3)
    have HU3 := hide (HU.out.ext hx3)
    clear hu hW hx3
    go_wp2_with fail
    refine (equalInts_same _ _ (usageL ts xs) _ HU3.out HW.out).mono ?_
    rintro e w4 ⟨rfl, hx4⟩
    have HX4 := hide (HX3.out.trans hx4)
    have HU4 := hide (HU3.out.ext hx4)
    clear hx4
    cases hok : okTS ts xs with
    | false =>
      have hue : (usageL ts xs).length = 0 := by rw [usageL, hok]; rfl
      have hz : (((usageL ts xs).length : Int) == 0) = true := by rw [hue]; rfl
      clear hue hok
      go_wp2_with fail
      refine (UsageS_any _ _ ts xs _ (hT0.out.ext HX4.out) (hS0.out.ext HX4.out)).mono ?_
      intro e w5 hu
      obtain ⟨u, hue⟩ : ∃ u, e = .returned u := by obtain ⟨A, c, b, m, f, h1, -⟩ := hu; exact ⟨_, h1⟩
      subst hue
      obtain ⟨hW, hx5⟩ := hu.ints9 (usageL_i64 ts xs)
      have HW5 := hide hW
      obtain ⟨A5, cp5, rfl, -⟩ := hW.form
      have HX5 := hide (HX4.out.trans hx5)
      have HU5 := hide (HU4.out.ext hx5)
      clear hu hW hx5
      go_wp2_with fail
      refine (equalInts_same _ _ (usageL ts xs) _ HU5.out HW5.out).mono ?_
      rintro e w6 ⟨rfl, hx6⟩
      have HX6 := hide (HX5.out.trans hx6)
      clear hx6
      go_wp2_with fail
      go_ret
      exact Ret.mk rfl (HX1.out.trans HX6.out)
    | true =>
      have hue : usageL ts xs = usL ts xs := by rw [usageL, if_pos hok]
      have hl11 : (usageL ts xs).length = 11 := by rw [hue, usL_len]
      have HOK := hide hok
      have HU9 := hide (show SInts w4 (.slice A3 11 cp3) (usL ts xs) by have := HU4.out; rw [hue, usL_len] at this; exact this)
      rw [hl11]
      clear hok hue hl11 HU4 HU3 HU HW
      go_wp2_with fail
      go_loop [6, 7] (fun s i => ∃ k : Nat, k ≤ 11 ∧ i = .int .i64 k ∧ s = .int .i64 (smL (usL ts xs) k)) (fun _ i => 11 - (intOf i).toNat)
      case atStart => exact ⟨0, Nat.zero_le _, rfl, rfl⟩
      case round =>
        obtain ⟨k, hk, rfl, rfl⟩ := hrel
        by_cases hk11 : k < 11
        · have hkI : (k : Int) < 11 := by omega
          obtain ⟨b, off, rfl, hbl, f1⟩ := HU9.out.at_ (k := k) (by rw [usL_len]; omega)
          have HST := hide (show smL (usL ts xs) (k + 1) = smL (usL ts xs) k + at0 (usL ts xs) k from rfl)
          have hb1 := smL_bd HOK.out (k + 1) (by omega)
          rw [HST.out] at hb1
          have hw : IntKind.i64.wrap (smL (usL ts xs) k + at0 (usL ts xs) k) = smL (usL ts xs) k + at0 (usL ts xs) k := IntWalk.i64_in _ (by omega)
          go_wp2
          go_round
          case rel => exact ⟨k + 1, by omega, by go_num, by rw [HST.out]⟩
          case measure => simp [intOf]; omega
        · obtain rfl : k = 11 := by omega
          have HSA := hide (smL_all HOK.out)
          have hv := (okTS_iff.1 HOK.out).1
          have HV := hide hv
          obtain ⟨al0, al1⟩ := alE_bd hv ts.length (Nat.le_refl _)
          obtain ⟨tl1, tl4⟩ := vTks_len4 hv
          clear hv
          rw [HSA.out]
          go_wp2_with fail
          go_loopw [6, 8] (fun s i wr => ∃ k : Nat, k ≤ ts.length ∧ i = .int .i64 k ∧ s = .int .i64 (alE ts ts.length - alE ts k) ∧ Ext w4 wr) (fun _ i _ => ts.length - (intOf i).toNat)
          case atStart => exact ⟨0, Nat.zero_le _, rfl, by rw [show alE ts ts.length - alE ts 0 = alE ts ts.length from Int.sub_zero _], Ext.refl w4⟩
          case round =>
            obtain ⟨k, hk, rfl, rfl, hxr⟩ := hrel
            have HXR := hide hxr
            clear hxr
            by_cases hkn : k < ts.length
            · have hkI : (k : Int) < ts.length := by omega
              obtain ⟨b, off, rfl, hbl, f0, f1, f2⟩ := (hT0.out.ext (HX4.out.trans HXR.out)).at_ hkn
              obtain ⟨a0, a1⟩ := alE_bd HV.out k (by omega)
              obtain ⟨b0, b1⟩ := alE_bd HV.out (k + 1) (by omega)
              have hat := vTks_at HV.out hkn
              have hal : alE ts (k + 1) = alE ts k + tkM ts k * tkD ts k := rfl
              have hmd := mul_bd (a := tkD ts k) (b := tkM ts k) (by omega) (by omega) (by omega) (by omega)
              rw [Int.mul_comm] at hmd
              have hw1 := IntWalk.i64_in (tkM ts k * tkD ts k) (by omega)
              have hw2 := IntWalk.i64_in (alE ts ts.length - alE ts k - tkM ts k * tkD ts k) (by omega)
              have HAL := hide hal
              clear hal hat hmd
              go_wp2_with fail
              refine wp_region_ext (by kernel_rfl) (by kernel_rfl) ?_
              iterate 14 (apply quiet_val; (focus rfl); (focus (intro w' hw'; have hk' := hw'.cells; go_simp; all_goals exact rfl)); simp only [Act.put, List.setIfInBounds_toArray, List.set_cons_succ, List.set_cons_zero])
              clear hw1 hw2
              refine wpQuiet_nil ?_
              intro w6 hx6
              have HX6 := hide (HXR.out.trans hx6)
              clear hx6
              go_wp2_with fail
              go_roundw
              case rel => exact ⟨k + 1, by omega, by go_num, by rw [show alE ts ts.length - alE ts (k + 1) = alE ts ts.length - alE ts k - tkM ts k * tkD ts k by rw [HAL.out]; omega], HX6.out⟩
              case measure => simp [intOf]; omega
            · obtain rfl : k = ts.length := by omega
              have hkI : ¬ ((ts.length : Int) < ts.length) := by omega
              rw [show alE ts ts.length - alE ts ts.length = 0 from Int.sub_self _]
              go_wp2_with fail
              go_loopw [9] (fun i wr => ∃ k : Nat, k ≤ 10 ∧ i = .int .i64 k ∧ Ext w4 wr) (fun i _ => 10 - (intOf i).toNat)
              case atStart => exact ⟨0, Nat.zero_le _, rfl, HXR.out⟩
              case round =>
                obtain ⟨j, hj, rfl, hxj⟩ := hrel
                have HXJ := hide hxj
                clear hxj
                by_cases hj9 : j ≤ 9
                · have hjI : (j : Int) ≤ 9 := by omega
                  obtain ⟨B, hB⟩ : ∃ B, B = atmB (usL ts xs) j := ⟨_, rfl⟩
                  have HB1 := hide hB
                  have hvb := atmB_vio HOK.out hj9
                  rw [← hB] at hvb
                  obtain ⟨m, hm⟩ : ∃ m, m = (vioV (upS ts ts.length) [cumC ts j] xs).length := ⟨_, rfl⟩
                  rw [← hm] at hvb
                  have HM := hide hm
                  clear hB hm
                  go_wp2_with fail
                  refine (atMost_any _ (usL ts xs) j _ (HU9.out.ext HXJ.out)).mono ?_
                  rw [← HB1.out]
                  rintro e w7 ⟨rfl, rfl⟩
                  go_wp2_with fail
                  refine (cumulative_any _ ts j _ (hT0.out.ext (HX4.out.trans HXJ.out)) (by omega)).mono ?_
                  rintro e w8 ⟨vd, vc, rfl, hD, hC, hx8⟩
                  have HD := hide hD
                  have HC := hide hC
                  obtain ⟨Ad, ed, rfl, -⟩ := hD.form
                  obtain ⟨Ac, ec, rfl, -⟩ := hC.form
                  have HX8 := hide (HXJ.out.trans hx8)
                  clear hD hC hx8
                  go_wp2_with fail
                  refine (ViolatedI_any _ _ _ (upS ts ts.length) [cumC ts j] xs _ HD.out HC.out (hS0.out.ext (HX4.out.trans HX8.out))).mono ?_
                  rw [← HM.out]
                  rintro e w9 ⟨A9, c9, rfl, hx9⟩
                  have HX9 := hide (HX8.out.trans hx9)
                  clear hx9
                  go_wp2_with fail
                  go_roundw
                  case rel => exact ⟨j + 1, by omega, by go_num, HX9.out⟩
                  case measure => simp [intOf]; omega
                · obtain rfl : j = 10 := by omega
                  go_wp2_with fail
                  go_ret
                  exact Ret.mk rfl (HX1.out.trans (HX4.out.trans HXJ.out))
end Go.Proofs.Yticallgbmmahjaa
