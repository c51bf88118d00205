/- The walk of the law FnSchedule: it returns true, and memory only grows. -/
import Derived.Test.YticallgbmmahjaaQ10
import Derived.Test.YticallgbmmahjaaLawMkP
import Derived.Test.YticallgbmmahjaaLawSm
namespace Go.Proofs.Yticallgbmmahjaa
open Go.RowKit

set_option maxRecDepth 100000 in
set_option maxHeartbeats 8000000 in
theorem lawScheduleP (v : Value) (n : Nat) (w : World) (hB : SBytes w v n) (_hn : n ≤ 140737488351232) :
    Calls Try.prog 4 #[v] w (Ret (.bool true) w) := by
  have HB := hide hB
  obtain ⟨A, c, rfl, -⟩ := hB
  by_cases hl : (1048576 : Int) < n
  · go_enter Try.func4, Try.ntmps4
    go_wp2
    go_ret
    exact Ret.mk rfl (Ext.refl _)
  · go_enter Try.func4, Try.ntmps4
    go_wp2_with fail
    refine (DrawSchedule_any _ n _ HB.out).mono ?_
    rintro e w1 ⟨v1, ts, cc, rfl, l1, l8, c0, c1, hT, hx1⟩
    have hT0 := hide hT
    obtain ⟨A1, cp1, rfl, -⟩ := hT.form
    have HX1 := hide hx1
    obtain ⟨o, ho⟩ : ∃ o, o = schX ts cc := ⟨_, rfl⟩
    have HO := hide ho
    obtain ⟨hUl, hUb⟩ := schX_len ts cc
    rw [← ho] at hUl hUb
    have HUB := hide hUb
    have hlen2 : ts.length < 4611686018427387904 := by omega
    clear hT ho hUb hx1
    go_wp2_with fail
    refine (ScheduleI_any _ ts cc _ hT0.out).mono ?_
    rw [← HO.out]
    rintro e w2 ⟨v2, rfl, A2, c2, b2, m2, f2, hv2, hc2, hd2, hb2, ho2, hx2⟩
    injection hv2 with hv2
    subst hv2
    have HS2 := hide (SInts.own hc2 hd2 ho2 HUB.out)
    have HX2 := hide hx2
    clear ho2 hx2
    go_wp2_with fail
    refine (ScheduleS_any _ ts cc _ (hT0.out.ext HX2.out)).mono ?_
    rw [← HO.out]
    rintro e w3 ⟨A3, c3, rfl, hS3, hx3⟩
    have HS3 := hide hS3
    have HX3 := hide (HX1.out.trans (HX2.out.trans hx3))
    have HT3 := hide (hT0.out.ext (HX2.out.trans hx3))
    have HS23 := hide (HS2.out.ext hx3)
    clear hS3 hx3
    obtain ⟨us, hus⟩ : ∃ us, us = o.getD [] := ⟨_, rfl⟩
    obtain ⟨ok, hok⟩ : ∃ ok, ok = o.isSome := ⟨_, rfl⟩
    rw [← hus] at HS3 HS23 HS2 hUl hc2 ⊢
    rw [← hok]
    have HUS := hide hus
    have HOK := hide hok
    clear hus hok HUB
    go_wp2_with fail
    refine (equalInts_same _ _ _ _ HS23.out HS3.out).mono ?_
    rintro e w4 ⟨rfl, hx4⟩
    have HX4 := hide hx4
    clear hx4
    go_wp2_with fail
    refine (ValidTasksI_any _ ts cc _ (HT3.out.ext HX4.out)).mono ?_
    rintro e w5 ⟨rfl, hx5⟩
    have HX5 := hide (HX4.out.trans hx5)
    clear hx5
    cases hv : vTks ts && inR cc 0 9 with
    | false =>
      have HV := hide hv
      clear hv
      go_wp2_with fail
      refine (equalInts_same _ _ _ _ (HS23.out.ext HX5.out) (HS3.out.ext HX5.out)).mono ?_
      rintro e w6 ⟨rfl, hx6⟩
      have HX6 := hide (HX3.out.trans (HX5.out.trans hx6))
      clear hx6
      go_wp2_with fail
      go_ret
      exact Ret.mk rfl HX6.out
    | true =>
      have hso : schO ts cc = o := by have := HO.out; rw [schX, if_pos hv] at this; exact this.symm
      have hvv := hv
      rw [Bool.and_eq_true] at hvv
      have hcc : 0 ≤ cc ∧ cc ≤ 9 := by simpa [inR] using hvv.2
      have HVT := hide hvv.1
      have HIC := hide hvv.2
      have HSO := hide hso
      clear hv hvv hso
      go_wp2_with fail
      refine (cumulative_any _ ts cc _ (HT3.out.ext HX5.out) (by omega)).mono ?_
      rintro e w6 ⟨vd, vc, rfl, hD, hC, hx6⟩
      have HD := hide hD
      have HC := hide hC
      obtain ⟨Ad, ed, rfl, -⟩ := hD.form
      obtain ⟨Ac, ec, rfl, -⟩ := hC.form
      have HX6 := hide (HX5.out.trans hx6)
      clear hD hC hx6
      go_wp2_with fail
      have hxm : Ext w6 (w6.alloc (.cells #[.slice Ad (upS ts ts.length).length ed, .slice Ac [cumC ts cc].length ec] 35)) := (Ext.refl w6).alloc _
      refine (SolveAllI_any _ _ (upS ts ts.length) [cumC ts cc] _ (HD.out.ext hxm) (HC.out.ext hxm)).mono ?_
      rw [show soAll (upS ts ts.length) [cumC ts cc] = (solL [cumC ts cc] (upS ts ts.length)).take 20 by rw [soAll, vMod_cum HVT.out HIC.out]; rfl]
      rintro e w7 ⟨A7, c7, rfl, hR7, hx7⟩
      obtain ⟨R, hR⟩ : ∃ R, R = (solL [cumC ts cc] (upS ts ts.length)).take 20 := ⟨_, rfl⟩
      rw [← hR] at hR7 ⊢
      have HR7 := hide hR7
      have hm0 : w7.cell? ⟨w6.heap.size, 0, none⟩ = some (.slice Ad (upS ts ts.length).length ed) := (hx7.cells _ _ (by simp)).trans (World.cell?_alloc_at _ _ _ _ rfl)
      have hm1 : w7.cell? ⟨w6.heap.size, 1, none⟩ = some (.slice Ac [cumC ts cc].length ec) := (hx7.cells _ _ (by simp)).trans (World.cell?_alloc_at _ _ _ _ rfl)
      have hml : w6.heap.size < w7.heap.size := by have := hx7.size; simp at this; omega
      have HE7 := hide (hxm.trans hx7)
      have HX7 := hide (HX6.out.trans (hxm.trans hx7))
      have HRD := hide hR
      have hR20 : R.length ≤ 20 := by rw [hR, List.length_take]; omega
      clear hR7 hx7 hxm hR
      cases o with
      | none =>
        have hr0 : R.length = 0 := by rw [HRD.out, sch_none HVT.out hcc.1 HSO.out]; rfl
        have hrb : ((R.length : Int) == 0) = true := by rw [hr0]; rfl
        obtain ⟨L, hL⟩ : ∃ L, L = R.length := ⟨_, rfl⟩
        rw [← hL] at hrb ⊢
        clear hr0 hL
        obtain rfl : ok = false := HOK.out
        go_wp2_with fail
        go_ret
        exact Ret.mk rfl (HX3.out.trans HX7.out)
      | some x =>
        obtain rfl : ok = true := HOK.out
        obtain rfl : us = x := HUS.out
        have HMN := hide (show ∀ i, i < R.length → mkspan ts us ≤ mkspan ts (rw0 R i) from fun i hi => sch_best HVT.out hcc.1 HSO.out _ (by
          have : rw0 R i ∈ R := by rw [rw0, getD_lt _ _ hi]; exact List.getElem_mem hi
          rw [HRD.out] at this ⊢
          exact List.mem_of_mem_take this))
        obtain ⟨M, hM⟩ : ∃ M, M = mkspan ts us := ⟨_, rfl⟩
        have HM := hide hM
        clear hM
        go_wp2_with fail
        go_loopw [11] (fun i wr => ∃ j : Nat, i = .int .i64 j ∧ j ≤ R.length ∧ Ext w7 wr) (fun i _ => R.length - (intOf i).toNat)
        case atStart => exact ⟨0, rfl, Nat.zero_le _, Ext.refl _⟩
        case round =>
          obtain ⟨j, rfl, hj, hx⟩ := hrel
          have HX := hide hx
          have k0 := (hx.cells _ _ hml).trans hm0
          have k1 := (hx.cells _ _ hml).trans hm1
          clear hx
          by_cases hjn : j < R.length
          · have hjI : (j : Int) < R.length := by omega
            obtain ⟨b, off, A', c', rfl, hbl, hcell, hrow⟩ := (HR7.out.ext HX.out).at_ hjn
            have HROW := hide hrow
            obtain ⟨q, hq⟩ : ∃ q, q = mkspan ts (rw0 R j) := ⟨_, rfl⟩
            have hle : ¬ q < M := by have := HMN.out j hjn; rw [← hq, ← HM.out] at this; omega
            have HQ := hide hq
            clear hrow hq k0 k1
            go_wp2_with fail
            refine (MakespanI_any _ _ ts (rw0 R j) _ (HT3.out.ext (HX7.out.trans HX.out)) HROW.out).mono ?_
            rw [← HQ.out]
            rintro e w8 ⟨rfl, hx8⟩
            have HX8 := hide (HX.out.trans hx8)
            clear hx8
            go_wp2_with fail
            refine (MakespanI_any _ _ ts us _ (HT3.out.ext (HX7.out.trans HX8.out)) (HS23.out.ext (HX7.out.trans HX8.out))).mono ?_
            rw [← HM.out]
            rintro e w9 ⟨rfl, hx9⟩
            have HX9 := hide (HX8.out.trans hx9)
            clear hx9
            go_wp2_with fail
            go_roundw
            case rel => exact ⟨j + 1, by go_num, by omega, HX9.out⟩
            case measure => simp [intOf]; omega
          · obtain rfl : j = R.length := by omega
            have hjI : ¬ ((R.length : Int) < R.length) := by omega
            go_wp2_with fail
            refine (IsSolutionI_any _ _ _ (upS ts ts.length) [cumC ts cc] us _ (HD.out.ext (HE7.out.trans HX.out)) (HC.out.ext (HE7.out.trans HX.out)) (HS23.out.ext (HX7.out.trans HX.out))).mono ?_
            rw [sch_sol HVT.out HIC.out HSO.out]
            rintro e w8 ⟨rfl, hx8⟩
            have HX8 := hide (HX.out.trans hx8)
            clear hx8
            go_wp2_with fail
            go_ret
            exact Ret.mk rfl (HX3.out.trans (HX7.out.trans HX8.out))
end Go.Proofs.Yticallgbmmahjaa
