/- The walk of the law FnScheduleMore: it returns true, and memory only grows. -/
import Derived.Test.YtofnihagfjdocaaLawOv2
import Derived.Test.YtofnihagfjdocaaSchS4
import Derived.Test.YtofnihagfjdocaaLawSc
namespace Go.Proofs.Ytofnihagfjdocaa
open Go.RowKit

set_option maxHeartbeats 1000000 in
/-- Two slices that read as the same ints are found equal. -/
theorem equalInts_same (v v' : Value) (xs : List Int) (w : World) (hS : SInts w v xs) (hS' : SInts w v' xs) :
    Calls Try.prog 35 #[v, v'] w (Ret (.bool true) w) := by
  have hS0 := hide hS
  have hS0' := hide hS'
  obtain ⟨A, cp, rfl, hl, hlen⟩ := hS.form
  obtain ⟨A', cp', rfl, hl', -⟩ := hS'.form
  clear hS hS'
  go_enter Try.func35, Try.ntmps35
  go_wp2
  go_loopw [5] (fun i wr => ∃ k : Nat, k ≤ xs.length ∧ i = .int .i64 k ∧ Ext w wr) (fun i _ => xs.length - (intOf i).toNat)
  case atStart => exact ⟨0, Nat.zero_le _, rfl, Ext.refl w⟩
  case round =>
    obtain ⟨k, hk, rfl, hxr⟩ := hrel
    by_cases hlt : k < xs.length
    · obtain ⟨b, off, rfl, hbl, f1⟩ := (hS0.out.ext hxr).at_ hlt
      obtain ⟨b', off', rfl, hbl', f1'⟩ := (hS0'.out.ext hxr).at_ hlt
      go_wp2
      refine wp_region_ext (by kernel_rfl) (by kernel_rfl) ?_
      iterate 9 (apply quiet_val; (focus rfl); (focus (intro w' hw'; have hk' := hw'.cells; go_simp; all_goals exact rfl)); simp only [Act.put, List.setIfInBounds_toArray, List.set_cons_succ, List.set_cons_zero])
      refine wpQuiet_nil ?_
      intro w2 hx2
      go_wp2
      go_roundw
      case rel => exact ⟨k + 1, by omega, by go_num, hxr.trans hx2⟩
      case measure => simp [intOf]; omega
    · go_wp2
      go_ret
      exact Ret.mk rfl hxr
set_option maxHeartbeats 1000000 in
theorem DrawSchedule_any (v : Value) (n : Nat) (w : World) (hB : SBytes w v n) : Calls Try.prog 34 #[v] w (DrawnTC w) := by
  have HB := hide hB
  obtain ⟨A, c, rfl, -⟩ := hB
  go_enter Try.func34, Try.ntmps34
  go_wp2_with fail
  refine (newReader_any w w _ n HB.out (Ext.refl w)).mono ?_
  rintro e w1 ⟨br, rfl, hR, hx1, hbr⟩
  have HX := hide hx1
  clear hx1
  go_wp2_with fail
  refine (anyTasks_any w br 0 _ (by omega) hR).mono ?_
  intro e w2 h
  have hd := TasksGot.to h HX.out hbr
  obtain ⟨v2, ts, c2, rfl, q⟩ := hd
  have HE := hide (show DrawnTC w (.returned (.tuple #[v2, .int .i64 c2])) w2 from ⟨v2, ts, c2, rfl, q⟩)
  clear h q
  go_wp2
  go_ret2
  exact HE.out
set_option maxRecDepth 100000 in
set_option maxHeartbeats 4000000 in
theorem lawScheduleMore (v : Value) (n : Nat) (w : World) (hB : SBytes w v n) (_hn : n ≤ 140737488351232) :
    Calls Try.prog 8 #[v] w (Ret (.bool true) w) := by
  have HB := hide hB
  obtain ⟨A, c, rfl, -⟩ := hB
  by_cases hl : (1048576 : Int) < n
  · go_enter Try.func8, Try.ntmps8
    go_wp2
    go_ret
    exact Ret.mk rfl (Ext.refl _)
  · go_enter Try.func8, Try.ntmps8
    go_wp2_with fail
    refine (DrawSchedule_any _ n _ HB.out).mono ?_
    rintro e w1 ⟨v1, ts, cc, rfl, l1, l8, c0, c1, hT, hx1⟩
    have hT0 := hide hT
    obtain ⟨A1, cp1, rfl, -⟩ := hT.form
    have HX1 := hide hx1
    obtain ⟨o, ho⟩ : ∃ o, o = schX ts cc := ⟨_, rfl⟩
    have HO := hide ho
    obtain ⟨hUl, hUb⟩ := schX_len ts cc
    rw [← ho] at hUl hUb
    have HUB := hide hUb
    have hlen2 : ts.length < 4611686018427387904 := by omega
    clear hT ho hUb hx1
    go_wp2_with fail
    refine (ScheduleI_any _ ts cc _ hT0.out).mono ?_
    rw [← HO.out]
    rintro e w2 ⟨v2, rfl, A2, c2, b2, m2, f2, hv2, hc2, hd2, hb2, ho2, hx2⟩
    injection hv2 with hv2
    subst hv2
    have HS2 := hide (SInts.own hc2 hd2 ho2 HUB.out)
    have HX2 := hide hx2
    clear ho2 hx2
    go_wp2_with fail
    refine (ScheduleS_any _ ts cc _ (hT0.out.ext HX2.out)).mono ?_
    rw [← HO.out]
    rintro e w3 ⟨A3, c3, rfl, hS3, hx3⟩
    have HS3 := hide hS3
    have HX3 := hide (HX1.out.trans (HX2.out.trans hx3))
    have HT3 := hide (hT0.out.ext (HX2.out.trans hx3))
    have HS23 := hide (HS2.out.ext hx3)
    clear hS3 hx3
    cases o with
    | none =>
      go_wp2_with fail
      refine (equalInts_same _ _ _ _ HS23.out HS3.out).mono ?_
      rintro e w4 ⟨rfl, hx4⟩
      have HX4 := hide hx4
      clear hx4
      go_wp2_with fail
      refine (equalInts_same _ _ _ _ (HS23.out.ext HX4.out) (HS3.out.ext HX4.out)).mono ?_
      rintro e w5 ⟨rfl, hx5⟩
      have HX5 := hide (HX3.out.trans (HX4.out.trans hx5))
      clear hx5
      go_wp2
      go_ret
      exact Ret.mk rfl HX5.out
    | some x =>
      have hvi : (vTks ts && inR cc 0 9) = true := by
        by_cases h : (vTks ts && inR cc 0 9) = true
        · exact h
        · have := HO.out; rw [schX, if_neg h] at this; cases this
      have hso : schO ts cc = some x := by have := HO.out; rw [schX, if_pos hvi] at this; exact this.symm
      have hvv := hvi
      rw [Bool.and_eq_true] at hvv
      have hcc : 0 ≤ cc ∧ cc ≤ 9 := by simpa [inR] using hvv.2
      obtain ⟨hmem, hfe⟩ := schO_mem hso
      have hokx := tups_ok hvv.1 hmem
      have HMK := hide (show mkspan ts x = mk ts x ts.length by rw [mkspan, if_pos hokx])
      obtain ⟨m0, m1⟩ := mk_bd hokx ts.length (Nat.le_refl _)
      obtain ⟨M, hM⟩ : ∃ M, M = mk ts x ts.length := ⟨_, rfl⟩
      have hen := sch_energy hvv.1 hso
      rw [← hM] at m0 m1 hen
      have HM := hide hM
      have HEN := hide (show enR ts 0 11 = en ts 0 11 ts.length by rw [enR, if_pos]; simp [hvv.1, inR])
      obtain ⟨E, hE⟩ : ∃ E, E = en ts 0 11 ts.length := ⟨_, rfl⟩
      rw [← hE] at hen
      have HE := hide hE
      have p0 := Int.mul_nonneg hcc.1 m0
      have p1 := Int.mul_le_mul hcc.2 m1 m0 (by omega : (0 : Int) ≤ 9)
      have HV := hide hvv.1
      have HSO := hide hso
      clear hvi hso hvv hmem hfe hokx hM hE
      go_wp2_with fail
      refine (equalInts_same _ _ _ _ HS23.out HS3.out).mono ?_
      rintro e w4 ⟨rfl, hx4⟩
      have HX4 := hide hx4
      clear hx4
      by_cases h9 : cc = 9
      · subst h9
        go_wp2_with fail
        refine (ScheduleI_any _ ts 10 _ (HT3.out.ext HX4.out)).mono ?_
        rintro e w5 ⟨v5, rfl, A5, c5, b5, m5, f5, hv5, hc5, hd5, hb5, ho5, hx5⟩
        injection hv5 with hv5
        subst hv5
        have HX5 := hide (HX4.out.trans hx5)
        clear hx5 ho5
        go_wp2_with fail
        refine (MakespanI_any _ _ ts x _ (HT3.out.ext HX5.out) (HS23.out.ext HX5.out)).mono ?_
        rw [HMK.out, ← HM.out]
        rintro e w6 ⟨rfl, hx6⟩
        have HX6 := hide (HX3.out.trans (HX5.out.trans hx6))
        clear hx6
        go_wp2
        go_ret
        exact Ret.mk rfl HX6.out
      · obtain ⟨y, hy, hyl⟩ := sch_more HSO.out
        obtain ⟨hmy, -⟩ := schO_mem hy
        have hoky := tups_ok HV.out hmy
        have HXY := hide (show schX ts (cc + 1) = some y by rw [schX, if_pos, hy]; simp [HV.out, inR]; omega)
        have HMY := hide (show mkspan ts y = mk ts y ts.length by rw [mkspan, if_pos hoky])
        obtain ⟨M2, hM2⟩ : ∃ M2, M2 = mk ts y ts.length := ⟨_, rfl⟩
        rw [← hM2, ← HM.out] at hyl
        have HM2 := hide hM2
        obtain ⟨hUl2, hUb2⟩ := schX_len ts (cc + 1)
        rw [HXY.out] at hUl2 hUb2
        have HUB2 := hide hUb2
        have hne9 : (cc == 9) = false := by rw [beq_eq_false_iff_ne]; exact h9
        clear hy hmy hoky hM2 hUb2 h9
        go_wp2_with fail
        refine (ScheduleI_any _ ts (cc + 1) _ (HT3.out.ext HX4.out)).mono ?_
        rw [HXY.out]
        rintro e w5 ⟨v5, rfl, A5, c5, b5, m5, f5, hv5, hc5, hd5, hb5, ho5, hx5⟩
        injection hv5 with hv5
        subst hv5
        have HS5 := hide (SInts.own hc5 hd5 ho5 HUB2.out)
        have HX5 := hide (HX4.out.trans hx5)
        clear hx5 ho5
        go_wp2_with fail
        refine (MakespanI_any _ _ ts x _ (HT3.out.ext HX5.out) (HS23.out.ext HX5.out)).mono ?_
        rw [HMK.out, ← HM.out]
        rintro e w6 ⟨rfl, hx6⟩
        have HX6 := hide hx6
        clear hx6
        go_wp2_with fail
        refine (MakespanI_any _ _ ts y _ (HT3.out.ext (HX5.out.trans HX6.out)) (HS5.out.ext HX6.out)).mono ?_
        rw [HMY.out, ← HM2.out]
        rintro e w7 ⟨rfl, hx7⟩
        have HX7 := hide (HX5.out.trans (HX6.out.trans hx7))
        clear hx7
        go_wp2_with fail
        refine (RequiredEnergyI_any _ ts 0 11 _ (HT3.out.ext HX7.out)).mono ?_
        rw [HEN.out, ← HE.out]
        rintro e w8 ⟨rfl, hx8⟩
        have HX8 := hide (HX3.out.trans (HX7.out.trans hx8))
        clear hx8
        go_wp2
        go_ret
        exact Ret.mk (ret_b (by simp)) HX8.out
end Go.Proofs.Ytofnihagfjdocaa
