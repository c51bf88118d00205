/- The walk of the law FnExplainFilter: it returns true, and memory only grows. -/
import Derived.Test.YtmfbdaocnijnpaaDrw27
import Derived.Test.YtmfbdaocnijnpaaFltV
import Derived.Test.YtmfbdaocnijnpaaXpPl
import Derived.Test.YtmfbdaocnijnpaaLwX
namespace Go.Proofs.Ytmfbdaocnijnpaa
open Go.RowKit

theorem hasD_ok {c : Con} {ds : List Int} {r : Rm} {x : Nat} (h1 : (inR ds.length 1 4 && allR ds 0 63) = true) (h2 : vCon c ds.length = true) (hx : r.x = x) (hn : x < ds.length) (h : hasD (at0 ds x) r.v = true) :
    xplB c ds r = !hasD (at0 (filtL c ds) x) r.v := by
  simp only [Bool.and_eq_true] at h1
  have hd : DomL ds := DomL.of h1.2
  obtain ⟨u, hu, hv, hb⟩ := hasD_iff h
  have hn1 : 1 ≤ ds.length ∧ ds.length ≤ 4 := by have := h1.1; simp [inR] at this; omega
  have hr : okRm r ds.length = true := by unfold okRm; rw [hx, hv]; simp [inR]; omega
  have he := expl_filter hn1.1 hn1.2 hd h2 hr (by rw [hx, hv]; exact hb)
  rw [hx, hv, Int.toNat_natCast, Int.toNat_natCast] at he
  rw [he]
  have hf := (filtL_dom hd h2)
  have hb2 := hf.1 x (by rw [hf.2]; exact hn)
  rw [hv, hasD, Int.toNat_natCast]
  have e1 : vDom (at0 (filtL c ds) x) = true := by unfold vDom inR; simp; omega
  have e2 : inR (u : Int) 0 5 = true := by simp [inR]; omega
  rw [e1, e2]; rfl
set_option maxRecDepth 100000 in
set_option maxHeartbeats 8000000 in
theorem lawExplainFilterP (v : Value) (n : Nat) (w : World) (hB : SBytes w v n) (_hn : n ≤ 140737488351232) :
    Calls Try.prog 4 #[v] w (Ret (.bool true) w) := by
  have HB := hide hB
  obtain ⟨A, cb, rfl, -⟩ := hB
  by_cases hl : (1048576 : Int) < n
  · go_enter Try.func4, Try.ntmps4
    go_wp2
    go_ret
    exact Ret.mk rfl (Ext.refl _)
  · go_enter Try.func4, Try.ntmps4
    go_wp2_with fail
    refine (DrawExplain_any _ n _ HB.out).mono ?_
    rintro e w1 ⟨vc, c, vd, ds, r, rfl, ⟨vv, va, vr, rfl, hV, hA, hR⟩, hD, n1, n4, ⟨b0, b1, b2, b3⟩, hx1⟩
    have hV0 := hide hV
    have hA0 := hide hA
    have hR0 := hide hR
    have hD0 := hide hD
    obtain ⟨Av, cv, rfl, -, -⟩ := hV.form
    obtain ⟨Aa, ca, rfl, -, -⟩ := hA.form
    obtain ⟨Ar, cr, rfl, -, -⟩ := hR.form
    obtain ⟨Ad, cd, rfl, -, -⟩ := hD.form
    have HX1 := hide hx1
    clear hV hA hR hD hx1
    go_upto_region 4 with fail
    obtain ⟨wb, hwb⟩ : ∃ wb, wb = (w1.alloc (.cells #[.int .i64 c.kk, .slice Av c.vars.length cv, .slice Aa c.args.length ca, .int .i64 c.bound, .slice Ar c.rows.length cr] 26)).alloc (.cells #[.int .i64 r.x, .int .i64 r.v] 29) := ⟨_, rfl⟩
    have hs1 : (w1.alloc (.cells #[.int .i64 c.kk, .slice Av c.vars.length cv, .slice Aa c.args.length ca, .int .i64 c.bound, .slice Ar c.rows.length cr] 26)).heap.size = w1.heap.size + 1 := by simp
    have hxb : Ext w1 wb := by rw [hwb]; exact ((Ext.refl w1).alloc _).trans ((Ext.refl _).alloc _)
    have mc : ∀ i u, #[Value.int .i64 c.kk, .slice Av c.vars.length cv, .slice Aa c.args.length ca, .int .i64 c.bound, .slice Ar c.rows.length cr][i]? = some u → wb.cell? ⟨w1.heap.size, i, none⟩ = some u := fun i u hu => by
      rw [hwb]
      exact (((Ext.refl _).alloc _).cells _ _ (by rw [hs1]; omega)).trans ((World.cell?_alloc_at _ _ _ _ rfl).trans hu)
    have rc : ∀ i u, #[Value.int .i64 r.x, .int .i64 r.v][i]? = some u → wb.cell? ⟨w1.heap.size + 1, i, none⟩ = some u := fun i u hu => by
      rw [hwb, ← hs1]
      exact (World.cell?_alloc_at _ _ _ _ rfl).trans hu
    have hml : w1.heap.size + 1 < wb.heap.size := by rw [hwb]; simp
    rw [← hwb]
    clear hwb hs1
    have HXB := hide hxb
    have HMC := hide (show ∀ W, Ext wb W → W.cell? ⟨w1.heap.size, 0, none⟩ = some (.int .i64 c.kk) ∧ W.cell? ⟨w1.heap.size, 1, none⟩ = some (.slice Av c.vars.length cv) ∧ W.cell? ⟨w1.heap.size, 2, none⟩ = some (.slice Aa c.args.length ca) ∧ W.cell? ⟨w1.heap.size, 3, none⟩ = some (.int .i64 c.bound) ∧ W.cell? ⟨w1.heap.size, 4, none⟩ = some (.slice Ar c.rows.length cr) ∧ W.cell? ⟨w1.heap.size + 1, 0, none⟩ = some (.int .i64 r.x) ∧ W.cell? ⟨w1.heap.size + 1, 1, none⟩ = some (.int .i64 r.v) ∧ w1.heap.size + 1 < W.heap.size from fun W hx =>
      ⟨(hx.cells _ _ (by omega)).trans (mc 0 _ rfl), (hx.cells _ _ (by omega)).trans (mc 1 _ rfl), (hx.cells _ _ (by omega)).trans (mc 2 _ rfl), (hx.cells _ _ (by omega)).trans (mc 3 _ rfl), (hx.cells _ _ (by omega)).trans (mc 4 _ rfl), (hx.cells _ _ (by omega)).trans (rc 0 _ rfl), (hx.cells _ _ (by omega)).trans (rc 1 _ rfl), Nat.lt_of_lt_of_le hml hx.size⟩)
    have HSC := hide (show ∀ W, Ext w1 W → SCon W (.agg #[.int .i64 c.kk, .slice Av c.vars.length cv, .slice Aa c.args.length ca, .int .i64 c.bound, .slice Ar c.rows.length cr]) c from fun W hx => ⟨_, _, _, rfl, hV0.out.ext hx, hA0.out.ext hx, hR0.out.ext hx⟩)
    clear mc rc hml hxb
    obtain ⟨F, hF⟩ : ∃ F, F = fltV c ds := ⟨_, rfl⟩
    have HF := hide hF
    clear hF
    obtain ⟨k0, k1, k2, k3, k4, k5, k6, kl⟩ := HMC.out wb (Ext.refl _)
    go_wp2_with fail
    refine (FilterIA_any _ _ c ds _ (HSC.out _ HXB.out) (hD0.out.ext HXB.out)).mono ?_
    rw [← HF.out]
    rintro e w2 ⟨u1, rfl, hu1, hx2⟩
    have HU1 := hide hu1
    obtain ⟨A1, c1, rfl, -, hFl⟩ := hu1.form
    have HX2 := hide hx2
    clear hu1 hx2 k0 k1 k2 k3 k4 k5 k6 kl
    obtain ⟨k0, k1, k2, k3, k4, k5, k6, kl⟩ := HMC.out w2 HX2.out
    go_wp2_with fail
    refine (FilterSA_any _ _ c ds _ (HSC.out _ (HXB.out.trans HX2.out)) (hD0.out.ext (HXB.out.trans HX2.out)) (by omega)).mono ?_
    rw [← HF.out]
    rintro e w3 ⟨u2, rfl, hu2, hx3⟩
    have HU2 := hide hu2
    obtain ⟨A2, c2, rfl, -, -⟩ := hu2.form
    have HX3 := hide (HX2.out.trans hx3)
    have HU13 := hide (HU1.out.ext hx3)
    have HE13 := hide hx3
    clear hu2 hx3
    go_wp2_with fail
    refine (equalInts_any _ _ F F _ HU13.out HU2.out).mono ?_
    rintro e w4 ⟨rfl, hx4⟩
    rw [decide_eq_true (rfl : F = F)]
    have HX4 := hide (HX3.out.trans hx4)
    have HE14 := hide (HE13.out.trans hx4)
    clear hx4 k0 k1 k2 k3 k4 k5 k6 kl
    obtain ⟨k0, k1, k2, k3, k4, k5, k6, kl⟩ := HMC.out w4 HX4.out
    by_cases hF0 : F = []
    · have hz : ((F.length : Int) == 0) = true := by rw [hF0]; rfl
      have HF0 := hide hF0
      clear hF0
      go_wp2_with fail
      refine (FilterSA_any _ _ c ds _ (HSC.out _ (HXB.out.trans HX4.out)) (hD0.out.ext (HXB.out.trans HX4.out)) (by omega)).mono ?_
      rw [← HF.out]
      rintro e w5 ⟨u5, rfl, hu5, hx5⟩
      have HU5 := hide hu5
      obtain ⟨A5, c5, rfl, -, -⟩ := hu5.form
      have HX5 := hide (HX4.out.trans hx5)
      have HU15 := hide (HU1.out.ext (HE14.out.trans hx5))
      clear hu5 hx5 k0 k1 k2 k3 k4 k5 k6 kl
      go_wp2_with fail
      refine (equalInts_any _ _ F F _ HU15.out HU5.out).mono ?_
      rintro e w6 ⟨rfl, hx6⟩
      rw [decide_eq_true (rfl : F = F)]
      have HX6 := hide (HX5.out.trans hx6)
      clear hx6
      go_wp2_with fail
      go_ret
      exact Ret.mk rfl (HX1.out.trans (HXB.out.trans HX6.out))
    · have hz : ((F.length : Int) == 0) = false := by
        cases F with
        | nil => exact absurd rfl hF0
        | cons a l => rw [beq_eq_false_iff_ne]; simp; omega
      have hval : (inR ds.length 1 4 && allR ds 0 63) = true ∧ vCon c ds.length = true ∧ F = filtL c ds := by
        have hq := HF.out
        unfold fltV at hq
        cases h1 : (inR ds.length 1 4 && allR ds 0 63) with
        | false => rw [h1] at hq; exact absurd hq hF0
        | true =>
          cases h2 : vCon c ds.length with
          | false => rw [h1, h2] at hq; exact absurd hq hF0
          | true => rw [h1, h2] at hq; exact ⟨rfl, rfl, hq⟩
      have HVAL := hide hval
      have HFN := hide (show F.length = ds.length by rw [hval.2.2]; exact filtP_len _ _ _)
      clear hF0 hval
      by_cases hx0 : r.x < 0
      · have HX0 := hide hx0
        go_wp2_with fail
        refine (FilterSA_any _ _ c ds _ (HSC.out _ (HXB.out.trans HX4.out)) (hD0.out.ext (HXB.out.trans HX4.out)) (by omega)).mono ?_
        rw [← HF.out]
        rintro e w5 ⟨u5, rfl, hu5, hx5⟩
        have HU5 := hide hu5
        obtain ⟨A5, c5, rfl, -, -⟩ := hu5.form
        have HX5 := hide (HX4.out.trans hx5)
        have HU15 := hide (HU1.out.ext (HE14.out.trans hx5))
        clear hu5 hx5 k0 k1 k2 k3 k4 k5 k6 kl
        go_wp2_with fail
        refine (equalInts_any _ _ F F _ HU15.out HU5.out).mono ?_
        rintro e w6 ⟨rfl, hx6⟩
        rw [decide_eq_true (rfl : F = F)]
        have HX6 := hide (HX5.out.trans hx6)
        clear hx6
        go_wp2_with fail
        go_ret
        exact Ret.mk rfl (HX1.out.trans (HXB.out.trans HX6.out))
      · by_cases hxn : (ds.length : Int) ≤ r.x
        · have HXN := hide hxn
          go_wp2_with fail
          refine (FilterSA_any _ _ c ds _ (HSC.out _ (HXB.out.trans HX4.out)) (hD0.out.ext (HXB.out.trans HX4.out)) (by omega)).mono ?_
          rw [← HF.out]
          rintro e w5 ⟨u5, rfl, hu5, hx5⟩
          have HU5 := hide hu5
          obtain ⟨A5, c5, rfl, -, -⟩ := hu5.form
          have HX5 := hide (HX4.out.trans hx5)
          have HU15 := hide (HU1.out.ext (HE14.out.trans hx5))
          clear hu5 hx5 k0 k1 k2 k3 k4 k5 k6 kl
          go_wp2_with fail
          refine (equalInts_any _ _ F F _ HU15.out HU5.out).mono ?_
          rintro e w6 ⟨rfl, hx6⟩
          rw [decide_eq_true (rfl : F = F)]
          have HX6 := hide (HX5.out.trans hx6)
          clear hx6
          go_wp2_with fail
          go_ret
          exact Ret.mk rfl (HX1.out.trans (HXB.out.trans HX6.out))
        · obtain ⟨x, hx⟩ : ∃ x : Nat, r.x = x := ⟨r.x.toNat, by omega⟩
          have HX := hide hx
          rw [hx] at k5
          have hxI : ¬ ((x : Int) < 0) := by omega
          have hxJ : ¬ ((ds.length : Int) ≤ (x : Int)) := by omega
          clear hx0 hxn
          go_wp2_with fail
          have hex := ExplainI_any c _ _ ds r w4 (HSC.out _ (HXB.out.trans HX4.out)) (hD0.out.ext (HXB.out.trans HX4.out))
          rw [hx] at hex
          refine hex.mono ?_
          clear hex
          obtain ⟨ok, hok⟩ : ∃ ok, ok = xplB c ds r := ⟨_, rfl⟩
          rw [← hok]
          rintro e w5 ⟨A5, b5, m5, f5, rfl, hb5, -, hx5⟩
          have HOK := hide hok
          have HX5 := hide (HX4.out.trans hx5)
          have HU15 := hide (HU1.out.ext (HE14.out.trans hx5))
          clear hok hx5 k0 k1 k2 k3 k4 k5 k6 kl hb5
          obtain ⟨-, -, -, -, -, k5, k6, kl⟩ := HMC.out w5 HX5.out
          rw [hx] at k5
          have hxn' : x < ds.length := by omega
          obtain ⟨db, dof, rfl, hdbl, hd1⟩ := (hD0.out.ext (HXB.out.trans HX5.out)).at_ hxn'
          obtain ⟨fb, fof, rfl, hfbl, hf1⟩ := HU15.out.at_ (k := x) (by rw [HFN.out]; exact hxn')
          have hxF : (x : Int) < F.length := by rw [HFN.out]; omega
          have HAB := hide (fun h => (HOK.out.trans (hasD_ok HVAL.out.1 HVAL.out.2.1 HX.out hxn' h)) : hasD (at0 ds x) r.v = true → ok = !hasD (at0 (filtL c ds) x) r.v)
          have HFE := hide HVAL.out.2.2
          obtain ⟨rv, hrv⟩ : ∃ rv, rv = r.v := ⟨_, rfl⟩
          obtain ⟨dx, hdx⟩ : ∃ dx, dx = at0 ds x := ⟨_, rfl⟩
          obtain ⟨fx, hfx⟩ : ∃ fx, fx = at0 F x := ⟨_, rfl⟩
          have hab : hasD dx rv = true → ok = !hasD fx rv := by rw [hdx, hfx, hrv, HFE.out]; exact HAB.out
          rw [← hrv] at k6
          rw [← hdx] at hd1
          rw [← hfx] at hf1
          clear hx hrv hdx hfx hxn'
          cases hA : hasD dx rv with
          | false =>
            have HA := hide hA
            clear hA hab
            go_upto_region 8 with fail
            refine wp_region_ext (by kernel_rfl) (by kernel_rfl) ?_
            iterate 7 (apply quiet_val; (focus rfl); (focus (intro w' hw'; have hk' := hw'.cells; go_simp; all_goals exact rfl)); simp only [Act.put, List.setIfInBounds_toArray, List.set_cons_succ, List.set_cons_zero])
            apply quiet_call; (focus rfl); (focus (intro w' hw'; go_simp; all_goals (first | exact rfl | (apply And.intro <;> exact rfl))))
            · exact fun w' hw' => (DomainHasI_any dx rv w').mono fun e w2 h => ⟨h.1, h.2 ▸ hw'⟩
            (simp only [Act.put, List.setIfInBounds_toArray, List.set_cons_succ, List.set_cons_zero])
            rw [HA.out]
            iterate 2 (apply quiet_val; (focus rfl); (focus (intro w' hw'; have hk' := hw'.cells; go_simp; all_goals exact rfl)); simp only [Act.put, List.setIfInBounds_toArray, List.set_cons_succ, List.set_cons_zero])
            iterate 11 go_big_quiet_skip
            iterate 2 (apply quiet_val; (focus rfl); (focus (intro w' hw'; have hk' := hw'.cells; go_simp; all_goals exact rfl)); simp only [Act.put, List.setIfInBounds_toArray, List.set_cons_succ, List.set_cons_zero])
            refine wpQuiet_nil ?_
            intro w6 hx6
            have HX6 := hide (HX5.out.trans hx6)
            clear hx6
            go_wp2_with fail
            go_ret
            exact Ret.mk rfl (HX1.out.trans (HXB.out.trans HX6.out))
          | true =>
            have hb := hab hA
            obtain ⟨B, hB⟩ : ∃ B, B = hasD fx rv := ⟨_, rfl⟩
            rw [← hB] at hb
            subst hb
            have HA := hide hA
            have HB2 := hide hB
            clear hA hab hB
            go_upto_region 8 with fail
            refine wp_region_ext (by kernel_rfl) (by kernel_rfl) ?_
            iterate 7 (apply quiet_val; (focus rfl); (focus (intro w' hw'; have hk' := hw'.cells; go_simp; all_goals exact rfl)); simp only [Act.put, List.setIfInBounds_toArray, List.set_cons_succ, List.set_cons_zero])
            apply quiet_call; (focus rfl); (focus (intro w' hw'; go_simp; all_goals (first | exact rfl | (apply And.intro <;> exact rfl))))
            · exact fun w' hw' => (DomainHasI_any dx rv w').mono fun e w2 h => ⟨h.1, h.2 ▸ hw'⟩
            (simp only [Act.put, List.setIfInBounds_toArray, List.set_cons_succ, List.set_cons_zero])
            rw [HA.out]
            iterate 2 (apply quiet_val; (focus rfl); (focus (intro w' hw'; have hk' := hw'.cells; go_simp; all_goals exact rfl)); simp only [Act.put, List.setIfInBounds_toArray, List.set_cons_succ, List.set_cons_zero])
            iterate 8 (go_big_quiet_want; apply quietK_val; (focus (intro w' hw'; have hk' := hw'.cells; go_simp; all_goals exact rfl)); simp only [Act.put, List.setIfInBounds_toArray, List.set_cons_succ, List.set_cons_zero]; go_big_quiet_on)
            go_big_quiet_want; apply quietK_call; (focus (intro w' hw'; go_simp; all_goals (first | exact rfl | (apply And.intro <;> exact rfl))))
            · exact fun w' hw' => (DomainHasI_any fx rv w').mono fun e w2 h => ⟨h.1, h.2 ▸ hw'⟩
            (simp only [Act.put, List.setIfInBounds_toArray, List.set_cons_succ, List.set_cons_zero]; go_big_quiet_on)
            rw [← HB2.out]
            iterate 2 (go_big_quiet_want; apply quietK_val; (focus (intro w' hw'; have hk' := hw'.cells; go_simp; all_goals exact rfl)); simp only [Act.put, List.setIfInBounds_toArray, List.set_cons_succ, List.set_cons_zero]; go_big_quiet_on)
            iterate 2 (apply quiet_val; (focus rfl); (focus (intro w' hw'; have hk' := hw'.cells; go_simp; all_goals exact rfl)); simp only [Act.put, List.setIfInBounds_toArray, List.set_cons_succ, List.set_cons_zero])
            refine wpQuiet_nil ?_
            intro w6 hx6
            have HX6 := hide (HX5.out.trans hx6)
            clear hx6
            go_wp2_with fail
            go_ret
            exact Ret.mk rfl (HX1.out.trans (HXB.out.trans HX6.out))
end Go.Proofs.Ytmfbdaocnijnpaa
