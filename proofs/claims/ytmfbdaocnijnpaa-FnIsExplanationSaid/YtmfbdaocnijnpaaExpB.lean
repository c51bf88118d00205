/- Explain of the reference: the list is the call's own. -/
import Derived.Test.YtmfbdaocnijnpaaExpA
namespace Go.Proofs.Ytmfbdaocnijnpaa
open Go.RowKit
attribute [local go_sem] evalOf

def RmOutA (xs : List Rm) (ok : Bool) (w : World) (e : Ending) (w' : World) : Prop :=
  ∃ A c, e = .returned (.tuple #[.slice A xs.length c, .bool ok]) ∧ SRm w' (.slice A xs.length c) xs ∧ layRm.App w.heap.size w' (.slice A xs.length c) xs ∧ Ext w w'
theorem RmOutA.no {c : Con} {ds : List Int} {r : Rm} {w w' : World} {e : Ending} (hB : xplB c ds r = false) (he : e = .returned (.tuple #[.slice none 0 0, .bool false])) (hx : Ext w w') : RmOutA (xplL c ds r) (xplB c ds r) w e w' := by
  rw [xplL_no hB, hB]
  exact ⟨none, 0, he, ⟨none, 0, rfl, Nat.le_refl _, by simp, fun hp => absurd hp (by simp)⟩, LayApp.nil_ _ _, hx⟩
set_option maxRecDepth 100000 in
set_option maxHeartbeats 8000000 in
theorem ExplainSA_any (c : Con) (v vd : Value) (ds : List Int) (r : Rm) (w : World) (hC : SCon w v c) (hD : SInts w vd ds) :
    Calls Try.prog 15 #[v, vd, .agg #[.int .i64 r.x, .int .i64 r.v]] w (RmOutA (xplL c ds r) (xplB c ds r) w) := by
  have hC0 := hide hC
  obtain ⟨vv, va, vr, rfl, hV, hA, hR⟩ := hC
  obtain ⟨Av, cv, rfl, -, -⟩ := hV.form
  obtain ⟨Aa, ca, rfl, -, -⟩ := hA.form
  obtain ⟨Ar, cr, rfl, -, -⟩ := hR.form
  have hD0 := hide hD
  obtain ⟨Ad, cd, rfl, -, hdl⟩ := hD.form
  have HBY := hide (show layRm.bytes = 16 from rfl)
  obtain ⟨w0, hw0⟩ : ∃ w0, w0 = (w.alloc (.cells #[.int .i64 c.kk, .slice Av c.vars.length cv, .slice Aa c.args.length ca, .int .i64 c.bound, .slice Ar c.rows.length cr] 26)).alloc (.cells #[.int .i64 r.x, .int .i64 r.v] 29) := ⟨_, rfl⟩
  have hx0 : Ext w w0 := by rw [hw0]; exact ((Ext.refl w).alloc _).alloc _
  have hs0 : w0.heap.size = w.heap.size + 2 := by rw [hw0]; simp
  have k0 : w0.cell? ⟨w.heap.size, 0, none⟩ = some (.int .i64 c.kk) := by rw [hw0]; go_simp
  have k1 : w0.cell? ⟨w.heap.size, 1, none⟩ = some (.slice Av c.vars.length cv) := by rw [hw0]; go_simp
  have k2 : w0.cell? ⟨w.heap.size, 2, none⟩ = some (.slice Aa c.args.length ca) := by rw [hw0]; go_simp
  have k3 : w0.cell? ⟨w.heap.size, 3, none⟩ = some (.int .i64 c.bound) := by rw [hw0]; go_simp
  have k4 : w0.cell? ⟨w.heap.size, 4, none⟩ = some (.slice Ar c.rows.length cr) := by rw [hw0]; go_simp
  have j0 : w0.cell? ⟨w.heap.size + 1, 0, none⟩ = some (.int .i64 r.x) := by rw [hw0]; go_simp
  have j1 : w0.cell? ⟨w.heap.size + 1, 1, none⟩ = some (.int .i64 r.v) := by rw [hw0]; go_simp
  have HK := hide (And.intro k0 (And.intro k1 (And.intro k2 (And.intro k3 k4))))
  have HJ := hide (And.intro j0 j1)
  have ks : w.heap.size < w0.heap.size := by omega
  have js : w.heap.size + 1 < w0.heap.size := by omega
  have HX0 := hide hx0
  have hV0 := hide (hV.ext hx0)
  have hA0 := hide (hA.ext hx0)
  have hR0 := hide (hR.ext hx0)
  clear hV hA hR hD hx0
  go_enter Try.func15, Try.ntmps15
  go_wp2_with fail
  rw [← hw0]
  clear hw0
  refine (validDomains_any _ ds _ (hD0.out.ext HX0.out)).mono ?_
  rintro e w' ⟨rfl, rfl⟩
  cases h1 : (inR ds.length 1 4 && allR ds 0 63) with
  | false =>
    have HV := hide (xplB_no (show xplOk c ds r = false by rw [xplOk, h1]; rfl))
    clear h1
    go_wp2
    go_ret2
    exact RmOutA.no HV.out rfl HX0.out
  | true =>
    have H1 := hide h1
    have hlen : 1 ≤ ds.length ∧ ds.length ≤ 4 := by
      rw [Bool.and_eq_true] at h1
      have := h1.1
      simp [inR] at this
      omega
    have HDM := hide (show DomL ds by rw [Bool.and_eq_true] at h1; exact DomL.of h1.2)
    clear h1
    go_wp2_with fail
    refine (validConstraintS_any c _ _ _ ds.length _ hV0.out hA0.out hR0.out (by omega) (by omega)).mono ?_
    rintro e w1 ⟨rfl, hx1⟩
    have HX1 := hide hx1
    clear hx1 k0 k1 k2 k3 k4 j0 j1
    cases h2 : vCs c ds.length with
    | false =>
      have HV := hide (xplB_no (show xplOk c ds r = false by rw [xplOk, vCon_vCs, h2, Bool.and_false, Bool.false_and, Bool.and_false]))
      clear h2
      go_wp2
      go_ret2
      exact RmOutA.no HV.out rfl (HX0.out.trans HX1.out)
    | true =>
      have H2 := hide (show vCon c ds.length = true by rw [vCon_vCs, h2, show inR ds.length 1 4 = true by simp [inR]; omega]; rfl)
      have j0 := (HX1.out.cells _ _ js).trans HJ.out.1
      have j1 := (HX1.out.cells _ _ js).trans HJ.out.2
      clear h2
      go_wp2_with fail
      obtain ⟨u, hu⟩ : ∃ u, u = w1.alloc (.cells #[.int .i64 r.x, .int .i64 r.v] 29) := ⟨_, rfl⟩
      have hxu : Ext w1 u := by rw [hu]; exact (Ext.refl w1).alloc _
      have u0 : u.cell? ⟨w1.heap.size, 0, none⟩ = some (.int .i64 r.x) := by rw [hu]; go_simp
      have u1 : u.cell? ⟨w1.heap.size, 1, none⟩ = some (.int .i64 r.v) := by rw [hu]; go_simp
      have us : w1.heap.size < u.heap.size := by rw [hu]; simp
      have HXU := hide (HX1.out.trans hxu)
      rw [← hu]
      clear hu hxu
      refine (validRemovals_any _ [r] ds.length _ (SRm.one us u0 u1) (by omega) (by omega)).mono ?_
      rintro e w' ⟨rfl, rfl⟩
      rw [okRms_one]
      clear u0 u1 j0 j1
      cases h3 : okRm r ds.length with
      | false =>
        have HV := hide (xplB_no (show xplOk c ds r = false by rw [xplOk, h3, Bool.and_false, Bool.and_false]))
        clear h3
        go_wp2
        go_ret2
        exact RmOutA.no HV.out rfl (HX0.out.trans HXU.out)
      | true =>
        have H3 := hide h3
        have HOK := hide (show xplOk c ds r = true by rw [xplOk, H1.out, H2.out, h3]; rfl)
        clear h3
        go_wp2_with fail
        obtain ⟨z, hz⟩ : ∃ z, z = u.alloc (.cells #[] 29) := ⟨_, rfl⟩
        have hxz : Ext u z := by rw [hz]; exact (Ext.refl u).alloc _
        have hsz : z.heap.size = u.heap.size + 1 := by rw [hz]; simp
        have HE := hide (show layRm.App u.heap.size z (.slice (some ⟨u.heap.size, 0, none⟩) 0 0) [] by rw [hz]; exact LayApp.empty u rfl)
        have HXZ := hide (HXU.out.trans hxz)
        rw [← hz]
        clear hz hxz
        refine (removals_any _ ds _ (hD0.out.ext (HX0.out.trans HXZ.out)) HDM.out hlen.2).mono ?_
        rintro e w4 ⟨va, rfl, hA4, hx4⟩
        have hall := rmA0_len ds ds.length
        obtain ⟨al, hal⟩ : ∃ al, al = rmA0 ds ds.length := ⟨_, rfl⟩
        have HFI := hide (show al.filter (neR r) = rmA ds r ds.length by rw [hal, rmA_filter])
        rw [← hal] at hall hA4
        have HX4 := hide (HXZ.out.trans hx4)
        have h24 : al.length ≤ 24 := by omega
        obtain ⟨Aa4, ca4, rfl, -, -⟩ := LayApp.form hA4
        have HS4 := hide (LayApp.S hA4 (by rw [HBY.out]; omega))
        have HAL := hide (show ∀ g, (Value.slice Aa4 al.length ca4).ownBlock = some g → z.heap.size ≤ g ∧ g < w4.heap.size from fun g hg => World.ownsRow.lt hA4 g hg)
        have hz4 := hx4.size
        have hzx := HXZ.out.size
        obtain ⟨S, hS⟩ : ∃ S : Nat → Prop, S = fun k => k = u.heap.size ∨ w4.heap.size ≤ k := ⟨_, rfl⟩
        have HS := hide (show ∀ k, S k ↔ (k = u.heap.size ∨ w4.heap.size ≤ k) from fun k => by rw [hS])
        have HK0 := hide (show layRm.K S w4 (.slice (some ⟨u.heap.size, 0, none⟩) 0 0) [] from ⟨LayApp.mono (LayApp.ext HE.out hx4) (Nat.zero_le _), fun g hg => by injection hg with hg; exact (HS.out g).2 (.inl hg.symm)⟩)
        clear hal hx4 hA4 hS
        go_wp2
        go_loopw [8, 10] (fun o i wr => ∃ k : Nat, k ≤ al.length ∧ i = .int .i64 k ∧ Keep (fun j => ¬ S j) w4 wr ∧ layRm.K S wr o ((al.take k).filter (neR r))) (fun _ i _ => al.length - (intOf i).toNat)
        case atStart => exact ⟨0, Nat.zero_le _, rfl, Keep.refl _ _, HK0.out⟩
        case round =>
          obtain ⟨k, hk, rfl, hkp, hkk⟩ := hrel
          have HKP := hide hkp
          have HKK := hide hkk
          have hws := hkp.size
          have HXW := hide (show Ext w0 wr from Below.trans HX4.out (Below.mono (hkp.below (B := u.heap.size) (by omega) (fun k hk => by rw [HS.out k]; omega)) HXU.out.size))
          obtain ⟨o, ho, co, hv⟩ : ∃ o ho co, True := ⟨0, 0, 0, trivial⟩
          obtain ⟨Ao, co, hvo, -, -⟩ := LayK.form hkk
          obtain ⟨N, hN⟩ : ∃ N, N = ((al.take k).filter (neR r)).length := ⟨_, rfl⟩
          have hN24 : N ≤ 24 := by
            have h1 := List.length_filter_le (neR r) (al.take k)
            rw [List.length_take] at h1
            omega
          rw [← hN] at hvo
          subst hvo
          have HN := hide hN
          have j0 := (HXW.out.cells _ _ js).trans HJ.out.1
          have j1 := (HXW.out.cells _ _ js).trans HJ.out.2
          have jsW := Nat.lt_of_lt_of_le js HXW.out.size
          clear hkp hkk hN ho hv
          by_cases hlt : k < al.length
          · have hkI : (k : Int) < al.length := by omega
            obtain ⟨b, off, hAe, hb4, -⟩ := LayS.at_ HS4.out (by omega)
            subst hAe
            obtain ⟨hb1, hb2⟩ := HAL.out b rfl
            have HSW := hide (LayS.keep HS4.out HKP.out (by rw [HS.out b]; omega))
            obtain ⟨b', off', hb', hbw, f1, f2⟩ := (layRm_S HSW.out).at_ hlt
            injection hb' with hb'
            injection hb' with e1 e2
            subst e1; subst e2
            obtain ⟨x, hx⟩ : ∃ x : Rm, x = al[k] := ⟨_, rfl⟩
            have e1 : rmX al k = x.x := by rw [hx, rmX, rm0, getD_lt _ _ hlt]
            have e2 : rmV al k = x.v := by rw [hx, rmV, rm0, getD_lt _ _ hlt]
            rw [e1] at f1
            rw [e2] at f2
            have HFT := hide (filter_take (neR r) al hlt)
            rw [← hx] at HFT
            clear hx e1 e2
            go_wp2_with fail
            refine wp_region_ext (by kernel_rfl) (by kernel_rfl) ?_
            iterate 5 (apply quiet_val; (focus rfl); (focus (intro w' hw'; have hk' := hw'.cells; go_simp; all_goals exact rfl)); simp only [Act.put, List.setIfInBounds_toArray, List.set_cons_succ, List.set_cons_zero])
            refine quiet_val (.bool (neR r x)) rfl (fun w' hw' => ?_) ?_
            · go_simp
              unfold neR
              by_cases e1 : x.x = r.x <;> by_cases e2 : x.v = r.v <;> simp [e1, e2]
            simp only [Act.put, List.setIfInBounds_toArray, List.set_cons_succ, List.set_cons_zero]
            refine wpQuiet_nil ?_
            intro w5 hx5
            have HX5 := hide hx5
            have HKP5 := hide (HKP.out.ext hx5)
            have HKK5 := hide (LayK.ext HKK.out hx5)
            have f1 := (hx5.cells _ _ hbw).trans f1
            have f2 := (hx5.cells _ _ hbw).trans f2
            have hbw := Nat.lt_of_lt_of_le hbw hx5.size
            have h5s := hx5.size
            clear hx5 j0 j1
            cases hne : neR r x with
            | false =>
              have HNE := hide (show (al.take (k + 1)).filter (neR r) = (al.take k).filter (neR r) by rw [HFT.out, hne]; rfl)
              clear hne
              go_wp2
              go_roundw
              case rel => exact ⟨k + 1, by omega, by go_num, HKP5.out, by rw [HNE.out]; exact HKK5.out⟩
              case measure => simp [intOf]; omega
            | true =>
              have HNE := hide (show (al.take (k + 1)).filter (neR r) = (al.take k).filter (neR r) ++ [x] by rw [HFT.out, hne]; rfl)
              clear hne
              go_wp2_with (at_builtin; refine wpList_appK (L := layRm) layRmOk _ rfl _ _ rfl S _ _ ((al.take k).filter (neR r)) [x] rfl rfl (LayK.ext HKK5.out ((Ext.refl _).alloc _)) (⟨_, _, rfl, Nat.le_refl _, by rw [HBY.out]; simp, fun _ => ⟨_, 0, rfl, by simp, fun j w hj => by
                match j, hj with
                | 0, hj => injection hj with hj; subst hj; go_simp
                | 1, hj => injection hj with hj; subst hj; go_simp
                | j + 2, hj => simp [Lay.flat, layRm] at hj⟩⟩) (by intro n c h; cases h) (by rw [← HN.out]; simp; omega) (by rw [← HN.out, HBY.out]; simp; omega) (fun k hk => (HS.out k).2 (.inr (by rw [World.size_alloc] at hk; omega))) ?_; intro v' w6 hK6 hp6)
              go_roundw
              case rel => exact ⟨k + 1, by omega, by go_num, (HKP5.out.ext ((Ext.refl _).alloc _)).trans hp6, by rw [HNE.out]; exact hK6⟩
              case measure => simp [intOf]; omega
          · obtain rfl : k = al.length := by omega
            have hkI : ¬ ((al.length : Int) < al.length) := by omega
            have HKA := hide (show layRm.App 0 wr (.slice Ao N co) (rmA ds r ds.length) by have h1 := HKK.out.1; rw [List.take_length, HFI.out] at h1; exact h1)
            have HNA := hide (show N = (rmA ds r ds.length).length by rw [HN.out, List.take_length, HFI.out])
            have hle := rmA_len ds r ds.length
            have HSR := hide (LayApp.S HKA.out (by rw [HBY.out]; omega))
            have HRO := hide (rmA_ok ds r ds.length hlen.2)
            have HEB := hide (show xplB c ds r = explB c ds.length (rmA ds r ds.length) r by rw [xplB, HOK.out, Bool.true_and])
            have k0 := (HXW.out.cells _ _ ks).trans HK.out.1
            have k1 := (HXW.out.cells _ _ ks).trans HK.out.2.1
            have k2 := (HXW.out.cells _ _ ks).trans HK.out.2.2.1
            have k3 := (HXW.out.cells _ _ ks).trans HK.out.2.2.2.1
            have k4 := (HXW.out.cells _ _ ks).trans HK.out.2.2.2.2
            clear hle
            go_wp2_with fail
            refine (explainsS_any c _ _ ds.length (rmA ds r ds.length) r _ (hC0.out.ext (HX0.out.trans HXW.out)) (layRm_S HSR.out) H2.out HRO.out H3.out hlen.1 hlen.2).mono ?_
            rintro e w6 ⟨rfl, hx6⟩
            have HX6 := hide (HXW.out.trans hx6)
            have HSR6 := hide (LayS.ext HSR.out hx6)
            clear hx6 k0 k1 k2 k3 k4 j0 j1
            cases hq : explB c ds.length (rmA ds r ds.length) r with
            | false =>
              have HV := hide (show xplB c ds r = false by rw [HEB.out, hq])
              clear hq
              go_wp2
              go_ret2
              exact RmOutA.no HV.out rfl (HX0.out.trans HX6.out)
            | true =>
              have HV := hide (show xplB c ds r = true by rw [HEB.out, hq])
              have k0 := (HX6.out.cells _ _ ks).trans HK.out.1
              have k1 := (HX6.out.cells _ _ ks).trans HK.out.2.1
              have k2 := (HX6.out.cells _ _ ks).trans HK.out.2.2.1
              have k3 := (HX6.out.cells _ _ ks).trans HK.out.2.2.2.1
              have k4 := (HX6.out.cells _ _ ks).trans HK.out.2.2.2.2
              have j0 := (HX6.out.cells _ _ js).trans HJ.out.1
              have j1 := (HX6.out.cells _ _ js).trans HJ.out.2
              clear hq
              go_wp2_with fail
              refine (minimalReasons_any c _ _ ds.length (rmA ds r ds.length) r _ (hC0.out.ext (HX0.out.trans HX6.out)) HSR6.out (LayApp.hnil HKA.out) H2.out HRO.out H3.out hlen.1 hlen.2).mono ?_
              rintro e w7 ⟨v7, rfl, hA7, hx7⟩
              have hl24 := xplL_len c ds r
              obtain ⟨q, hq⟩ : ∃ q, q = xplL c ds r := ⟨_, rfl⟩
              have hq2 := xplL_yes HV.out
              rw [← hq2, ← hq] at hA7
              rw [← hq] at hl24
              have HX7 := hide ((HX0.out.trans HX6.out).trans hx7)
              obtain ⟨A7, c7, rfl, -, -⟩ := LayApp.form hA7
              have HS7 := hide (layRm_S (LayApp.S hA7 (by rw [HBY.out]; omega)))
              have HRES := hide (show RmOutA (xplL c ds r) (xplB c ds r) w (.returned (.tuple #[.slice A7 q.length c7, .bool true])) w7 by rw [HV.out, ← hq]; exact ⟨_, _, rfl, HS7.out, LayApp.mono hA7 (HX0.out.trans HX6.out).size, HX7.out⟩)
              clear hx7 hA7 hq hq2 k0 k1 k2 k3 k4 j0 j1
              go_wp2
              go_ret2
              exact HRES.out
end Go.Proofs.Ytmfbdaocnijnpaa
