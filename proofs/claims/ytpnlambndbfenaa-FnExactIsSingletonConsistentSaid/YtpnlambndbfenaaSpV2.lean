/- validModel of the reference. -/
import Derived.Test.YtpnlambndbfenaaSpV
import Derived.Test.YtpnlambndbfenaaProp
namespace Go.Proofs.Ytpnlambndbfenaa
open Go.RowKit

theorem vMod_eq (ds : List Int) (cs : List Con) (h : allR ds 0 63 = true) (h2 : anyB (fun i => !vCs (con0 cs i) ds.length) cs.length = false) : vMod ds cs = (inR ds.length 1 4 && decide (cs.length ≤ 6)) := by
  unfold vMod
  rw [h]
  cases hn : inR (ds.length : Int) 1 4 with
  | false => rfl
  | true =>
    rw [show anyB (fun i => !vCon (con0 cs i) ds.length) cs.length = false from anyB_false.2 fun i hi => by
      have := anyB_false.1 h2 i hi
      rw [vCon_vCs, hn, Bool.true_and]; exact this]
    simp
theorem vMod_no1 {ds : List Int} {cs : List Con} (h : allR ds 0 63 = false) : vMod ds cs = false := by
  unfold vMod; rw [h]; simp
theorem vMod_no2 {ds : List Int} {cs : List Con} {k : Nat} (hk : k < cs.length) (h : vCs (con0 cs k) ds.length = false) : vMod ds cs = false := by
  unfold vMod
  rw [anyB_iff.2 ⟨k, hk, by rw [vCon_vCs, h, Bool.and_false]; rfl⟩]
  simp
set_option maxHeartbeats 1000000 in
theorem validDomS_any (d : Int) (w : World) :
    Calls Try.prog 98 #[.int .i64 d] w fun e w' => e = .returned (.bool (inR d 0 63)) ∧ w = w' := by
  go_enter Try.func98, Try.ntmps98
  go_wp2_with fail
  refine (inRange_any _ _ _ _).mono ?_
  rintro e w' ⟨rfl, rfl⟩
  go_wp2
  go_ret
  exact ⟨rfl, rfl⟩
set_option maxRecDepth 100000 in
set_option maxHeartbeats 4000000 in
theorem validModelS_any (v : Value) (ds : List Int) (cs : List Con) (w : World) (hM : SMod w v ds cs) :
    Calls Try.prog 54 #[v] w (Ret (.bool (vMod ds cs)) w) := by
  obtain ⟨ve, vc, rfl, hE, hC⟩ := hM
  obtain ⟨Ae, ce, rfl, -, hle⟩ := hE.form
  obtain ⟨Ac, cc, rfl, -, hlc⟩ := hC.form
  obtain ⟨w0, hw0⟩ : ∃ w0, w0 = w.alloc (.cells #[.slice Ae ds.length ce, .slice Ac cs.length cc] 48) := ⟨_, rfl⟩
  have hx0 : Ext w w0 := by rw [hw0]; exact (Ext.refl w).alloc _
  have k0 : w0.cell? ⟨w.heap.size, 0, none⟩ = some (.slice Ae ds.length ce) := by rw [hw0]; go_simp
  have k1 : w0.cell? ⟨w.heap.size, 1, none⟩ = some (.slice Ac cs.length cc) := by rw [hw0]; go_simp
  have ks : w.heap.size < w0.heap.size := by rw [hw0]; simp
  have HX0 := hide hx0
  have K0 := hide k0
  have K1 := hide k1
  have hE0 := hide (hE.ext hx0)
  have hC0 := hide (hC.ext hx0)
  clear hE hC hx0
  go_enter Try.func54, Try.ntmps54
  go_wp2
  rw [← hw0]
  clear hw0
  go_loop [3] (fun i => ∃ k : Nat, i = .int .i64 k ∧ k ≤ ds.length ∧ ∀ j, j < k → inR (at0 ds j) 0 63 = true) (fun i => ds.length - (intOf i).toNat)
  case atStart => exact ⟨0, rfl, Nat.zero_le _, fun j hj => by omega⟩
  case round =>
    obtain ⟨k, rfl, hk, hall⟩ := hrel
    have HALL := hide hall
    clear hall
    by_cases hlt : k < ds.length
    · have hkI : (k : Int) < ds.length := by omega
      obtain ⟨b, off, rfl, hbl, f1⟩ := hE0.out.at_ hlt
      cases hq : inR (at0 ds k) 0 63 with
      | true =>
        have HQ := hide hq
        clear hq
        go_wp2_with (go_at_call 98; refine (validDomS_any _ _).mono ?_; rintro e w' ⟨rfl, rfl⟩; rw [HQ.out])
        go_round
        case rel => exact ⟨k + 1, by go_num, by omega, fun j hj => by
          by_cases e : j = k
          · subst e; exact HQ.out
          · exact HALL.out j (by omega)⟩
        case measure => simp [intOf]; omega
      | false =>
        have HQ := hide hq
        have HV := hide (vMod_no1 (cs := cs) (allR_no hlt hq))
        clear hq
        go_wp2_with (go_at_call 98; refine (validDomS_any _ _).mono ?_; rintro e w' ⟨rfl, rfl⟩; rw [HQ.out])
        go_ret
        exact Ret.mk (ret_b HV.out.symm) HX0.out
    · obtain rfl : k = ds.length := by omega
      have hkI : ¬ ((ds.length : Int) < ds.length) := by omega
      have HA := hide (allR_of HALL.out)
      go_wp2
      go_loopw [4] (fun i wr => ∃ k : Nat, i = .int .i64 k ∧ k ≤ cs.length ∧ Ext w0 wr ∧ ∀ j, j < k → (!vCs (con0 cs j) ds.length) = false) (fun i _ => cs.length - (intOf i).toNat)
      case atStart => exact ⟨0, rfl, Nat.zero_le _, Ext.refl _, fun j hj => by omega⟩
      case round =>
        obtain ⟨k, rfl, hk, hx, hno⟩ := hrel
        have HX := hide hx
        have HNO := hide hno
        have k0 := (hx.cells _ _ ks).trans K0.out
        have k1 := (hx.cells _ _ ks).trans K1.out
        have ksr := Nat.lt_of_lt_of_le ks hx.size
        clear hno
        by_cases hlt : k < cs.length
        · have hkI : (k : Int) < cs.length := by omega
          obtain ⟨b, off, rfl, hbl, vv, va, vr, f1, f2, f3, f4, f5, s1, s2, s3⟩ := (hC0.out.ext hx).at_ hlt
          obtain ⟨Av, cv, rfl, -, -⟩ := s1.form
          obtain ⟨Aa, ca, rfl, -, -⟩ := s2.form
          obtain ⟨Ar, cr, rfl, -, -⟩ := s3.form
          have S1 := hide s1
          have S2 := hide s2
          have S3 := hide s3
          clear s1 s2 s3 hx
          cases hq : vCs (con0 cs k) ds.length with
          | true =>
            have HQ := hide hq
            clear hq
            go_wp2
            refine wp_region_ext (by kernel_rfl) (by kernel_rfl) ?_
            iterate 8 (apply quiet_val; (focus rfl); (focus (intro w' hw'; have hk' := hw'.cells; go_simp; all_goals exact rfl)); simp only [Act.put, List.setIfInBounds_toArray, List.set_cons_succ, List.set_cons_zero])
            apply quiet_call; (focus rfl); (focus (intro w' hw'; go_simp; all_goals (first | exact rfl | (apply And.intro <;> exact rfl))))
            · exact fun w' hw' => Ret.quiet (validConstraintS_any (con0 cs k) _ _ _ ds.length _ (S1.out.ext hw') (S2.out.ext hw') (S3.out.ext hw') (by omega) (by omega)) hw'
            (simp only [Act.put, List.setIfInBounds_toArray, List.set_cons_succ, List.set_cons_zero])
            (apply quiet_val; (focus rfl); (focus (intro w' hw'; have hk' := hw'.cells; go_simp; all_goals exact rfl)); simp only [Act.put, List.setIfInBounds_toArray, List.set_cons_succ, List.set_cons_zero])
            refine wpQuiet_nil ?_
            intro w2 hx2
            have HX2 := hide (HX.out.trans hx2)
            clear hx2
            rw [HQ.out]
            go_wp2
            go_roundw
            case rel => exact ⟨k + 1, by go_num, by omega, HX2.out, upto_succ HNO.out (by rw [HQ.out]; rfl)⟩
            case measure => simp [intOf]; omega
          | false =>
            have HQ := hide hq
            have HV := hide (vMod_no2 hlt hq)
            clear hq
            go_wp2
            refine wp_region_ext (by kernel_rfl) (by kernel_rfl) ?_
            iterate 8 (apply quiet_val; (focus rfl); (focus (intro w' hw'; have hk' := hw'.cells; go_simp; all_goals exact rfl)); simp only [Act.put, List.setIfInBounds_toArray, List.set_cons_succ, List.set_cons_zero])
            apply quiet_call; (focus rfl); (focus (intro w' hw'; go_simp; all_goals (first | exact rfl | (apply And.intro <;> exact rfl))))
            · exact fun w' hw' => Ret.quiet (validConstraintS_any (con0 cs k) _ _ _ ds.length _ (S1.out.ext hw') (S2.out.ext hw') (S3.out.ext hw') (by omega) (by omega)) hw'
            (simp only [Act.put, List.setIfInBounds_toArray, List.set_cons_succ, List.set_cons_zero])
            (apply quiet_val; (focus rfl); (focus (intro w' hw'; have hk' := hw'.cells; go_simp; all_goals exact rfl)); simp only [Act.put, List.setIfInBounds_toArray, List.set_cons_succ, List.set_cons_zero])
            refine wpQuiet_nil ?_
            intro w2 hx2
            have HX2 := hide ((HX0.out.trans HX.out).trans hx2)
            clear hx2
            rw [HQ.out]
            go_wp2
            go_ret
            exact Ret.mk (ret_b HV.out.symm) HX2.out
        · obtain rfl : k = cs.length := by omega
          have hkI : ¬ ((cs.length : Int) < cs.length) := by omega
          have HV := hide (vMod_eq ds cs HA.out (anyB_false.2 HNO.out))
          cases hq : inR (ds.length : Int) 1 4 with
          | false =>
            have HV2 := hide (show vMod ds cs = false by rw [HV.out, hq]; rfl)
            have HQ := hide hq
            clear hq
            go_wp2_with (go_at_call 41; refine (inRange_any _ _ _ _).mono ?_; rintro e w' ⟨rfl, rfl⟩; rw [HQ.out])
            go_ret
            exact Ret.mk (ret_b HV2.out.symm) (HX0.out.trans HX.out)
          | true =>
            have HQ := hide hq
            cases hq2 : decide ((cs.length : Int) ≤ 6) with
            | true =>
              have HV2 := hide (show vMod ds cs = true by rw [HV.out, hq, decide_eq_true (show cs.length ≤ 6 by have := of_decide_eq_true hq2; omega)]; rfl)
              have hq3 : (cs.length : Int) ≤ 6 := of_decide_eq_true hq2
              clear hq
              go_wp2_with (go_at_call 41; refine (inRange_any _ _ _ _).mono ?_; rintro e w' ⟨rfl, rfl⟩; rw [HQ.out])
              go_ret
              exact Ret.mk (ret_b HV2.out.symm) (HX0.out.trans HX.out)
            | false =>
              have HV2 := hide (show vMod ds cs = false by rw [HV.out, hq, decide_eq_false (show ¬ cs.length ≤ 6 by have := of_decide_eq_false hq2; omega)]; rfl)
              have hq3 : ¬ (cs.length : Int) ≤ 6 := of_decide_eq_false hq2
              clear hq
              go_wp2_with (go_at_call 41; refine (inRange_any _ _ _ _).mono ?_; rintro e w' ⟨rfl, rfl⟩; rw [HQ.out])
              go_ret
              exact Ret.mk (ret_b HV2.out.symm) (HX0.out.trans HX.out)
theorem vMod_good {ds : List Int} {cs : List Con} (h : vMod ds cs = true) : GoodD cs ds.length ds ∧ 0 < ds.length ∧ ds.length ≤ 4 := by
  simp only [vMod, Bool.and_eq_true, Bool.not_eq_true', inR, decide_eq_true_eq] at h
  obtain ⟨⟨⟨h1, h2⟩, h3⟩, h4, h5⟩ := h
  refine ⟨⟨rfl, DomL.of h3, fun i hi => ?_⟩, by omega, by omega⟩
  have := anyB_false.1 h5 i hi
  simpa using this
end Go.Proofs.Ytpnlambndbfenaa
