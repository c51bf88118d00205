/- The walk of the law FnRequiredEnergy: it returns true, and memory only grows. -/
import Derived.Test.YtofnihagfjdocaaPlnE
import Derived.Test.YtofnihagfjdocaaLawMkP
import Derived.Test.YtofnihagfjdocaaLawRE
namespace Go.Proofs.Ytofnihagfjdocaa
open Go.RowKit

/-- Tasks and an interval came; memory only grew. -/
def DrawnTLH (w : World) (e : Ending) (w' : World) : Prop :=
  ∃ (v : Value) (ts : List Tk) (l h : Int), e = .returned (.tuple #[v, .int .i64 l, .int .i64 h]) ∧ 1 ≤ ts.length ∧ ts.length ≤ 8 ∧ -1 ≤ l ∧ l ≤ 100 ∧ -1 ≤ h ∧ h ≤ 100 ∧ STasks w' v ts ∧ Ext w w'
set_option maxRecDepth 100000 in
set_option maxHeartbeats 4000000 in
theorem DrawRequiredEnergy_any (v : Value) (n : Nat) (w : World) (hB : SBytes w v n) : Calls Try.prog 27 #[v] w (DrawnTLH w) := by
  have HB := hide hB
  obtain ⟨A, c, rfl, -⟩ := hB
  go_enter Try.func27, Try.ntmps27
  go_wp2_with fail
  refine (newReader_any w w _ n HB.out (Ext.refl w)).mono ?_
  rintro e w1 ⟨br, rfl, hR, hx1, hbr⟩
  have HX := hide hx1
  have hbl := hR.lt
  clear hx1
  go_wp2_with fail
  refine (anyTasks_any w br 0 _ (by omega) hR).mono ?_
  rintro e w2 ⟨v2, m, c2, rfl, l1, l8, c0, c1, hL, hR2, hK2⟩
  obtain ⟨g, cap, rfl, hg, hgl, hcap⟩ := hL.form
  obtain ⟨ts, rfl, hT⟩ := hL.tasks (by omega) (by omega) (by omega)
  have HT := hide hT
  have HR2 := hide hR2
  have HX2 := hide (show Ext w w2 from Below.trans HX.out (hK2.below HX.out.size (fun k hk => by omega)))
  have hgb : g ≠ br := by omega
  clear hL hR2 hK2 hT hR
  go_wp2_with fail
  refine (pick_any w br (0 + 40) 12 _ (by omega) (by omega) (by omega) HR2.out).mono ?_
  rintro e w3 ⟨p, p0, p1, rfl, hR3, hK3⟩
  have HR3 := hide hR3
  have HK3 := hide hK3
  clear hR3 hK3
  go_wp2_with fail
  refine (pick_any w br (0 + 40 + 1) 8 _ (by omega) (by omega) (by omega) HR3.out).mono ?_
  rintro e w4 ⟨q, q0, q1, rfl, hR4, hK4⟩
  have HR4 := hide hR4
  have HK4 := hide (HK3.out.trans hK4)
  clear hR4 hK4
  go_wp2_with fail
  refine (pick_any w br (0 + 40 + 1 + 1) 14 _ (by omega) (by omega) (by omega) HR4.out).mono ?_
  rintro e w5 ⟨u, u0, u1, rfl, hR5, hK5⟩
  have HR5 := hide hR5
  have HK5 := hide (HK4.out.trans hK5)
  have hbr5 := hR5.lt
  clear hR5 hK5
  by_cases hu : u = 0
  · subst hu
    go_wp2_with fail
    refine (one_any w br (0 + 40 + 1 + 1 + 1) (-1) 100 w5.heap.size 2 2 _ (by omega) (by omega) (by omega) (HR5.out.grow ((Ext.refl _).alloc _)) (by simp) (by omega) (newL w5 _ [-1, 3] (by intro x hx; simp at hx; omega)) (Nat.le_refl _)).mono ?_
    rintro e w6 ⟨y, y0, y1, rfl, hR6, hK6⟩
    have HR6 := hide hR6
    have HK6 := hide (HK5.out.trans ((((Ext.refl w5).alloc _).keep _).trans hK6))
    have hbr6 := hR6.lt
    clear hR6 hK6
    go_wp2_with fail
    refine (one_any w br (0 + 40 + 1 + 1 + 1 + 1) (-1) 100 w6.heap.size 2 2 _ (by omega) (by omega) (by omega) (HR6.out.grow ((Ext.refl _).alloc _)) (by simp) (by omega) (newL w6 _ [2, 12] (by intro x hx; simp at hx; omega)) (Nat.le_refl _)).mono ?_
    rintro e w7 ⟨z, z0, z1, rfl, hR7, hK7⟩
    have hK27 := HK6.out.trans ((((Ext.refl w6).alloc (.cells #[.int .i64 2, .int .i64 12] 3)).keep _).trans hK7)
    have HE := hide (show DrawnTLH w (.returned (.tuple #[.slice (some ⟨g, 0, none⟩) ts.length cap, .int .i64 y, .int .i64 z])) w7 from ⟨_, ts, y, z, rfl, l1, l8, y0, y1, z0, z1, HT.out.keep hK27 hgb, Below.trans HX2.out (hK27.below HX2.out.size (fun k hk => by omega))⟩)
    clear hR7 hK7 hK27
    go_wp2
    refine bodyPost_ret (v := .tuple #[.slice (some ⟨g, 0, none⟩) ts.length cap, .int .i64 y, .int .i64 z]) (by simp only [results, Try.results27]; go_simp) rfl ?_
    exact HE.out
  · have hu' : (u == 0) = false := by rw [beq_eq_false_iff_ne]; exact hu
    have HE := hide (show DrawnTLH w (.returned (.tuple #[.slice (some ⟨g, 0, none⟩) ts.length cap, .int .i64 p, .int .i64 (p + q)])) w5 from ⟨_, ts, p, p + q, rfl, l1, l8, by omega, by omega, by omega, by omega, HT.out.keep HK5.out hgb, Below.trans HX2.out (HK5.out.below HX2.out.size (fun k hk => by omega))⟩)
    clear hu
    go_wp2
    refine bodyPost_ret (v := .tuple #[.slice (some ⟨g, 0, none⟩) ts.length cap, .int .i64 p, .int .i64 (p + q)]) (by simp only [results, Try.results27]; go_simp) rfl ?_
    exact HE.out
set_option maxHeartbeats 1000000 in
theorem DomainValuesI_any (d : Int) (w : World) (hd : vDom d = true) : Calls Try.prog 30 #[.int .i64 d] w (OwnRes (domL d) w) := by
  have h2 : 0 ≤ d ∧ d ≤ 63 := by simpa [vDom, inR] using hd
  have HVV := hide hd
  clear hd
  go_enter Try.func30, Try.ntmps30
  go_wp2_with (go_at_call 66; refine (ValidDomain_any _ _).mono ?_; rintro e w' ⟨rfl, rfl⟩; rw [HVV.out])
  refine (valuesOf_any d _ h2.1 (by omega)).mono ?_
  rintro e w2 ⟨A5, c5, b5, m5, f5, rfl, q1, q2, q3, q4, q5⟩
  have HE := hide (show OwnRes (domL d) w (.returned (.slice A5 (domL d).length c5)) w2 from ⟨A5, c5, b5, m5, f5, rfl, q1, q2, q3, q4, q5⟩)
  clear q1 q2 q3 q4 q5
  go_wp2
  go_ret
  exact HE.out
set_option maxRecDepth 100000 in
set_option maxHeartbeats 8000000 in
theorem lawRequiredEnergyP (v v' : Value) (n L : Nat) (w : World) (hB : SBytes w v n) (_hn : n ≤ 140737488351232) (hB' : SBytes w v' L) (_hn' : L ≤ 140737488351232) :
    Calls Try.prog 6 #[v, v'] w (Ret (.bool true) w) := by
  have HB := hide hB
  obtain ⟨A, c, rfl, -⟩ := hB
  obtain ⟨A', c', rfl, -⟩ := hB'
  by_cases hl : (1048576 : Int) < n
  · go_enter Try.func6, Try.ntmps6
    go_wp2
    go_ret
    exact Ret.mk rfl (Ext.refl _)
  by_cases hl' : (1048576 : Int) < L
  · go_enter Try.func6, Try.ntmps6
    go_wp2
    go_ret
    exact Ret.mk rfl (Ext.refl _)
  go_enter Try.func6, Try.ntmps6
  go_wp2_with fail
  refine (DrawRequiredEnergy_any _ n _ HB.out).mono ?_
  rintro e w1 ⟨v1, ts, l, h, rfl, l1, l8, b0, b1, b2, b3, hT, hx1⟩
  have hT0 := hide hT
  obtain ⟨A1, cp1, rfl, -⟩ := hT.form
  have HX1 := hide hx1
  clear hT hx1
  obtain ⟨M, hM⟩ : ∃ M, M = enR ts l h := ⟨_, rfl⟩
  have HM := hide hM
  clear hM
  go_wp2_with fail
  refine (RequiredEnergyI_any _ ts l h _ hT0.out).mono ?_
  rw [← HM.out]
  rintro e w2 ⟨rfl, hx2⟩
  have HX2 := hide hx2
  clear hx2
  go_wp2_with fail
  refine (RequiredEnergyS_any _ ts l h _ (hT0.out.ext HX2.out)).mono ?_
  rw [← HM.out]
  rintro e w3 ⟨rfl, hx3⟩
  have HX3 := hide (HX2.out.trans hx3)
  clear hx3
  by_cases hok : (vTks ts && (inR l 0 h && !decide (11 < h))) = true
  · have hMe : M = en ts l h ts.length := by rw [HM.out, enR, if_pos hok]
    have hok2 := hok
    simp only [Bool.and_eq_true, inR, decide_eq_true_eq, Bool.not_eq_true', decide_eq_false_iff_not] at hok2
    obtain ⟨hv, ⟨k0, k1⟩, k2⟩ := hok2
    obtain ⟨hl0, hl4⟩ := vTks_len hv
    obtain ⟨m0, m1⟩ := en_bd hv l h ts.length (Nat.le_refl _)
    rw [← hMe] at m0 m1
    have HME := hide hMe
    have HV := hide hv
    have hMn : ¬ (M < 0) := by omega
    obtain ⟨a, rfl⟩ : ∃ a : Nat, l = a := ⟨l.toNat, by omega⟩
    obtain ⟨d, hd⟩ : ∃ d : Nat, h = (a : Int) + d := ⟨(h - a).toNat, by omega⟩
    have HD := hide hd
    have HTR := hide (hT0.out.ext HX3.out)
    clear hMe hv hok
    go_wp2_with fail
    have HA0 := hide (AppI.empty w3)
    go_loopw [9, 10, 11] (fun st al i wr => ∃ k : Nat, k ≤ ts.length ∧ i = .int .i64 k ∧ al = .int .i64 (alE ts k) ∧ AppI w3.heap.size wr st (stL ts L k) ∧ Ext w3 wr) (fun _ _ i _ => ts.length - (intOf i).toNat)
    case atStart => exact ⟨0, Nat.zero_le _, rfl, rfl, HA0.out, (Ext.refl w3).alloc _⟩
    case round =>
      obtain ⟨k, hk, rfl, rfl, hA, hxr⟩ := hrel
      have HA := hide hA
      have HXR := hide hxr
      obtain ⟨As, cs, hv, -⟩ := hA.form
      rw [stL_len] at hv
      subst hv
      have hsz := hxr.size
      clear hA hxr
      by_cases hlt : k < ts.length
      · obtain ⟨b, off, rfl, hbl, e0, e1, e2⟩ := HTR.out.at_ hlt
        have f0 := (HXR.out.cells _ _ hbl).trans e0
        have E1 := hide e1
        have E2 := hide e2
        clear e0 e1 e2
        have hat := vTks_at HV.out hlt
        obtain ⟨t0, t1, t2, t3, t4, t5, t6⟩ := hat
        have hvd : vDom (tkS ts k) = true := by simp [vDom, inR]; omega
        have hpos := tk_pos HV.out hlt
        have hdl := domL_len (tkS ts k)
        have hkI : (k : Int) < ts.length := by omega
        obtain ⟨y0, y1⟩ := alE_bd HV.out k hk
        have hmul := mul_bd (a := tkD ts k) (b := tkM ts k) (by omega) (by omega) t5 t6
        rw [Int.mul_comm] at hmul
        obtain ⟨z0, z1⟩ := hmul
        have HAS := hide (show alE ts (k + 1) = alE ts k + tkM ts k * tkD ts k from rfl)
        clear t2
        go_wp2_with fail
        refine (DomainValuesI_any (tkS ts k) _ hvd).mono ?_
        rintro e w4 ⟨A4, c4, b4, mm4, f4, rfl, hc4, hd4, hb4, ho4, hx4⟩
        obtain ⟨rfl, hr4, hm4, hf4⟩ := ho4 hpos
        have HX4 := hide (HXR.out.trans hx4)
        have hmod := Nat.mod_lt (L + k) hpos
        have q0 : w4.cell? ⟨b4, (L + k) % (domL (tkS ts k)).length, none⟩ = some (.int .i64 (at0 (domL (tkS ts k)) ((L + k) % (domL (tkS ts k)).length))) := by rw [hr4.cell (by omega), hf4 _ hmod]
        have hsz4 := HX4.out.size
        have HA4 := hide (HA.out.ext hx4)
        have r1 : (((L : Int) + k) % ((domL (tkS ts k)).length : Int)) = (((L + k) % (domL (tkS ts k)).length : Nat) : Int) := by simp
        have r2 : (((L : Int) + k) % ((domL (tkS ts k)).length : Int)).toNat = (L + k) % (domL (tkS ts k)).length := by rw [r1]; exact Int.toNat_natCast _
        have r3 : 0 ≤ ((L : Int) + k) % ((domL (tkS ts k)).length : Int) := by rw [r1]; omega
        have r4 : ((L : Int) + k) % ((domL (tkS ts k)).length : Int) < (domL (tkS ts k)).length := by rw [r1]; omega
        have r5 : ¬ (domL (tkS ts k)).length = 0 := by omega
        have q0' := q0
        rw [← r2] at q0
        have HR1 := hide r1
        have HR2 := hide r2
        clear ho4 hx4 hr4 hm4 hf4 f0 r1 r2 hmod hc4 hd4 hb4
        obtain ⟨y2, y3⟩ := domL_bd (tkS ts k) (i := (L + k) % (domL (tkS ts k)).length) (Nat.mod_lt _ hpos)
        have HST := hide (stL_succ ts L k)
        go_wp2_with (at_builtin; go_must (refine wpList_app1 _ rfl _ _ rfl w3.heap.size (.slice As k cs) (stL ts L k) (at0 (domL (tkS ts k)) ((L + k) % (domL (tkS ts k)).length)) w4.heap.size 1 rfl rfl (HA4.out.ext ((Ext.refl _).alloc _)) (by go_simp) (by rw [stL_len]; omega) (by simp; omega) ?_); intro v' w5 hA5 hb5; have HA5 := hide hA5; have HX5 := hide ((HX4.out.alloc (.cells #[.int .i64 (at0 (domL (tkS ts k)) ((L + k) % (domL (tkS ts k)).length))] 3)).below hb5); have g1 := (HX5.out.cells _ _ hbl).trans E1.out; have g2 := (HX5.out.cells _ _ hbl).trans E2.out; have hbl5 := Nat.lt_of_lt_of_le hbl HX5.out.size; obtain ⟨As5, cs5, hv5, -⟩ := hA5.form; subst hv5; clear hA5 hb5 q0 q0')
        refine wp_region_ext (by kernel_rfl) (by kernel_rfl) ?_
        have hw1 := IntWalk.i64_in (tkM ts k * tkD ts k) (by omega)
        have hw2 := IntWalk.i64_in (alE ts k + tkM ts k * tkD ts k) (by omega)
        iterate 14 (apply quiet_val; (focus rfl); (focus (intro w' hw'; have hk' := hw'.cells; go_simp; all_goals exact rfl)); simp only [Act.put, List.setIfInBounds_toArray, List.set_cons_succ, List.set_cons_zero])
        clear hw1 hw2
        refine wpQuiet_nil ?_
        intro w6 hx6
        have HX6 := hide (HX5.out.trans hx6)
        have HA6 := hide (HA5.out.ext hx6)
        clear hx6
        go_wp2_with fail
        go_roundw
        case rel => exact ⟨k + 1, by omega, by go_num, by rw [HAS.out], by rw [HST.out]; have h := HA6.out; rw [List.length_append, List.length_singleton] at h; exact h, HX6.out⟩
        case measure => simp [intOf]; omega
      · obtain rfl : k = ts.length := by omega
        have hres := hide (HA.out.res HXR.out (by rw [stL_len]; omega))
        have HSI := hide (show SInts wr (.slice As ts.length cs) (stL ts L ts.length) by
          obtain ⟨A6, c6, b6, mm6, f6, e6, q1, q2, q3, q4, q5⟩ := hres.out
          have e7 : (Value.slice As ts.length cs) = .slice A6 (stL ts L ts.length).length c6 := by injection e6
          rw [e7]
          exact SInts.own q1 q2 q4 (fun i hi => by rw [stL_len] at hi; have := stL_bd HV.out L hi (Nat.le_refl _); unfold I64; omega))
        have HOK := hide (stL_ok HV.out L)
        have hU : usageL ts (stL ts L ts.length) = usL ts (stL ts L ts.length) := by rw [usageL, if_pos HOK.out]
        have HU := hide hU
        clear hU
        go_wp2_with fail
        refine (UsageI_any _ _ ts (stL ts L ts.length) _ (HTR.out.ext HXR.out) HSI.out).mono ?_
        rw [HU.out]
        rintro e w7 ⟨A7, c7, b7, mm7, f7, rfl, hc7, hd7, hb7, ho7, hx7⟩
        have HUS := hide (SInts.own hc7 hd7 ho7 (usL_i64 HOK.out))
        have HX7 := hide (HXR.out.trans hx7)
        have HUL := hide (usL_len ts (stL ts L ts.length))
        have hul : (usL ts (stL ts L ts.length)).length ≤ 11 := by rw [usL_len]; omega
        have hul2 : a + d ≤ (usL ts (stL ts L ts.length)).length := by rw [usL_len]; omega
        clear hc7 hd7 hb7 ho7 hx7
        go_wp2_with fail
        go_loop [14, 15] (fun s t => ∃ j : Nat, j ≤ d ∧ t = .int .i64 (a + j : Nat) ∧ s = .int .i64 (sm (us ts (stL ts L ts.length) ts.length) a j)) (fun _ t => a + d - (intOf t).toNat)
        case atStart => exact ⟨0, Nat.zero_le _, by simp, rfl⟩
        case round =>
          obtain ⟨j, hj, rfl, rfl⟩ := hrel
          by_cases hjl : j < d
          · obtain ⟨b8, off8, rfl, hbl8, u0⟩ := HUS.out.at_ (k := a + j) (by omega)
            have hue : at0 (usL ts (stL ts L ts.length)) (a + j) = us ts (stL ts L ts.length) ts.length (a + j) := usL_at _ _ (by omega)
            rw [hue] at u0
            obtain ⟨s0, s1⟩ := sm_us_bd HOK.out a j
            obtain ⟨u1, u2⟩ := us_bd HOK.out (a + j) ts.length (Nat.le_refl _)
            have HSS := hide (show sm (us ts (stL ts L ts.length) ts.length) a (j + 1) = sm (us ts (stL ts L ts.length) ts.length) a j + us ts (stL ts L ts.length) ts.length (a + j) from rfl)
            have i1 : (a : Int) + j < (a : Int) + d := by omega
            clear hue
            go_wp2
            go_round
            case rel => exact ⟨j + 1, by omega, by rw [show ((a + (j + 1) : Nat) : Int) = (a : Int) + j + 1 by omega], by rw [HSS.out]⟩
            case measure => simp [intOf]; omega
          · obtain rfl : j = d := by omega
            have i1 : ¬ ((a : Int) + j < (a : Int) + j) := by omega
            have HF := hide (show enR ts 0 11 = alE ts ts.length by rw [enR, if_pos (by simp [HV.out, inR]), en_full HV.out _ (Nat.le_refl _)])
            have hge : M ≤ sm (us ts (stL ts L ts.length) ts.length) a j := by
              rw [HME.out, sm_us, HD.out]
              have := en_stL HV.out L a ((a : Int) + j) ts.length (Nat.le_refl _)
              rw [show ((a + j : Nat) : Int) = (a : Int) + j by omega]
              exact this
            go_wp2_with fail
            refine (RequiredEnergyI_any _ ts 0 11 _ (HTR.out.ext HX7.out)).mono ?_
            rw [HF.out]
            rintro e w8 ⟨rfl, hx8⟩
            have HX8 := hide (HX1.out.trans (HX3.out.trans (HX7.out.trans hx8)))
            clear hx8
            go_wp2
            go_ret
            exact Ret.mk (ret_b (by simp)) HX8.out
  · have hMe : M = -1 := by rw [HM.out, enR, if_neg hok]
    subst hMe
    clear hok
    go_wp2_with fail
    refine (RequiredEnergyS_any _ ts l h _ (hT0.out.ext HX3.out)).mono ?_
    rw [← HM.out]
    rintro e w4 ⟨rfl, hx4⟩
    have HX4 := hide (HX1.out.trans (HX3.out.trans hx4))
    clear hx4
    go_wp2
    go_ret
    exact Ret.mk rfl HX4.out
end Go.Proofs.Ytofnihagfjdocaa
