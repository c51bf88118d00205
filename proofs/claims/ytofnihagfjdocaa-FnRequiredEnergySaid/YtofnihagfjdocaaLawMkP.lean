/- The walk of the law FnMakespan: it returns true, and memory only grows. -/
import Derived.Test.YtofnihagfjdocaaPlnS
import Derived.Test.YtofnihagfjdocaaDrw7
namespace Go.Proofs.Ytofnihagfjdocaa
open Go.RowKit

/-- Tasks and starts came; memory only grew. -/
def DrawnTS (w : World) (e : Ending) (w' : World) : Prop :=
  ∃ (v : Value) (ts : List Tk) (v2 : Value) (xs : List Int), e = .returned (.tuple #[v, v2]) ∧ 1 ≤ ts.length ∧ ts.length ≤ 8 ∧ xs.length ≤ 8 ∧ STasks w' v ts ∧ SInts w' v2 xs ∧ Ext w w'
set_option maxHeartbeats 1000000 in
theorem DrawUsage_any (v : Value) (n : Nat) (w : World) (hB : SBytes w v n) : Calls Try.prog 56 #[v] w (DrawnTS w) := by
  have HB := hide hB
  obtain ⟨A, c, rfl, -⟩ := hB
  go_enter Try.func56, Try.ntmps56
  go_wp2_with fail
  refine (newReader_any w w _ n HB.out (Ext.refl w)).mono ?_
  rintro e w1 ⟨br, rfl, hR, hx1, hbr⟩
  have HX := hide hx1
  have hbl := hR.lt
  clear hx1
  go_wp2_with fail
  refine (anyTasks_any w br 0 _ (by omega) hR).mono ?_
  rintro e w2 ⟨v2, m, c2, rfl, l1, l8, c0, c1, hL, hR2, hK2⟩
  obtain ⟨g, cap, rfl, hg, hgl, hcap⟩ := hL.form
  obtain ⟨ts, rfl, hT⟩ := hL.tasks (by omega) (by omega) (by omega)
  have HT := hide hT
  have HR2 := hide hR2
  have HX2 := hide (show Ext w w2 from Below.trans HX.out (hK2.below HX.out.size (fun k hk => by omega)))
  have hgb : g ≠ br := by omega
  clear hL hR2 hK2 hT hR
  go_wp2_with fail
  refine (anyStarts_any w br (0 + 40) _ g 0 cap ts (by omega) HR2.out HT.out hgb l1 l8).mono ?_
  rintro e w3 ⟨v3, xs, rfl, lx, hS, -, hK3⟩
  obtain ⟨A3, c3, rfl, -⟩ := hS.form
  have HE := hide (show DrawnTS w (.returned (.tuple #[.slice (some ⟨g, 0, none⟩) ts.length cap, .slice A3 xs.length c3])) w3 from ⟨_, ts, _, xs, rfl, l1, l8, lx, HT.out.keep hK3 hgb, hS, Below.trans HX2.out (hK3.below HX2.out.size (fun k hk => by omega))⟩)
  clear hS hK3
  go_wp2
  go_ret2
  exact HE.out
set_option maxHeartbeats 1000000 in
theorem DrawMakespan_any (v : Value) (n : Nat) (w : World) (hB : SBytes w v n) : Calls Try.prog 23 #[v] w (DrawnTS w) := by
  have HB := hide hB
  obtain ⟨A, c, rfl, -⟩ := hB
  go_enter Try.func23, Try.ntmps23
  go_wp2_with fail
  refine (DrawUsage_any _ n _ HB.out).mono ?_
  rintro e w1 ⟨v1, ts, v2, xs, rfl, q⟩
  have HE := hide (show DrawnTS w (.returned (.tuple #[v1, v2])) w1 from ⟨v1, ts, v2, xs, rfl, q⟩)
  clear q
  go_wp2
  go_ret2
  exact HE.out
/-- One of the first k tasks ends at M. -/
def isK (ts : List Tk) (xs : List Int) (M : Int) : Nat → Bool
  | 0 => false
  | k + 1 => isK ts xs M k || (at0 xs k + tkD ts k == M)
theorem isK_of (ts : List Tk) (xs : List Int) (M : Int) : ∀ k i, i < k → at0 xs i + tkD ts i = M → isK ts xs M k = true
  | 0, i, h, _ => by omega
  | k + 1, i, h, e => by
    rw [isK]
    by_cases hik : i = k
    · subst hik; simp [e]
    · rw [isK_of ts xs M k i (by omega) e]; rfl
theorem mk_att {ts : List Tk} {xs : List Int} (h : ∀ i, i < ts.length → 1 ≤ at0 xs i + tkD ts i) : ∀ k, 0 < k → k ≤ ts.length → ∃ i, i < k ∧ at0 xs i + tkD ts i = mk ts xs k
  | 0, h0, _ => by omega
  | k + 1, _, hk => by
    rw [mk]
    split
    · exact ⟨k, by omega, rfl⟩
    · rename_i hn
      by_cases h0 : 0 < k
      · obtain ⟨i, hi, e⟩ := mk_att h k h0 (by omega)
        exact ⟨i, by omega, e⟩
      · obtain rfl : k = 0 := by omega
        have := h 0 (by omega)
        simp only [mk] at hn
        omega
set_option maxRecDepth 100000 in
set_option maxHeartbeats 4000000 in
theorem lawMakespanP (v : Value) (n : Nat) (w : World) (hB : SBytes w v n) (_hn : n ≤ 140737488351232) :
    Calls Try.prog 5 #[v] w (Ret (.bool true) w) := by
  have HB := hide hB
  obtain ⟨A, c, rfl, -⟩ := hB
  by_cases hl : (1048576 : Int) < n
  · go_enter Try.func5, Try.ntmps5
    go_wp2
    go_ret
    exact Ret.mk rfl (Ext.refl _)
  · go_enter Try.func5, Try.ntmps5
    go_wp2_with fail
    refine (DrawMakespan_any _ n _ HB.out).mono ?_
    rintro e w1 ⟨v1, ts, v2, xs, rfl, l1, l8, lx, hT, hS, hx1⟩
    have hT0 := hide hT
    have hS0 := hide hS
    obtain ⟨A1, cp1, rfl, -⟩ := hT.form
    obtain ⟨A2, cp2, rfl, -⟩ := hS.form
    have HX1 := hide hx1
    clear hT hS hx1
    obtain ⟨M, hM⟩ : ∃ M, M = mkspan ts xs := ⟨_, rfl⟩
    have HM := hide hM
    clear hM
    go_wp2_with fail
    refine (MakespanI_any _ _ ts xs _ hT0.out hS0.out).mono ?_
    rw [← HM.out]
    rintro e w2 ⟨rfl, hx2⟩
    have HX2 := hide hx2
    clear hx2
    go_wp2_with fail
    refine (MakespanS_any _ _ ts xs _ (hT0.out.ext HX2.out) (hS0.out.ext HX2.out)).mono ?_
    rw [← HM.out]
    rintro e w3 ⟨rfl, hx3⟩
    have HX3 := hide (HX2.out.trans hx3)
    clear hx3
    by_cases hok : okTS ts xs = true
    · obtain ⟨m0, m1⟩ := mk_bd hok ts.length (Nat.le_refl _)
      have hMe : M = mk ts xs ts.length := by rw [HM.out, mkspan, if_pos hok]
      rw [← hMe] at m0 m1
      obtain ⟨hv, hlx, hr⟩ := okTS_iff.1 hok
      have HME := hide hMe
      have HV := hide hv
      have HLX := hide hlx
      have HR := hide hr
      have HOK := hide hok
      have hMn : ¬ (M < 0) := by omega
      have HTR := hide (hT0.out.ext HX3.out)
      have HSR := hide (hS0.out.ext HX3.out)
      clear hMe hv hlx hr hok
      go_wp2_with fail
      go_loopw [6, 7] (fun is i wr => ∃ k : Nat, k ≤ ts.length ∧ i = .int .i64 k ∧ is = .bool (isK ts xs M k) ∧ Ext w3 wr) (fun _ i _ => ts.length - (intOf i).toNat)
      case atStart => exact ⟨0, Nat.zero_le _, rfl, rfl, Ext.refl w3⟩
      case round =>
        obtain ⟨k, hk, rfl, rfl, hxr⟩ := hrel
        have HXR := hide hxr
        clear hxr
        by_cases hlt : k < ts.length
        · obtain ⟨b, off, rfl, hbl, f0, f1, f2⟩ := (HTR.out.ext HXR.out).at_ hlt
          have hltx : k < xs.length := by rw [HLX.out]; exact hlt
          obtain ⟨b', off', rfl, hbl', g1⟩ := (HSR.out.ext HXR.out).at_ hltx
          have hkI : (k : Int) < ts.length := by omega
          have hkI2 : (k : Int) < xs.length := by omega
          obtain ⟨x0, x5⟩ := allR_at HR.out hltx
          have hd := (vTks_at HV.out hlt).2.2.2
          have d1 := hd.1
          have d6 := hd.2.1
          have hge := mk_ge ts xs ts.length k hlt
          rw [← HME.out] at hge
          have HGE := hide hge
          have hng : ¬ (M < at0 xs k + tkD ts k) := by omega
          have hwr := IntWalk.i64_in (at0 xs k + tkD ts k) (by omega)
          clear hd hge
          go_wp2_with fail
          refine wp_region_ext (by kernel_rfl) (by kernel_rfl) ?_
          iterate 11 (apply quiet_val; (focus rfl); (focus (intro w' hw'; have hk' := hw'.cells; go_simp; all_goals exact rfl)); simp only [Act.put, List.setIfInBounds_toArray, List.set_cons_succ, List.set_cons_zero])
          refine wpQuiet_nil ?_
          intro w5 hx5
          have HX5 := hide (HXR.out.trans hx5)
          clear hx5 hwr
          cases hi : isK ts xs M k with
          | true =>
            have HI := hide (show isK ts xs M (k + 1) = true by rw [isK, hi]; rfl)
            clear hi
            go_wp2
            go_roundw
            case rel => exact ⟨k + 1, by omega, by go_num, by rw [HI.out], HX5.out⟩
            case measure => simp [intOf]; omega
          | false =>
            have HI := hide (show isK ts xs M (k + 1) = (at0 xs k + tkD ts k == M) by rw [isK, hi]; rfl)
            clear hi
            go_wp2
            go_roundw
            case rel => exact ⟨k + 1, by omega, by go_num, by rw [HI.out], HX5.out⟩
            case measure => simp [intOf]; omega
        · obtain rfl : k = ts.length := by omega
          have hall : isK ts xs M ts.length = true := by
            obtain ⟨i, hi, e⟩ := mk_att (ts := ts) (xs := xs) (fun i hi => by
              have h1 := (allR_at HR.out (k := i) (by rw [HLX.out]; exact hi)).1
              have h2 := (vTks_at HV.out hi).2.2.2.1
              omega) ts.length (by omega) (Nat.le_refl _)
            exact isK_of ts xs M _ i hi (by rw [e, HME.out])
          have HALL := hide hall
          rw [hall]
          clear hall
          go_wp2_with fail
          refine (UsageI_any _ _ ts xs _ (HTR.out.ext HXR.out) (HSR.out.ext HXR.out)).mono ?_
          rintro e w6 ⟨A6, c6, b6, mm6, f6, rfl, hc6, hd6, hb6, ho6, hx6⟩
          have hU : usageL ts xs = usL ts xs := by rw [usageL, if_pos HOK.out]
          rw [hU] at hc6 hd6 ho6 ⊢
          have HU := hide (SInts.own hc6 hd6 ho6 (usL_i64 HOK.out))
          have HX6 := hide (HX1.out.trans (HX3.out.trans (HXR.out.trans hx6)))
          have hul : (usL ts xs).length ≤ 11 := by rw [usL_len]; omega
          have HUL := hide (usL_len ts xs)
          obtain ⟨m, hm⟩ : ∃ m : Nat, M = m := ⟨M.toNat, by omega⟩
          clear hU hc6 hd6 ho6 hx6
          subst hm
          have hm11 : m ≤ (usL ts xs).length := by have := HUL.out; omega
          go_wp2_with fail
          go_loop [10] (fun i => ∃ t : Nat, m ≤ t ∧ t ≤ (usL ts xs).length ∧ i = .int .i64 t) (fun i => (usL ts xs).length - (intOf i).toNat)
          case atStart => exact ⟨m, Nat.le_refl _, hm11, rfl⟩
          case round =>
            obtain ⟨t, ht1, ht2, rfl⟩ := hrel
            by_cases hlt2 : t < (usL ts xs).length
            · obtain ⟨b7, off7, rfl, hbl7, u0⟩ := HU.out.at_ hlt2
              have hz : at0 (usL ts xs) t = 0 := by
                rw [usL_at _ _ (by have := HUL.out; omega)]
                refine us_late ts xs t ts.length (fun i hi => ?_) _ (Nat.le_refl _)
                have := mk_ge ts xs ts.length i hi
                rw [← HME.out] at this
                omega
              rw [hz] at u0
              have htI : (t : Int) < (usL ts xs).length := by omega
              clear hz
              go_wp2
              go_round
              case rel => exact ⟨t + 1, by omega, by omega, by go_num⟩
              case measure => simp [intOf]; omega
            · have htI : ¬ ((t : Int) < (usL ts xs).length) := by omega
              go_wp2
              go_ret
              exact Ret.mk rfl HX6.out
    · have hMe : M = -1 := by rw [HM.out, mkspan, if_neg hok]
      subst hMe
      clear hok
      go_wp2_with fail
      refine (MakespanS_any _ _ ts xs _ (hT0.out.ext HX3.out) (hS0.out.ext HX3.out)).mono ?_
      rw [← HM.out]
      rintro e w4 ⟨rfl, hx4⟩
      have HX4 := hide (HX1.out.trans (HX3.out.trans hx4))
      clear hx4
      go_wp2
      go_ret
      exact Ret.mk rfl HX4.out
end Go.Proofs.Ytofnihagfjdocaa
