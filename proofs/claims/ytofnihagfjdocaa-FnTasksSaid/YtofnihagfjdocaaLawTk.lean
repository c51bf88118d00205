/- The walk of the law FnTasks: it returns true, and memory only grows. -/
import Derived.Test.YtofnihagfjdocaaCum2
import Derived.Test.YtofnihagfjdocaaLawOv2
import Derived.Test.YtofnihagfjdocaaValidI
namespace Go.Proofs.Ytofnihagfjdocaa
open Go.RowKit

theorem tk0_take (ts : List Tk) {k i : Nat} (hk : k ≤ ts.length) (hi : i < k) : tk0 (ts.take k) i = tk0 ts i := by
  unfold tk0
  rw [getD_lt _ _ (by rw [List.length_take]; omega), getD_lt _ _ (by omega), List.getElem_take]
theorem STasks.take {w : World} {A : Option Addr} {n c : Nat} {ts : List Tk} (h : STasks w (.slice A n c) ts) (k : Nat) (hk : k ≤ ts.length) : STasks w (.slice A k c) (ts.take k) := by
  obtain ⟨A', c', e1, h2, h3, h4, h5⟩ := h
  injection e1 with e1 e2 e3
  subst e1; subst e3
  have hl : (ts.take k).length = k := by rw [List.length_take]; omega
  refine ⟨A, c, by rw [hl], by rw [hl]; omega, by rw [hl]; omega, fun i hi => ?_, fun hp => ?_⟩
  · rw [hl] at hi
    unfold tkS tkD tkM
    rw [tk0_take ts hk hi]
    exact h4 i (by omega)
  · rw [hl] at hp ⊢
    obtain ⟨b, off, e, hb, hc⟩ := h5 (by omega)
    refine ⟨b, off, e, hb, fun i hi => ?_⟩
    unfold tkS tkD tkM
    rw [tk0_take ts hk hi]
    exact hc i (by omega)
theorem vTks_vTk {ts : List Tk} (h : vTks ts = true) {k : Nat} (hk : k < ts.length) : vTk (tk0 ts k) = true := by
  cases hq : vTk (tk0 ts k) with
  | true => rfl
  | false => rw [vTks_false hk hq] at h; cases h
theorem vTks_len4 {ts : List Tk} (h : vTks ts = true) : 1 ≤ ts.length ∧ ts.length ≤ 4 := by
  unfold vTks at h
  rw [Bool.and_eq_true] at h
  have := h.2
  simp [inR] at this
  omega
theorem vTks_take {ts : List Tk} (h : vTks ts = true) {k : Nat} (h1 : 1 ≤ k) (hk : k ≤ ts.length) : vTks (ts.take k) = true := by
  have hl : (ts.take k).length = k := by rw [List.length_take]; omega
  have := vTks_len4 h
  rw [vTks_all (fun j hj => by rw [hl] at hj; rw [tk0_take ts hk hj]; exact vTks_vTk h (by omega)), hl]
  simp [inR]
  omega
theorem vMod_cum {ts : List Tk} {c : Int} (h : vTks ts = true) (hc : inR c 0 9 = true) : vMod (upS ts ts.length) [cumC ts c] = true := by
  have hn := vTks_len4 h
  have hb : ∀ i, i < ts.length → (0 ≤ tkS ts i ∧ tkS ts i ≤ 63) ∧ (1 ≤ tkD ts i ∧ tkD ts i ≤ 6) ∧ (0 ≤ tkM ts i ∧ tkM ts i ≤ 9) := fun i hi => by
    have := vTks_at h hi
    omega
  have e1 : inR (upS ts ts.length).length 1 4 = true := by rw [upS_len]; simp [inR]; omega
  have e2 : allR (upS ts ts.length) 0 63 = true := allR_of (fun j hj => by
    rw [upS_len] at hj
    rw [upS_at ts hj]
    have := (hb j hj).1
    simp [inR]; omega)
  have e3 : allR (upA ts ts.length) 0 9 = true := allR_of (fun j hj => by
    rw [upA_len] at hj
    obtain ⟨i, hi, e | e⟩ := upA_at ts hj
    · rw [e]; have := (hb i hi).2.1; simp [inR]; omega
    · rw [e]; have := (hb i hi).2.2; simp [inR]; omega)
  have e4 : vCon (cumC ts c) ts.length = true := by
    have f1 : inR (ts.length : Int) 1 4 = true := by simp [inR]; omega
    have f2 : inR ((upI ts.length).length : Int) 1 ts.length = true := by rw [upI_len]; simp [inR]; omega
    have f3 : allR (upI ts.length) 0 ((ts.length : Int) - 1) = true := allR_of (fun j hj => by
      rw [upI_len] at hj
      rw [upI_at hj]
      simp [inR]; omega)
    have f4 : dst (upI ts.length) = true := by
      have : ts.length = 1 ∨ ts.length = 2 ∨ ts.length = 3 ∨ ts.length = 4 := by omega
      rcases this with e | e | e | e <;> rw [e] <;> rfl
    have f5 : argsB (upA ts ts.length) (2 * ((upI ts.length).length : Int)) 0 9 = true := by
      rw [argsB, e3, upA_len, upI_len]
      simp
      omega
    have f6 : fitB 7 (upI ts.length) (upA ts ts.length) c [] = true := by
      show (argsB (upA ts ts.length) (2 * ((upI ts.length).length : Int)) 0 9 && (inR c 0 9 && ((([] : List (List Int)).length : Int) == 0))) = true
      rw [f5, hc]; rfl
    show (inR (ts.length : Int) 1 4 && (inR ((upI ts.length).length : Int) 1 ts.length && (allR (upI ts.length) 0 ((ts.length : Int) - 1) && (dst (upI ts.length) && fitB 7 (upI ts.length) (upA ts ts.length) c [])))) = true
    rw [f1, f2, f3, f4, f6]; rfl
  unfold vMod
  rw [e1, e2, upS_len]
  have e5 : anyB (fun i => !vCon (con0 [cumC ts c] i) ts.length) [cumC ts c].length = false := anyB_false.2 (fun i hi => by
    obtain rfl : i = 0 := by simp at hi; omega
    show (!vCon (cumC ts c) ts.length) = false
    rw [e4]; rfl)
  rw [e5]
  rfl
set_option maxHeartbeats 1000000 in
theorem DrawValidTasks_any (v : Value) (n : Nat) (w : World) (hB : SBytes w v n) : Calls Try.prog 18 #[v] w (DrawnTC w) := by
  have HB := hide hB
  obtain ⟨A, c, rfl, -⟩ := hB
  go_enter Try.func18, Try.ntmps18
  go_wp2_with fail
  refine (newReader_any w w _ n HB.out (Ext.refl w)).mono ?_
  rintro e w1 ⟨br, rfl, hR, hx1, hbr⟩
  have HX := hide hx1
  clear hx1
  go_wp2_with fail
  refine (anyTasks_any w br 0 _ (by omega) hR).mono ?_
  intro e w2 h
  have hd := TasksGot.to h HX.out hbr
  obtain ⟨v2, ts, c2, rfl, q⟩ := hd
  have HE := hide (show DrawnTC w (.returned (.tuple #[v2, .int .i64 c2])) w2 from ⟨v2, ts, c2, rfl, q⟩)
  clear h q
  go_wp2
  go_ret2
  exact HE.out
set_option maxRecDepth 100000 in
set_option maxHeartbeats 4000000 in
theorem lawTasksP (v : Value) (n : Nat) (w : World) (hB : SBytes w v n) (_hn : n ≤ 140737488351232) :
    Calls Try.prog 4 #[v] w (Ret (.bool true) w) := by
  have HB := hide hB
  obtain ⟨A, c, rfl, -⟩ := hB
  by_cases hl : (1048576 : Int) < n
  · go_enter Try.func4, Try.ntmps4
    go_wp2
    go_ret
    exact Ret.mk rfl (Ext.refl _)
  · go_enter Try.func4, Try.ntmps4
    go_wp2_with fail
    refine (DrawValidTasks_any _ n _ HB.out).mono ?_
    rintro e w1 ⟨v1, ts, cc, rfl, l1, l8, c0, c1, hT, hx1⟩
    have hT0 := hide hT
    have HX1 := hide hx1
    obtain ⟨A1, cp1, rfl, hlc1, -⟩ := hT.form
    clear hT hx1
    go_wp2_with fail
    refine (ValidTasksI_any _ ts cc _ hT0.out).mono ?_
    rintro e w2 ⟨rfl, hx2⟩
    have HX2 := hide hx2
    clear hx2
    go_wp2_with fail
    refine (ValidTasksS_any _ ts cc _ (hT0.out.ext HX2.out)).mono ?_
    rintro e w3 ⟨rfl, hx3⟩
    have HX3 := hide (HX1.out.trans (HX2.out.trans hx3))
    have hT3 := hide (hT0.out.ext (HX2.out.trans hx3))
    clear hx3
    cases hq : (vTks ts && inR cc 0 9) with
    | false =>
      go_wp2_with fail
      refine (ValidTasksS_any _ ts cc _ hT3.out).mono ?_
      rintro e w4 ⟨rfl, hx4⟩
      rw [hq]
      have HX4 := hide (HX3.out.trans hx4)
      clear hx4
      go_wp2
      go_ret
      exact Ret.mk rfl HX4.out
    | true =>
      have hv : vTks ts = true ∧ inR cc 0 9 = true := by simpa using hq
      have HV := hide hv
      have hlen := vTks_len4 hv.1
      clear hq hv
      go_wp2
      go_loopw [6] (fun i W => ∃ k : Nat, 1 ≤ k ∧ k ≤ ts.length + 1 ∧ i = .int .i64 k ∧ Ext w W ∧ STasks W (.slice A1 ts.length cp1) ts) (fun i _ => ts.length + 1 - (intOf i).toNat)
      case atStart => exact ⟨1, by omega, by omega, rfl, HX3.out, hT3.out⟩
      case round =>
        obtain ⟨k, hk1, hk, rfl, hx, hTW⟩ := hrel
        have HX := hide hx
        have HTW := hide hTW
        clear hx hTW
        by_cases hlt : k ≤ ts.length
        · have hkI : (k : Int) ≤ ts.length := by omega
          have hkc : (k : Int) ≤ cp1 := by omega
          have HT := hide (HTW.out.take k hlt)
          have HVT := hide (vTks_take HV.out.1 hk1 hlt)
          go_wp2_with fail
          refine (ValidTasksI_any _ (ts.take k) cc _ HT.out).mono ?_
          rintro e w4 ⟨rfl, hx4⟩
          rw [HVT.out, HV.out.2]
          have HX4 := hide hx4
          clear hx4
          go_wp2
          go_roundw
          case rel => exact ⟨k + 1, by omega, by omega, by go_num, HX.out.trans HX4.out, HTW.out.ext HX4.out⟩
          case measure => simp [intOf]; omega
        · have hkI : ¬ (k : Int) ≤ ts.length := by omega
          go_wp2_with fail
          refine (cumulative_any _ ts cc _ HTW.out (by omega)).mono ?_
          rintro e w5 ⟨vd, vc, rfl, hD, hC, hx5⟩
          have HD := hide hD
          have HC := hide hC
          have HX5 := hide (HX.out.trans hx5)
          have HVM := hide (vMod_cum (c := cc) HV.out.1 HV.out.2)
          clear hD hC hx5
          go_wp2_with fail
          refine (ValidModelI_any _ _ _ _ _ HD.out HC.out (fun i hi => ?_)).mono ?_
          · obtain rfl : i = 0 := by simp at hi; omega
            intro vv va vr W hV hA hR hl
            exact fits_7 vv va vr _ _ _ _ W hV hA hR hl
          rintro e w6 ⟨rfl, hx6⟩
          rw [HVM.out]
          have HX6 := hide (HX5.out.trans hx6)
          clear hx6
          go_wp2_with fail
          refine (ValidTasksI_any _ [] cc _ ?_).mono ?_
          · exact ⟨_, _, rfl, by simp, by simp, fun i hi => absurd hi (by simp), fun hp => absurd hp (by simp)⟩
          rintro e w7 ⟨rfl, hx7⟩
          have HX7 := hide ((HX6.out.alloc _).trans hx7)
          clear hx7
          rw [show (vTks [] && inR cc 0 9) = false from rfl]
          go_wp2
          go_ret
          exact Ret.mk rfl HX7.out
end Go.Proofs.Ytofnihagfjdocaa
