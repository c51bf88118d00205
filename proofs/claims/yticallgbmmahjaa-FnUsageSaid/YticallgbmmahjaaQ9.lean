/- Usage accounts for all demands: plain Lean. -/
import Derived.Test.YticallgbmmahjaaLawTk
import Derived.Test.YticallgbmmahjaaPlnE
import Derived.Test.YticallgbmmahjaaSatZ
import Derived.Test.YticallgbmmahjaaIsSl
import Derived.Test.YticallgbmmahjaaCpA
namespace Go.Proofs.Yticallgbmmahjaa
open Go.RowKit

/-- No number is greater than the limit. -/
def atmB (us : List Int) (l : Int) : Bool := !anyB (fun i => decide (l < at0 us i)) us.length
theorem enx_full {ts : List Tk} {xs : List Int} (h : okTS ts xs = true) : ∀ k, k ≤ ts.length → enx ts xs 0 11 k = alE ts k
  | 0, _ => rfl
  | k + 1, hk => by
    obtain ⟨hv, hl, hr⟩ := okTS_iff.1 h
    have h1 := vTks_at hv (show k < ts.length by omega)
    have h2 := allR_at hr (k := k) (by omega)
    rw [enx, alE, enx_full h k (by omega), Int.mul_comm (tkM ts k)]
    have : ov (at0 xs k) (at0 xs k + tkD ts k) 0 11 = tkD ts k := by unfold ov; omega
    rw [this]
theorem upA_lo (ts : List Tk) {k : Nat} (hk : k < ts.length) : at0 (upA ts ts.length) k = tkD ts k := by
  unfold at0
  rw [getD_lt _ _ (by rw [upA_len]; omega)]
  unfold upA
  rw [List.getElem_append_left (by rw [upD_len]; exact hk)]
  simp [upD]
theorem upA_hi (ts : List Tk) {k : Nat} (hk : k < ts.length) : at0 (upA ts ts.length) (ts.length + k) = tkM ts k := by
  unfold at0
  rw [getD_lt _ _ (by rw [upA_len]; omega)]
  unfold upA
  rw [List.getElem_append_right (by rw [upD_len]; omega)]
  simp [upM, upD_len]
theorem loadT_us (ts : List Tk) (xs : List Int) (t : Nat) : ∀ k, k ≤ ts.length → loadT (upA ts ts.length) xs ts.length t k = us ts xs k t
  | 0, _ => rfl
  | k + 1, hk => by
    rw [loadT, us, loadT_us ts xs t k (by omega), upA_hi ts (by omega)]
    unfold runsB
    rw [upA_lo ts (by omega)]
    by_cases h : at0 xs k ≤ (t : Int) ∧ (t : Int) < at0 xs k + tkD ts k
    · rw [if_pos h, if_pos (by simp [h.1, h.2])]
    · rw [if_neg h, if_neg (by simp; omega), Int.add_zero]
theorem wordL_upI (xs : List Int) : wordL (upI xs.length) xs = xs := by
  apply List.ext_getElem (by simp [wordL, upI])
  intro i h1 h2
  simp [wordL, upI, at0]
  rw [List.getElem?_eq_getElem h2]; rfl
theorem cum_sat {ts : List Tk} {xs : List Int} (h : okTS ts xs = true) {c : Int} (hc : 0 ≤ c) : satB (cumC ts c) (wordL (cumC ts c).vars xs) = atmB (usL ts xs) c := by
  obtain ⟨hv, hl, hr⟩ := okTS_iff.1 h
  have e0 : wordL (cumC ts c).vars xs = xs := by show wordL (upI ts.length) xs = xs; rw [← hl]; exact wordL_upI xs
  rw [e0]
  show roomB (upA ts ts.length) c xs = _
  unfold roomB atmB
  rw [hl, usL_len]
  congr 1
  rw [Bool.eq_iff_iff, anyB_iff, anyB_iff]
  constructor
  · rintro ⟨t, ht, hh⟩
    rw [loadT_us ts xs t _ (Nat.le_refl _)] at hh
    by_cases h11 : t < 11
    · exact ⟨t, h11, by rw [usL_at ts xs h11]; exact hh⟩
    · have : us ts xs ts.length t = 0 := us_late ts xs t ts.length (fun i hi => by
        have h1 := vTks_at hv hi
        have h2 := allR_at hr (k := i) (by omega)
        omega) _ (Nat.le_refl _)
      rw [this] at hh
      simp at hh
      omega
  · rintro ⟨t, ht, hh⟩
    rw [usL_at ts xs ht] at hh
    exact ⟨t, by omega, by rw [loadT_us ts xs t _ (Nat.le_refl _)]; exact hh⟩
/-- The sum of the first k numbers. -/
def smL (xs : List Int) : Nat → Int
  | 0 => 0
  | k + 1 => smL xs k + at0 xs k
theorem smL_us {ts : List Tk} {xs : List Int} : ∀ k, k ≤ 11 → smL (usL ts xs) k = sm (us ts xs ts.length) 0 k
  | 0, _ => rfl
  | k + 1, hk => by rw [smL, sm, smL_us k (by omega), usL_at ts xs (by omega), Nat.zero_add]
theorem smL_all {ts : List Tk} {xs : List Int} (h : okTS ts xs = true) : smL (usL ts xs) 11 = alE ts ts.length := by
  rw [smL_us 11 (Nat.le_refl _), sm_us]
  exact enx_full h _ (Nat.le_refl _)
theorem smL_bd {ts : List Tk} {xs : List Int} (h : okTS ts xs = true) : ∀ k, k ≤ 11 → 0 ≤ smL (usL ts xs) k ∧ smL (usL ts xs) k ≤ 36 * k := by
  intro k hk
  rw [smL_us k hk]
  exact sm_us_bd h 0 k
/-- Which of the first k constraints are violated. -/
def vioL (cs : List Con) (x : List Int) : Nat → List Int
  | 0 => []
  | k + 1 => if satB (con0 cs k) (wordL (con0 cs k).vars x) then vioL cs x k else vioL cs x k ++ [(k : Int)]
theorem vioL_len (cs : List Con) (x : List Int) : ∀ k, (vioL cs x k).length ≤ k
  | 0 => Nat.le_refl _
  | k + 1 => by
    have := vioL_len cs x k
    rw [vioL]
    split
    · omega
    · simp; omega
def vioV (ds : List Int) (cs : List Con) (x : List Int) : List Int := if vMod ds cs && (decide ((x.length : Int) = ds.length) && allR x 0 5) then vioL cs x cs.length else []
theorem vio_cum {ts : List Tk} {xs : List Int} (h : okTS ts xs = true) {c : Int} (hc : 0 ≤ c) (hc9 : c ≤ 9) : decide ((vioV (upS ts ts.length) [cumC ts c] xs).length = 0) = atmB (usL ts xs) c := by
  obtain ⟨hv, hl, hr⟩ := okTS_iff.1 h
  have e1 : vMod (upS ts ts.length) [cumC ts c] = true := vMod_cum hv (by simp [inR]; omega)
  have e2 : (decide ((xs.length : Int) = (upS ts ts.length).length) && allR xs 0 5) = true := by rw [upS_len, hr]; simp [hl]
  rw [vioV, e1, e2, ← cum_sat h hc]
  show decide ((vioL [cumC ts c] xs 1).length = 0) = _
  rw [vioL]
  show decide ((if satB (cumC ts c) (wordL (cumC ts c).vars xs) = true then vioL [cumC ts c] xs 0 else vioL [cumC ts c] xs 0 ++ [((0 : Nat) : Int)]).length = 0) = _
  cases satB (cumC ts c) (wordL (cumC ts c).vars xs) <;> rfl
end Go.Proofs.Yticallgbmmahjaa
/- The program's list of violated constraints; no number above a limit. -/
namespace Go.Proofs.Yticallgbmmahjaa
open Go.RowKit

def VioRes (n : Nat) (w : World) (e : Ending) (w' : World) : Prop := ∃ A c, e = .returned (.slice A n c) ∧ Ext w w'
set_option maxRecDepth 100000 in
set_option maxHeartbeats 8000000 in
theorem ViolatedI_any (vd vc vx : Value) (ds : List Int) (cs : List Con) (x : List Int) (w : World) (hD : SInts w vd ds) (hC : SCons w vc cs) (hX : SInts w vx x) :
    Calls Try.prog 10 #[.agg #[vd, vc], vx] w (VioRes (vioV ds cs x).length w) := by
  have hD0 := hide hD
  have hC0 := hide hC
  have hX0 := hide hX
  obtain ⟨Ad, cd, rfl, -, hld⟩ := hD.form
  obtain ⟨Ac, cc, rfl, -, hlc⟩ := hC.form
  obtain ⟨Ax, cx, rfl, -, hlx⟩ := hX.form
  clear hD hC hX
  obtain ⟨w0, hw0⟩ : ∃ w0, w0 = w.alloc (.cells #[.slice Ad ds.length cd, .slice Ac cs.length cc] 35) := ⟨_, rfl⟩
  have hx0 : Ext w w0 := by rw [hw0]; exact (Ext.refl w).alloc _
  have k0 : w0.cell? ⟨w.heap.size, 0, none⟩ = some (.slice Ad ds.length cd) := by rw [hw0]; go_simp
  have k1 : w0.cell? ⟨w.heap.size, 1, none⟩ = some (.slice Ac cs.length cc) := by rw [hw0]; go_simp
  have ks : w.heap.size < w0.heap.size := by rw [hw0]; simp
  have HX0 := hide hx0
  clear hx0
  cases hm : vMod ds cs with
  | false =>
    have HR := hide (show (vioV ds cs x).length = 0 by rw [vioV, hm]; rfl)
    go_enter Try.func10, Try.ntmps10
    go_wp2_with fail
    try rw [← hw0]
    clear hw0
    refine (ValidModelI_any _ _ ds cs _ (hD0.out.ext HX0.out) (hC0.out.ext HX0.out) (fun i _ => fits_all (con0 cs i))).mono ?_
    rintro e w1 ⟨rfl, hx1⟩
    rw [hm]
    have HX1 := hide (HX0.out.trans hx1)
    clear hx1
    go_wp2_with fail
    go_ret
    exact ⟨none, 0, by rw [HR.out]; rfl, HX1.out⟩
  | true =>
    cases ha : (decide ((x.length : Int) = ds.length) && allR x 0 5) with
    | false =>
      have HR := hide (show (vioV ds cs x).length = 0 by rw [vioV, hm, ha]; rfl)
      go_enter Try.func10, Try.ntmps10
      go_wp2_with fail
      try rw [← hw0]
      clear hw0
      refine (ValidModelI_any _ _ ds cs _ (hD0.out.ext HX0.out) (hC0.out.ext HX0.out) (fun i _ => fits_all (con0 cs i))).mono ?_
      rintro e w1 ⟨rfl, hx1⟩
      rw [hm]
      have k0 := (hx1.cells _ _ ks).trans k0
      have k1 := (hx1.cells _ _ ks).trans k1
      have HX1 := hide (HX0.out.trans hx1)
      clear hx1
      go_wp2_with fail
      refine (assigned_any _ x _ _ (hX0.out.ext HX1.out)).mono ?_
      rintro e w2 ⟨rfl, hx2⟩
      rw [ha]
      have HX2 := hide (HX1.out.trans hx2)
      clear hx2
      go_wp2_with fail
      go_ret
      exact ⟨none, 0, by rw [HR.out]; rfl, HX2.out⟩
    | true =>
      have h1 : (x.length : Int) = ds.length ∧ allR x 0 5 = true := by simpa using ha
      have HR := hide (show vioV ds cs x = vioL cs x cs.length by rw [vioV, hm, ha]; rfl)
      obtain ⟨hg, hp, h4⟩ := vMod_good hm
      have hc6 : cs.length ≤ 6 := by simp only [vMod, Bool.and_eq_true] at hm; exact of_decide_eq_true hm.2.1
      have HG := hide hg
      have HV := hide (allR_val h1.2)
      have HL := hide (show x.length = ds.length by omega)
      clear h1 hg
      go_enter Try.func10, Try.ntmps10
      go_wp2_with fail
      try rw [← hw0]
      clear hw0
      refine (ValidModelI_any _ _ ds cs _ (hD0.out.ext HX0.out) (hC0.out.ext HX0.out) (fun i _ => fits_all (con0 cs i))).mono ?_
      rintro e w1 ⟨rfl, hx1⟩
      rw [hm]
      have ks1 := Nat.lt_of_lt_of_le ks hx1.size
      have k0 := (hx1.cells _ _ ks).trans k0
      have k1 := (hx1.cells _ _ ks).trans k1
      have HX1 := hide (HX0.out.trans hx1)
      clear hx1
      go_wp2_with fail
      refine (assigned_any _ x _ _ (hX0.out.ext HX1.out)).mono ?_
      rintro e w2 ⟨rfl, hx2⟩
      rw [ha]
      have k0 := (hx2.cells _ _ ks1).trans k0
      have k1 := (hx2.cells _ _ ks1).trans k1
      have ks2 := Nat.lt_of_lt_of_le ks1 hx2.size
      have HX2 := hide (HX1.out.trans hx2)
      clear hx2
      go_wp2_with (at_make; go_must (refine wpList_mk0 _ rfl _ _ rfl cs.length rfl rfl (by omega) ?_); intro v1 w3 hA1 hx3; obtain ⟨A1, c1, hv1, -⟩ := hA1.form; subst hv1; have k0 := (hx3.cells _ _ ks2).trans k0; have k1 := (hx3.cells _ _ ks2).trans k1; have HA1 := hide hA1; have HX3 := hide hx3; clear hA1 hx3)
      have hs3 := HX3.out.size
      go_loopw [5, 26] (fun o i wr => ∃ j : Nat, i = .int .i64 j ∧ j ≤ cs.length ∧ AppI w2.heap.size wr o (vioL cs x j) ∧ Ext w2 wr) (fun _ i _ => cs.length - (intOf i).toNat)
      case atStart => exact ⟨0, rfl, Nat.zero_le _, HA1.out, HX3.out⟩
      case round =>
        obtain ⟨j, rfl, hj, hA, hx⟩ := hrel
        have HA := hide hA
        have HX := hide hx
        obtain ⟨Ao, co, rfl, hlo⟩ := hA.form
        have hsz := hx.size
        have hvl := vioL_len cs x j
        clear hA hx
        by_cases hjn : j < cs.length
        · have hjI : (j : Int) < cs.length := by omega
          obtain ⟨b, off, rfl, hbl, vv, va, vr, e0, e1, e2, e3, e4, h1, h2, h3⟩ := (hC0.out.ext (HX2.out.trans HX.out)).at_ hjn
          obtain ⟨Av, cv, rfl, -⟩ := h1.form
          obtain ⟨Aa, ca, rfl, -⟩ := h2.form
          obtain ⟨Ar, cr, rfl, -⟩ := h3.form
          have H1 := hide h1
          have H2 := hide h2
          have H3 := hide h3
          obtain ⟨q, hq⟩ : ∃ q, q = satB (con0 cs j) (wordL (con0 cs j).vars x) := ⟨_, rfl⟩
          have HQ := hide hq
          have HVS := hide (show vioL cs x (j + 1) = if q = true then vioL cs x j else vioL cs x j ++ [(j : Int)] by rw [hq]; rfl)
          clear h1 h2 h3 hq
          go_wp2_with fail
          have hxc : Ext wr (wr.alloc (.cells #[.int .i64 (con0 cs j).kk, .slice Av (con0 cs j).vars.length cv, .slice Aa (con0 cs j).args.length ca, .int .i64 (con0 cs j).bound, .slice Ar (con0 cs j).rows.length cr] 55)) := (Ext.refl wr).alloc _
          refine (holds_any _ _ (con0 cs j) x ds.length _ ⟨_, _, _, rfl, H1.out.ext hxc, H2.out.ext hxc, H3.out.ext hxc⟩ (hX0.out.ext (HX2.out.trans (HX.out.trans hxc))) (HG.out.2.2 j hjn) HV.out (by rw [HL.out]; exact vCon_var (HG.out.2.2 j hjn))).mono ?_
          rw [← HQ.out]
          rintro e w5 ⟨rfl, hx5⟩
          have HX5 := hide (HX.out.trans (hxc.trans hx5))
          have HA5 := hide (HA.out.ext (hxc.trans hx5))
          have hs5 := HX5.out.size
          clear hx5 hxc
          cases q with
          | true =>
            have HVT := hide (HVS.out.trans (if_pos rfl))
            go_wp2_with fail
            go_roundw
            case rel => exact ⟨j + 1, by go_num, by omega, by rw [HVT.out]; exact HA5.out, HX5.out⟩
            case measure => simp [intOf]; omega
          | false =>
            have HVT := hide (HVS.out.trans (if_neg (by simp)))
            go_wp2_with (at_builtin; go_must (refine wpList_app1 _ rfl _ _ rfl w2.heap.size (.slice Ao (vioL cs x j).length co) (vioL cs x j) (j : Int) w5.heap.size 1 rfl rfl (HA5.out.ext ((Ext.refl _).alloc _)) (World.cell?_alloc_at _ _ _ _ rfl) (by omega) (by simp; omega) ?_); intro v' w6 hA6 hb6; rw [← HVT.out] at hA6; obtain ⟨A6, c6, hv6, -⟩ := hA6.form; subst hv6; have HA6 := hide hA6; have HB6 := hide hb6; clear hA6 hb6)
            go_roundw
            case rel => exact ⟨j + 1, by go_num, by omega, HA6.out, (HX5.out.alloc _).below HB6.out⟩
            case measure => simp [intOf]; omega
        · obtain rfl : j = cs.length := by omega
          have hjI : ¬ ((cs.length : Int) < cs.length) := by omega
          go_wp2_with fail
          go_ret
          exact ⟨_, _, by rw [HR.out]; rfl, HX2.out.trans HX.out⟩
set_option maxHeartbeats 1000000 in
theorem atMost_any (v : Value) (xs : List Int) (l : Int) (w : World) (hS : SInts w v xs) :
    Calls Try.prog 9 #[v, .int .i64 l] w fun e w' => e = .returned (.bool (atmB xs l)) ∧ w = w' := by
  have hS0 := hide hS
  obtain ⟨A, cp, rfl, hl, hlen⟩ := hS.form
  clear hS
  go_enter Try.func9, Try.ntmps9
  go_wp2
  go_loop [5] (fun i => ∃ k : Nat, k ≤ xs.length ∧ i = .int .i64 k ∧ (∀ j, j < k → ¬ l < at0 xs j)) (fun i => xs.length - (intOf i).toNat)
  case atStart => exact ⟨0, Nat.zero_le _, rfl, fun j hj => absurd hj (by omega)⟩
  case round =>
    obtain ⟨k, hk, rfl, hv⟩ := hrel
    have Hv := hide hv; clear hv
    by_cases hlt : k < xs.length
    · obtain ⟨b, off, rfl, hbl, f1⟩ := hS0.out.at_ hlt
      have hltI : (k : Int) < xs.length := by omega
      by_cases h1 : l < at0 xs k
      · have hb := hide (show atmB xs l = false by unfold atmB; rw [Bool.not_eq_false', anyB_iff]; exact ⟨k, hlt, by simpa using h1⟩)
        go_wp2
        go_ret
        exact ⟨ret_b hb.out.symm, rfl⟩
      · go_wp2
        go_round
        case rel => exact ⟨k + 1, by omega, by go_num, fun j hj => by
          by_cases e : j = k
          · subst e; exact h1
          · exact Hv.out j (by omega)⟩
        case measure => simp [intOf]; omega
    · obtain rfl : k = xs.length := by omega
      have hltI : ¬ ((xs.length : Int) < xs.length) := by omega
      have hb := hide (show atmB xs l = true by unfold atmB; rw [Bool.not_eq_true', anyB_false]; exact fun i hi => by simpa using Hv.out i hi)
      go_wp2
      go_ret
      exact ⟨ret_b hb.out.symm, rfl⟩
end Go.Proofs.Yticallgbmmahjaa
