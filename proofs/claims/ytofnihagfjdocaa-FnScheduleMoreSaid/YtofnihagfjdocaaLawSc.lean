/- The walk of the law FnExactSchedule: it returns true, and memory only grows. -/
import Derived.Test.YtofnihagfjdocaaLawVT
import Derived.Test.YtofnihagfjdocaaMarks
import Derived.Test.YtofnihagfjdocaaSchS4
namespace Go.Proofs.Ytofnihagfjdocaa
open Go.RowKit

theorem schX_len (ts : List Tk) (c : Int) : ((schX ts c).getD []).length ≤ 4 ∧ ∀ i, i < ((schX ts c).getD []).length → I64 (at0 ((schX ts c).getD []) i) := by
  unfold schX
  by_cases h : (vTks ts && inR c 0 9) = true
  · rw [if_pos h]
    cases ho : schO ts c with
    | none => exact ⟨by simp, fun i hi => absurd hi (by simp)⟩
    | some b =>
      rw [Bool.and_eq_true] at h
      have h1 : bestF (fun x => mk ts x ts.length) ((tups (startsL ts)).filter (feas ts c)) = some b := ho
      have h2 : b ∈ tups (startsL ts) := by
        rcases bestF_mem _ _ _ _ h1 with h | h
        · cases h
        · exact (List.mem_filter.1 h).1
      have h3 := tups_len _ _ h2
      rw [startsL_len] at h3
      have h4 := (vTks_len h.1).2
      refine ⟨by simpa using (by omega : b.length ≤ 4), fun i hi => ?_⟩
      have := tups_vals _ _ h2 _ (at0_mem (xs := b) (by simpa using hi))
      show I64 (at0 b i)
      unfold I64; omega
  · rw [if_neg h]; exact ⟨by simp, fun i hi => absurd hi (by simp)⟩
set_option maxRecDepth 100000 in
set_option maxHeartbeats 4000000 in
theorem lawSchedule (v : Value) (c : Int) (ts : List Tk) (w : World) (hT : STasks w v ts) (_hc : I64 c) :
    Calls Try.prog 3 #[v, .int .i64 c] w (Ret (.bool true) w) := by
  have Tb := hide hT.i64
  have hTb := hT.bytes
  by_cases hlt : (1048576 : Int) < ts.length
  · have e1 : left0 1048576 ts.length < 0 := by rw [left0_neg hlt]; decide
    go_enter Try.func3, Try.ntmps3
    go_wp2_with (go_at_call 9; refine (szTaskS_any _ ts _ _ hT (by omega) (by omega)).mono ?_; rintro e w' ⟨rfl, rfl⟩)
    go_ret
    exact Ret.mk rfl (Ext.refl _)
  · have e1 : 0 ≤ left0 1048576 ts.length := by rw [left0_pos (by omega)]; omega
    obtain ⟨U, hU⟩ : ∃ U, U = (schX ts c).getD [] := ⟨_, rfl⟩
    obtain ⟨ok, hok⟩ : ∃ ok, ok = (schX ts c).isSome := ⟨_, rfl⟩
    obtain ⟨hUl, hUb⟩ := schX_len ts c
    rw [← hU] at hUl hUb
    have Ub := hide hUb
    have HU := hide hU; have HOK := hide hok; clear hU hok hUb
    go_enter Try.func3, Try.ntmps3
    go_wp2_with (go_at_call 9; refine (szTaskS_any _ ts _ _ hT (by omega) (by omega)).mono ?_; rintro e w' ⟨rfl, rfl⟩)
    refine (toTaskS_any _ ts _ hT).mono ?_
    rintro e w1 ⟨b1, -, rfl, hr1, hx1⟩
    have T1 := STasks.of_row hr1 hTb Tb.out
    go_wp2_with fail
    refine (ScheduleS_any _ ts c _ T1).mono ?_
    rw [← HU.out, ← HOK.out]
    rintro e w3 ⟨A3, c3, rfl, hS3, hx3⟩
    have hx03 := hx1.trans hx3
    go_wp2_with fail
    refine (toTaskS_any _ ts _ (hT.ext hx03)).mono ?_
    rintro e w4 ⟨b4, hb4, rfl, hr4, hx4⟩
    have T4 := STasks.of_row hr4 hTb Tb.out
    go_wp2_with fail
    refine (ScheduleI_any _ ts c _ T4).mono ?_
    rw [← HU.out, ← HOK.out]
    rintro e w6 ⟨v6, rfl, A6, c6, b6, m6, f6, hv6, hc6, hd6, hb6, ho6, hx6⟩
    injection hv6 with hv6
    subst hv6
    have hx36 := hx4.trans hx6
    go_wp2_with fail
    have hx06 := hx03.trans hx36
    refine (eqIntS_same _ _ U _ (SInts.own hc6 hd6 ho6 Ub.out) (hS3.ext hx36)).mono ?_
    rintro e w7 ⟨rfl, hx7⟩
    go_wp2_with fail
    refine (toTaskS_any _ ts _ (hT.ext (hx06.trans hx7))).mono ?_
    rintro e w8 ⟨b8, -, rfl, hr8, hx8⟩
    have T8 := STasks.of_row hr8 hTb Tb.out
    go_wp2_with fail
    refine (eqTaskS_same _ _ ts _ (T4.ext ((hx6.trans hx7).trans hx8)) T8).mono ?_
    rintro e w9 ⟨rfl, hx9⟩
    have hx0 := ((hx06.trans hx7).trans hx8).trans hx9
    have hx39 := ((hx36.trans hx7).trans hx8).trans hx9
    have hx69 := (hx7.trans hx8).trans hx9
    have hl4 := hr4.lt
    have hs3 := hx3.size
    have hs4 := hx4.size
    have hs6 := hx6.size
    have hs03 := hx03.size
    have hs0 := hx0.size
    have O6 := ho6.ext hx69
    have R4 := (hx6.trans hx69).row hr4
    have HS3 := hide hS3
    clear hr1 hr4 hr8 T1 T4 T8 ho6 hx1 hx3 hx4 hx6 hx7 hx8 hx9 hx03 hx06 hx36 hx69 hS3
    go_wp2_with fail
    refine (markTaskS_any _ ts.length _ b4 _ _ 1 _ (by omega) (by omega) (by omega) (hide fun _ => ⟨rfl, R4, Nat.le_refl _⟩)).mono ?_
    rintro e w12 ⟨rfl, hg12, -⟩
    have O6 := O6.upd hg12 (fun _ _ => by omega)
    have hx3' : Ext w3 w12 := upd_below hx39 hg12 hx39.size (fun _ => by omega)
    have hx0 : Ext w w12 := upd_below hx0 hg12 hx0.size (fun _ => by omega)
    clear hg12 R4 hx39
    go_wp2_with fail
    refine (eqIntS_same _ _ U _ (SInts.own hc6 hd6 O6 Ub.out) (HS3.out.ext hx3')).mono ?_
    rintro e w14 ⟨rfl, hx14⟩
    have O6 := O6.ext hx14
    have hx3' := hx3'.trans hx14
    have hx0 := hx0.trans hx14
    go_wp2_with fail
    refine (markIntS_any _ U.length _ b6 _ _ 1 _ (by omega) (by omega) (by omega) (hide fun h => ⟨(O6 h).1, (O6 h).2.1, (O6 h).2.2.1⟩)).mono ?_
    rintro e w15 ⟨rfl, hg15, hm15⟩
    have hx3' : Ext w3 w15 := upd_below hx3' hg15 hx3'.size (fun _ => by omega)
    have hx0 : Ext w w15 := upd_below hx0 hg15 hx0.size (fun _ => by omega)
    have HM := hide hm15; clear hm15
    have HO6 := hide O6
    go_wp2_with fail
    refine (heldIntS_any _ U.length _ b6 _ _ 1 _ (by omega) (by omega) (by omega) (hide fun h => ⟨(HO6.out h).1, HM.out h, (HO6.out h).2.2.1⟩)).mono ?_
    rintro e w' ⟨rfl, rfl⟩
    go_wp2_with fail
    refine (toTaskS_any _ ts _ (hT.ext hx0)).mono ?_
    rintro e w16 ⟨b16, -, rfl, hr16, hx16⟩
    have T16 := STasks.of_row hr16 hTb Tb.out
    go_wp2_with fail
    refine (ScheduleI_any _ ts c _ T16).mono ?_
    rw [← HU.out, ← HOK.out]
    rintro e w18 ⟨v18, rfl, A18, c18, b18, m18, f18, hv18, hc18, hd18, -, ho18, hx18⟩
    injection hv18 with hv18
    subst hv18
    have hx1518 := hx16.trans hx18
    go_wp2_with fail
    refine (eqIntS_same _ _ U _ (SInts.own hc18 hd18 ho18 Ub.out) (HS3.out.ext (hx3'.trans hx1518))).mono ?_
    rintro e w19 ⟨rfl, hx19⟩
    have hx1519 := hx1518.trans hx19
    go_wp2_with fail
    refine (heldIntS_any _ U.length _ b6 _ _ 1 _ (by omega) (by omega) (by omega) (hide fun h => ⟨(HO6.out h).1, hx1519.row (HM.out h), (HO6.out h).2.2.1⟩)).mono ?_
    rintro e w' ⟨rfl, rfl⟩
    go_wp2
    go_ret
    exact Ret.mk rfl (hx0.trans hx1519)
end Go.Proofs.Ytofnihagfjdocaa
