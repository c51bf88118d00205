/- The walk of the law FnExactTimetableFilter: it returns true, and memory only grows. -/
import Derived.Test.YtjpdebgejlfeaaaDoorLawVT
import Derived.Test.YtjpdebgejlfeaaaDoorTtJ
import Derived.Test.YtjpdebgejlfeaaaDoorTtR
import Derived.Test.YtjpdebgejlfeaaaDoorLwsA
namespace Go.Proofs.YtjpdebgejlfeaaaDoor
open Go.RowKit

set_option maxRecDepth 100000 in
set_option maxHeartbeats 4000000 in
theorem lawTimet (v : Value) (c : Int) (ts : List Tk) (w : World) (hTT : TzTab w) (hbb : 1 < w.heap.size) (hT : STasks w v ts) (_hc : I64 c) :
    Calls Tryd.prog 3 #[v, .int .i64 c] w (Ret (.bool true) w) := by
  have Tb := hide hT.i64
  have hTb := hT.bytes
  have TT := hide hTT
  obtain ⟨At, ct, rfl, -, -⟩ := hT.form
  clear hTT
  by_cases hlt : (1048576 : Int) < ts.length
  · have e1 : left0 1048576 ts.length < 0 := by rw [left0_neg hlt]; decide
    go_enter Tryd.func3, Tryd.ntmps3
    go_wp2_with (go_at_call 5; refine (szTaskS_any _ ts _ _ hT (by omega) (by omega)).mono ?_; rintro e w' ⟨rfl, rfl⟩)
    go_ret
    exact Ret.mk rfl (Ext.refl _)
  · have e1 : 0 ≤ left0 1048576 ts.length := by rw [left0_pos (by omega)]; omega
    obtain ⟨U, hU⟩ : ∃ U, U = ttV ts c := ⟨_, rfl⟩
    have hUl := ttV_len ts c
    have Ub := hide (ttV_i64 ts c)
    rw [← hU] at hUl Ub
    have HU := hide hU; clear hU
    go_enter Tryd.func3, Tryd.ntmps3
    go_wp2_with (go_at_call 5; refine (szTaskS_any _ ts _ _ hT (by omega) (by omega)).mono ?_; rintro e w' ⟨rfl, rfl⟩)
    refine (toTaskS_any _ ts _ hT).mono ?_
    rintro e w1 ⟨b1, -, rfl, hr1, hx1⟩
    have T1 := STasks.of_row hr1 hTb Tb.out
    go_wp2_with fail
    refine (TimetableS_any _ ts c _ T1).mono ?_
    rw [← HU.out]
    rintro e w3 ⟨A3, c3, b3, m3, f3, rfl, hc3, hd3, -, ho3, hx3⟩
    have hx03 := hx1.trans hx3
    go_wp2_with fail
    refine (toTaskS_any _ ts _ (hT.ext hx03)).mono ?_
    rintro e w4 ⟨b4, hb4, rfl, hr4, hx4⟩
    have T4 := STasks.of_row hr4 hTb Tb.out
    go_wp2_with fail
    refine (TimetableI_any _ ts c _ T4 (TzTab.ext TT.out hbb (hx03.trans hx4)) (Nat.lt_of_lt_of_le hbb (hx03.trans hx4).size)).mono ?_
    rw [← HU.out]
    rintro e w6 ⟨A6, c6, b6, m6, f6, rfl, hc6, hd6, hb6, ho6, hx6⟩
    have hx06 := (hx03.trans hx4).trans hx6
    have hx36 := hx4.trans hx6
    go_wp2_with fail
    refine (eqIntS_same _ _ U _ (SInts.own hc6 hd6 ho6 Ub.out) (SInts.own hc3 hd3 (ho3.ext hx36) Ub.out)).mono ?_
    rintro e w7 ⟨rfl, hx7⟩
    go_wp2_with fail
    refine (toTaskS_any _ ts _ (hT.ext (hx06.trans hx7))).mono ?_
    rintro e w8 ⟨b8, -, rfl, hr8, hx8⟩
    have T8 := STasks.of_row hr8 hTb Tb.out
    go_wp2_with fail
    refine (eqTaskS_same _ _ ts _ (T4.ext ((hx6.trans hx7).trans hx8)) T8).mono ?_
    rintro e w9 ⟨rfl, hx9⟩
    have hx09 := ((hx06.trans hx7).trans hx8).trans hx9
    have hx0 := hx09
    have hx611 := (hx7.trans hx8).trans hx9
    have hx511 := hx6.trans hx611
    have hl4 := hr4.lt
    have hs3 := hx3.size
    have hs4 := hx4.size
    have hs6 := hx6.size
    have hs03 := hx03.size
    have hs0 := hx0.size
    have O6 := ho6.ext hx611
    have O3 := (ho3.ext hx36).ext hx611
    have hlt3 : 0 < U.length → b3 < w3.heap.size := fun h => ho3.lt h
    have R4 := hx511.row hr4
    clear hr1 hr4 hr8 T1 T4 T8 ho3 ho6 hx1 hx3 hx4 hx6 hx7 hx8 hx9 hx03 hx06 hx36 hx09 hx611 hx511
    have H3 := hide hlt3; clear hlt3
    go_wp2_with fail
    refine (markTaskS_any _ ts.length _ b4 _ _ 1 _ (by omega) (by omega) (by omega) (hide fun _ => ⟨rfl, R4, Nat.le_refl _⟩)).mono ?_
    rintro e w12 ⟨rfl, hg12, -⟩
    have O6 := O6.upd hg12 (fun _ _ => by omega)
    have O3 := O3.upd hg12 (fun _ h => by have := H3.out h; omega)
    have hx0 : Ext w w12 := upd_below hx0 hg12 hx0.size (fun _ => by omega)
    clear hg12 R4
    go_wp2_with fail
    refine (eqIntS_same _ _ U _ (SInts.own hc6 hd6 O6 Ub.out) (SInts.own hc3 hd3 O3 Ub.out)).mono ?_
    rintro e w14 ⟨rfl, hx14⟩
    have O6 := O6.ext hx14
    have O3 := O3.ext hx14
    have hx0 := hx0.trans hx14
    go_wp2_with fail
    refine (markIntS_any _ U.length _ b6 _ _ 1 _ (by omega) (by omega) (by omega) (hide fun h => ⟨(O6 h).1, (O6 h).2.1, (O6 h).2.2.1⟩)).mono ?_
    rintro e w15 ⟨rfl, hg15, hm15⟩
    have O3 := O3.upd hg15 (fun _ h => by have := H3.out h; omega)
    have hx0 : Ext w w15 := upd_below hx0 hg15 hx0.size (fun _ => by omega)
    have HM := hide hm15; clear hm15
    have HO6 := hide O6
    go_wp2_with fail
    refine (heldIntS_any _ U.length _ b6 _ _ 1 _ (by omega) (by omega) (by omega) (hide fun h => ⟨(HO6.out h).1, HM.out h, (HO6.out h).2.2.1⟩)).mono ?_
    rintro e w' ⟨rfl, rfl⟩
    go_wp2_with fail
    refine (toTaskS_any _ ts _ (hT.ext hx0)).mono ?_
    rintro e w16 ⟨b16, -, rfl, hr16, hx16⟩
    have T16 := STasks.of_row hr16 hTb Tb.out
    go_wp2_with fail
    refine (TimetableI_any _ ts c _ T16 (TzTab.ext TT.out hbb (hx0.trans hx16)) (Nat.lt_of_lt_of_le hbb (hx0.trans hx16).size)).mono ?_
    rw [← HU.out]
    rintro e w18 ⟨A18, c18, b18, m18, f18, rfl, hc18, hd18, -, ho18, hx18⟩
    have hx1518 := hx16.trans hx18
    go_wp2_with fail
    refine (eqIntS_same _ _ U _ (SInts.own hc18 hd18 ho18 Ub.out) (SInts.own hc3 hd3 (O3.ext hx1518) Ub.out)).mono ?_
    rintro e w19 ⟨rfl, hx19⟩
    have hx1519 := hx1518.trans hx19
    go_wp2_with fail
    refine (heldIntS_any _ U.length _ b6 _ _ 1 _ (by omega) (by omega) (by omega) (hide fun h => ⟨(HO6.out h).1, hx1519.row (HM.out h), (HO6.out h).2.2.1⟩)).mono ?_
    rintro e w' ⟨rfl, rfl⟩
    go_wp2
    go_ret
    exact Ret.mk rfl (hx0.trans hx1519)
end Go.Proofs.YtjpdebgejlfeaaaDoor
