/- The walk of the law FnExactUsage: it returns true, and memory only grows. -/
import Derived.Test.YtljnclhjmdonjaaLawVT
import Derived.Test.YtljnclhjmdonjaaMarks
import Derived.Test.YtljnclhjmdonjaaUsg
namespace Go.Proofs.Ytljnclhjmdonjaa
open Go.RowKit

set_option maxRecDepth 100000 in
set_option maxHeartbeats 4000000 in
theorem lawUsage (v v' : Value) (ts : List Tk) (xs : List Int) (w : World) (hT : STasks w v ts) (hS : SInts w v' xs) :
    Calls Try.prog 5 #[v, v'] w (Ret (.bool true) w) := by
  have Tb := hide hT.i64
  have hTb := hT.bytes
  have Sb := hide (fun i (hi : i < xs.length) => hS.i64 hi)
  have hSb := hS.bytes
  have hS0 := hide hS
  obtain ⟨A, cp, rfl, hl, hlen⟩ := hS.form
  clear hS
  by_cases hl1 : (1048576 : Int) < xs.length
  · go_enter Try.func5, Try.ntmps5
    go_wp2
    go_ret
    exact Ret.mk rfl (Ext.refl _)
  by_cases hlt : (1048576 : Int) < ts.length
  · have e1 : left0 1048576 ts.length < 0 := by rw [left0_neg hlt]; decide
    go_enter Try.func5, Try.ntmps5
    go_wp2_with (go_at_call 8; refine (szTaskS_any _ ts _ _ hT (by omega) (by omega)).mono ?_; rintro e w' ⟨rfl, rfl⟩)
    go_ret
    exact Ret.mk rfl (Ext.refl _)
  · have e1 : 0 ≤ left0 1048576 ts.length := by rw [left0_pos (by omega)]; omega
    obtain ⟨U, hU⟩ : ∃ U, U = usageL ts xs := ⟨_, rfl⟩
    have hUl := usageL_len ts xs
    have Ub := hide (usageL_i64 ts xs)
    rw [← hU] at hUl Ub
    have HU := hide hU; clear hU
    go_enter Try.func5, Try.ntmps5
    go_wp2_with (go_at_call 8; refine (szTaskS_any _ ts _ _ hT (by omega) (by omega)).mono ?_; rintro e w' ⟨rfl, rfl⟩)
    refine (toTaskS_any _ ts _ hT).mono ?_
    rintro e w1 ⟨b1, -, rfl, hr1, hx1⟩
    have T1 := STasks.of_row hr1 hTb Tb.out
    go_wp2_with fail
    refine (toIntS_any _ xs _ (hS0.out.ext hx1)).mono ?_
    rintro e w2 ⟨b2, -, rfl, hr2, hx2⟩
    have S2 := SInts.of_row hr2 hSb Sb.out
    go_wp2_with fail
    refine (UsageS_any _ _ ts xs _ (T1.ext hx2) S2).mono ?_
    rw [← HU.out]
    rintro e w3 ⟨A3, c3, b3, m3, f3, rfl, hc3, hd3, -, ho3, hx3⟩
    have hx03 := (hx1.trans hx2).trans hx3
    go_wp2_with fail
    refine (toTaskS_any _ ts _ (hT.ext hx03)).mono ?_
    rintro e w4 ⟨b4, hb4, rfl, hr4, hx4⟩
    have T4 := STasks.of_row hr4 hTb Tb.out
    go_wp2_with fail
    refine (toIntS_any _ xs _ (hS0.out.ext (hx03.trans hx4))).mono ?_
    rintro e w5 ⟨b5, hb5, rfl, hr5, hx5⟩
    have S5 := SInts.of_row hr5 hSb Sb.out
    go_wp2_with fail
    refine (UsageI_any _ _ ts xs _ (T4.ext hx5) S5).mono ?_
    rw [← HU.out]
    rintro e w6 ⟨A6, c6, b6, m6, f6, rfl, hc6, hd6, hb6, ho6, hx6⟩
    have hx06 := ((hx03.trans hx4).trans hx5).trans hx6
    have hx36 := (hx4.trans hx5).trans hx6
    go_wp2_with fail
    refine (eqIntS_same _ _ U _ (SInts.own hc6 hd6 ho6 Ub.out) (SInts.own hc3 hd3 (ho3.ext hx36) Ub.out)).mono ?_
    rintro e w7 ⟨rfl, hx7⟩
    go_wp2_with fail
    refine (toTaskS_any _ ts _ (hT.ext (hx06.trans hx7))).mono ?_
    rintro e w8 ⟨b8, -, rfl, hr8, hx8⟩
    have T8 := STasks.of_row hr8 hTb Tb.out
    go_wp2_with fail
    refine (eqTaskS_same _ _ ts _ (T4.ext (((hx5.trans hx6).trans hx7).trans hx8)) T8).mono ?_
    rintro e w9 ⟨rfl, hx9⟩
    have hx09 := ((hx06.trans hx7).trans hx8).trans hx9
    go_wp2_with fail
    refine (toIntS_any _ xs _ (hS0.out.ext hx09)).mono ?_
    rintro e w10 ⟨b10, -, rfl, hr10, hx10⟩
    have S10 := SInts.of_row hr10 hSb Sb.out
    go_wp2_with fail
    refine (eqIntS_same _ _ xs _ (S5.ext ((((hx6.trans hx7).trans hx8).trans hx9).trans hx10)) S10).mono ?_
    rintro e w11 ⟨rfl, hx11⟩
    have hx0 := (hx09.trans hx10).trans hx11
    have hx611 := ((((hx7.trans hx8).trans hx9).trans hx10).trans hx11)
    have hx511 := hx6.trans hx611
    have hl4 := hr4.lt
    have hl5 := hr5.lt
    have hs3 := hx3.size
    have hs4 := hx4.size
    have hs5 := hx5.size
    have hs6 := hx6.size
    have hs03 := hx03.size
    have hs0 := hx0.size
    have O6 := ho6.ext hx611
    have O3 := (ho3.ext hx36).ext hx611
    have hlt3 : 0 < U.length → b3 < w3.heap.size := fun h => ho3.lt h
    have R4 := (hx5.trans hx511).row hr4
    have R5 := hx511.row hr5
    clear hr1 hr2 hr4 hr5 hr8 hr10 T1 S2 T4 S5 T8 S10 ho3 ho6 hx1 hx2 hx3 hx4 hx5 hx6 hx7 hx8 hx9 hx10 hx11 hx03 hx06 hx36 hx09 hx611 hx511
    have H3 := hide hlt3; clear hlt3
    go_wp2_with fail
    refine (markTaskS_any _ ts.length _ b4 _ _ 1 _ (by omega) (by omega) (by omega) (hide fun _ => ⟨rfl, R4, Nat.le_refl _⟩)).mono ?_
    rintro e w12 ⟨rfl, hg12, -⟩
    have O6 := O6.upd hg12 (fun _ _ => by omega)
    have O3 := O3.upd hg12 (fun _ h => by have := H3.out h; omega)
    have R5 := upd_row hg12 R5 (fun _ => by omega)
    have hx0 : Ext w w12 := upd_below hx0 hg12 hx0.size (fun _ => by omega)
    go_wp2_with fail
    refine (markIntS_any _ xs.length _ b5 _ _ _ _ (by omega) (by omega) (by omega) (hide fun _ => ⟨rfl, R5, Nat.le_refl _⟩)).mono ?_
    rintro e w13 ⟨rfl, hg13, -⟩
    have O6 := O6.upd hg13 (fun _ _ => by omega)
    have O3 := O3.upd hg13 (fun _ h => by have := H3.out h; omega)
    have hx0 : Ext w w13 := upd_below hx0 hg13 hx0.size (fun _ => by omega)
    clear hg12 hg13 R4 R5
    go_wp2_with fail
    refine (eqIntS_same _ _ U _ (SInts.own hc6 hd6 O6 Ub.out) (SInts.own hc3 hd3 O3 Ub.out)).mono ?_
    rintro e w14 ⟨rfl, hx14⟩
    have O6 := O6.ext hx14
    have O3 := O3.ext hx14
    have hx0 := hx0.trans hx14
    go_wp2_with fail
    refine (markIntS_any _ U.length _ b6 _ _ 1 _ (by omega) (by omega) (by omega) (hide fun h => ⟨(O6 h).1, (O6 h).2.1, (O6 h).2.2.1⟩)).mono ?_
    rintro e w15 ⟨rfl, hg15, hm15⟩
    have O3 := O3.upd hg15 (fun _ h => by have := H3.out h; omega)
    have hx0 : Ext w w15 := upd_below hx0 hg15 hx0.size (fun _ => by omega)
    have HM := hide hm15; clear hm15
    have HO6 := hide O6
    go_wp2_with fail
    refine (heldIntS_any _ U.length _ b6 _ _ 1 _ (by omega) (by omega) (by omega) (hide fun h => ⟨(HO6.out h).1, HM.out h, (HO6.out h).2.2.1⟩)).mono ?_
    rintro e w' ⟨rfl, rfl⟩
    go_wp2_with fail
    refine (toTaskS_any _ ts _ (hT.ext hx0)).mono ?_
    rintro e w16 ⟨b16, -, rfl, hr16, hx16⟩
    have T16 := STasks.of_row hr16 hTb Tb.out
    go_wp2_with fail
    refine (toIntS_any _ xs _ (hS0.out.ext (hx0.trans hx16))).mono ?_
    rintro e w17 ⟨b17, -, rfl, hr17, hx17⟩
    have S17 := SInts.of_row hr17 hSb Sb.out
    go_wp2_with fail
    refine (UsageI_any _ _ ts xs _ (T16.ext hx17) S17).mono ?_
    rw [← HU.out]
    rintro e w18 ⟨A18, c18, b18, m18, f18, rfl, hc18, hd18, -, ho18, hx18⟩
    have hx1518 := (hx16.trans hx17).trans hx18
    go_wp2_with fail
    refine (eqIntS_same _ _ U _ (SInts.own hc18 hd18 ho18 Ub.out) (SInts.own hc3 hd3 (O3.ext hx1518) Ub.out)).mono ?_
    rintro e w19 ⟨rfl, hx19⟩
    have hx1519 := hx1518.trans hx19
    go_wp2_with fail
    refine (heldIntS_any _ U.length _ b6 _ _ 1 _ (by omega) (by omega) (by omega) (hide fun h => ⟨(HO6.out h).1, hx1519.row (HM.out h), (HO6.out h).2.2.1⟩)).mono ?_
    rintro e w' ⟨rfl, rfl⟩
    go_wp2
    go_ret
    exact Ret.mk rfl (hx0.trans hx1519)
end Go.Proofs.Ytljnclhjmdonjaa
