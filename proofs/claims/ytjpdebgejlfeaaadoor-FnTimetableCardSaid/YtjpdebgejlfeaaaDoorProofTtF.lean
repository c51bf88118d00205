/- The walk of the law FnTimetable: it returns true, and memory only grows. -/
import Derived.Test.YtjpdebgejlfeaaaDoorQ32
import Derived.Test.YtjpdebgejlfeaaaDoorQ33
import Derived.Test.YtjpdebgejlfeaaaDoorQ34
import Derived.Test.YtjpdebgejlfeaaaDoorLwX
import Derived.Test.YtjpdebgejlfeaaaDoorDwT
import Derived.Test.YtjpdebgejlfeaaaDoorLawTk
import Derived.Test.YtjpdebgejlfeaaaDoorOpnA
import Derived.Test.YtjpdebgejlfeaaaDoorTie
import Derived.Test.YtjpdebgejlfeaaaDoorCards
import Derived.Lib.LaidTab
import Derived.LaidMore
import Derived.ProofKit
import Derived.SevenTiedAt
import Derived.ShutString
import Derived.ChangeOld
namespace Go.Proofs.YtjpdebgejlfeaaaDoor
open Go.RowKit

theorem upS_starts9 (ts : List Tk) : upS ts ts.length = startsL ts := by
  apply List.ext_getElem (by simp [upS, startsL])
  intro i h1 h2
  have hi : i < ts.length := by simpa [upS] using h1
  simp only [upS, startsL, List.getElem_map, List.getElem_range]
  unfold tkS tk0
  rw [getD_lt _ _ hi]
theorem TkRow.cell0 {B g cap : Nat} {w : World} {us : List Tk} {m : Nat} (h : TkRow B w (.slice (some ⟨g, 0, none⟩) m cap) us) : B ≤ g ∧ g < w.heap.size ∧ ∀ k, k < us.length → w.frozen? ⟨g, k * 3, none⟩ = false ∧ w.cell? ⟨g, k * 3, none⟩ = some (.int .i64 (tkS us k)) := by
  obtain ⟨g', cap', h1, h2, h3, h4, h5, h6⟩ := h
  injection h1 with e1 _ e3
  injection e1 with e1
  injection e1 with e1 _ _
  subst e1
  exact ⟨h3, h4, fun k hk => ⟨h5 _, (h6 k hk).1⟩⟩
theorem upT_zero (ts : List Tk) (U : List Int) : upT ts U 0 = ts := by
  apply List.ext_getElem (upT_len ts U 0)
  intro i h1 h2
  have h := upT_at ts U 0 h2
  unfold tk0 at h
  rw [getD_lt _ _ h1, if_neg (by omega)] at h
  rw [h]
  unfold tkS tkD tkM tk0
  rw [getD_lt _ _ h2]
theorem tt_facts {ts : List Tk} {c : Int} (hp : 0 < (ttV ts c).length) (hb : ∀ i, i < ts.length → I64 (tkS ts i) ∧ I64 (tkD ts i) ∧ I64 (tkM ts i)) : ts.length ≤ 4 ∧ (ttV ts c).length = ts.length ∧ DomL (ttV ts c) ∧ DomL (upS ts ts.length) ∧ SubD (ttV ts c) (upS ts ts.length) ∧
    SubD (prpV (upS ts ts.length) [cumC ts c]) (ttV ts c) ∧ DomL (prpV (upS ts ts.length) [cumC ts c]) ∧ (at0 (ttV ts c) 0 ≠ 0 → ttV (upT ts (ttV ts c) ts.length) c = ttV ts c) ∧
    ∀ i, i < (upT ts (ttV ts c) ts.length).length → I64 (tkS (upT ts (ttV ts c) ts.length) i) ∧ I64 (tkD (upT ts (ttV ts c) ts.length) i) ∧ I64 (tkM (upT ts (ttV ts c) ts.length) i) := by
  obtain ⟨hv, -, hc, hl, hg, hs, hP, hA⟩ := tt_law hp
  have h4 := ttV_len ts c
  have hm := vMod_cum hv hc
  obtain ⟨hG, hp2, h42⟩ := vMod_good hm
  have hR := propL_R hG h42
  have hpv : prpV (upS ts ts.length) [cumC ts c] = propL [cumC ts c] (upS ts ts.length) := by rw [prpV, if_pos hm]
  have hU := ttV_i64 ts c
  rw [hpv, upS_starts9]
  rw [upS_starts9, show (startsL ts).length = ts.length from hg.1] at hR
  refine ⟨by omega, hl, fun i hi => ttV_dom ts c i hi, hg.2, hs, hP _ hR, hR.good.2.1, hA, fun i hi => ?_⟩
  rw [upT_len] at hi
  rw [upT_D, upT_M]
  refine ⟨?_, (hb i hi).2⟩
  unfold tkS
  rw [upT_at ts _ _ hi, if_pos hi]
  exact hU i (by omega)
set_option maxHeartbeats 1000000 in
theorem equalInts_sameT (v v' : Value) (xs : List Int) (w : World) (hS : SInts w v xs) (hS' : SInts w v' xs) : Calls Tryd.prog 15 #[v, v'] w (Ret (.bool true) w) := by
  have h := equalInts_any v v' xs xs w hS hS'
  rwa [decide_eq_true rfl] at h
set_option maxHeartbeats 1000000 in
theorem DrawTimetableFilter_any (v : Value) (n : Nat) (w : World) (hB : SBytes w v n) : Calls Tryd.prog 14 #[v] w (DrawnTC w) := by
  have HB := hide hB
  obtain ⟨A, c, rfl, -⟩ := hB
  go_enter Tryd.func14, Tryd.ntmps14
  go_wp2_with fail
  refine (newReader_any w w _ n HB.out (Ext.refl w)).mono ?_
  rintro e w1 ⟨br, rfl, hR, hx1, hbr⟩
  have HX := hide hx1
  clear hx1
  go_wp2_with fail
  refine (anyTasks_any w br 0 _ (by omega) hR).mono ?_
  intro e w2 h
  have hd := TasksGot.to h HX.out hbr
  obtain ⟨v2, ts, c2, rfl, q⟩ := hd
  have HE := hide (show DrawnTC w (.returned (.tuple #[v2, .int .i64 c2])) w2 from ⟨v2, ts, c2, rfl, q⟩)
  clear h q
  go_wp2
  go_ret2
  exact HE.out
set_option maxRecDepth 100000 in
set_option maxHeartbeats 8000000 in
theorem lawTimetP (v : Value) (n : Nat) (w : World) (hT : TzTab w) (hb : 1 < w.heap.size) (hB : SBytes w v n) (_hn : n ≤ 140737488351232) :
    Calls Tryd.prog 4 #[v] w (Ret (.bool true) w) := by
  have HB := hide hB
  have HT := hide hT
  clear hT
  obtain ⟨A, c, rfl, -⟩ := hB
  by_cases hl : (1048576 : Int) < n
  · go_enter Tryd.func4, Tryd.ntmps4
    go_wp2
    go_ret
    exact Ret.mk rfl (Ext.refl _)
  · go_enter Tryd.func4, Tryd.ntmps4
    go_wp2_with fail
    refine (DrawTimetableFilter_any _ n _ HB.out).mono ?_
    rintro e w1 ⟨v1, ts, cc, rfl, l1, l8, c0, c1, hS, hx1⟩
    have HI := hide hS.i64
    have HS := hide hS
    obtain ⟨A1, cp1, rfl, -⟩ := hS.form
    have HX1 := hide hx1
    have HT1 := hide (TzTab.ext HT.out hb hx1)
    have hb1 := Nat.lt_of_lt_of_le hb hx1.size
    obtain ⟨U, hU⟩ : ∃ U, U = ttV ts cc := ⟨_, rfl⟩
    have hUl := ttV_len ts cc
    rw [← hU] at hUl
    have HU := hide hU
    have hUb : ∀ i, i < U.length → I64 (at0 U i) := by rw [hU]; exact ttV_i64 ts cc
    have HUB := hide hUb
    have hlen2 : ts.length < 4611686018427387904 := by omega
    clear hS hU hUb hx1
    go_wp2_with fail
    refine (TimetableI_any _ ts cc _ HS.out HT1.out hb1).mono ?_
    rw [← HU.out]
    rintro e w2 ⟨A2, c2, b2, m2, f2, rfl, hc2, hd2, hb2, ho2, hx2⟩
    have HS2 := hide (SInts.own hc2 hd2 ho2 HUB.out)
    have HX2 := hide hx2
    have HX12 := hide (HX1.out.trans hx2)
    clear ho2 hx2
    go_wp2_with fail
    refine (TimetableS_any _ ts cc _ (HS.out.ext HX2.out)).mono ?_
    rw [← HU.out]
    rintro e w3 ⟨A3, c3, b3, m3, f3, rfl, hc3, hd3, hb3, ho3, hx3⟩
    have HS3 := hide (SInts.own hc3 hd3 ho3 HUB.out)
    have HS23 := hide (HS2.out.ext hx3)
    have HX3 := hide (HX2.out.trans hx3)
    clear ho3 hx3
    go_wp2_with fail
    refine (equalInts_sameT _ _ _ _ HS23.out HS3.out).mono ?_
    rintro e w4 ⟨rfl, hx4⟩
    have HX4 := hide (HX3.out.trans hx4)
    have HS4 := hide (HS23.out.ext hx4)
    clear hx4
    by_cases h0 : U.length = 0
    · have hrb : ((U.length : Int) == 0) = true := by rw [h0]; rfl
      obtain ⟨L, hL⟩ : ∃ L, L = U.length := ⟨_, rfl⟩
      rw [← hL] at hrb HS4 ⊢
      have HL := hide hL
      clear h0 hL
      go_wp2_with fail
      refine (TimetableS_any _ ts cc _ (HS.out.ext HX4.out)).mono ?_
      rw [← HU.out]
      rintro e w5 ⟨A5, c5, b5, m5, f5, rfl, hc5, hd5, hb5, ho5, hx5⟩
      have HS5 := hide (SInts.own hc5 hd5 ho5 HUB.out)
      have HS45 := hide (HS4.out.ext hx5)
      have HX5 := hide (HX4.out.trans hx5)
      clear ho5 hx5
      go_wp2_with fail
      refine (equalInts_sameT _ _ U _ HS45.out HS5.out).mono ?_
      rintro e w6 ⟨rfl, hx6⟩
      have HX6 := hide (HX5.out.trans hx6)
      clear hx6
      go_wp2_with fail
      go_ret
      exact Ret.mk rfl (HX1.out.trans HX6.out)
    · have hrb : ((U.length : Int) == 0) = false := by rw [beq_eq_false_iff_ne]; omega
      have hp : 0 < (ttV ts cc).length := by rw [← HU.out]; omega
      obtain ⟨h4, hlU, dU, dS, sU, sP, dP, hA, hI⟩ := tt_facts hp HI.out
      rw [← HU.out] at hlU dU sU sP hA hI
      have HDU := hide dU
      have HDS := hide dS
      have HSU := hide sU
      have HSP := hide sP
      have HDP := hide dP
      have HA := hide hA
      have HII := hide hI
      have HLU := hide hlU
      clear hp dU dS sU sP dP hA hI hlU
      go_wp2_with fail
      refine (cumulative_any _ ts cc _ (HS.out.ext HX4.out) (by omega)).mono ?_
      rintro e w6 ⟨vd, vc, rfl, hD, hC, hx6⟩
      have HD := hide hD
      have HC := hide hC
      obtain ⟨Ad, ed, rfl, -⟩ := hD.form
      obtain ⟨Ac, ec, rfl, -⟩ := hC.form
      have HX6 := hide (HX4.out.trans hx6)
      have HS6 := hide (HS4.out.ext hx6)
      clear hD hC hx6
      go_wp2_with fail
      have hxm : Ext w6 (w6.alloc (.cells #[.slice Ad (upS ts ts.length).length ed, .slice Ac [cumC ts cc].length ec] 38)) := (Ext.refl w6).alloc _
      refine (contained_any _ _ U (upS ts ts.length) _ (HS6.out.ext hxm) (HD.out.ext hxm) HSU.out HDU.out HDS.out).mono ?_
      rintro e w7 ⟨rfl, hx7⟩
      have hm0 : w7.cell? ⟨w6.heap.size, 0, none⟩ = some (.slice Ad (upS ts ts.length).length ed) := (hx7.cells _ _ (by simp)).trans (World.cell?_alloc_at _ _ _ _ rfl)
      have hm1 : w7.cell? ⟨w6.heap.size, 1, none⟩ = some (.slice Ac [cumC ts cc].length ec) := (hx7.cells _ _ (by simp)).trans (World.cell?_alloc_at _ _ _ _ rfl)
      have hml : w6.heap.size < w7.heap.size := by have := hx7.size; simp at this; omega
      have HE7 := hide (hxm.trans hx7)
      have HX7 := hide (HX6.out.trans (hxm.trans hx7))
      clear hxm hx7
      go_wp2_with fail
      refine (PropagateI_any _ (upS ts ts.length) [cumC ts cc] _ ⟨_, _, rfl, HD.out.ext HE7.out, HC.out.ext HE7.out⟩).mono ?_
      rintro e w8 ⟨A8, c8, b8, m8, f8, rfl, hc8, hd8, hb8, ho8, hx8⟩
      have HS8 := hide (SInts.own hc8 hd8 ho8 (fun i hi => by have := HDP.out i hi; unfold I64; omega))
      have HS78 := hide (HS6.out.ext (HE7.out.trans hx8))
      have HX8 := hide (HX7.out.trans hx8)
      clear ho8 hx8
      go_wp2_with fail
      refine (contained_any _ _ _ U _ HS8.out HS78.out HSP.out HDP.out HDU.out).mono ?_
      rintro e w9 ⟨rfl, hx9⟩
      have HX9 := hide (HX8.out.trans hx9)
      have HS9 := hide (HS78.out.ext hx9)
      have HT9 := hide (HS.out.ext HX9.out)
      clear hx9
      go_wp2_with (at_builtin; go_must (refine wpList_appTk _ rfl _ _ rfl ts _ _ rfl rfl (HT9.out.ext ((Ext.refl _).alloc _)) (by omega) (by omega) ?_); intro v10 W10 hR10 hx10)
      have hx11 := ((Ext.refl w9).alloc _).trans hx10
      obtain ⟨g, cp, rfl, -, hBg, -⟩ := id hR10
      rw [World.size_alloc] at hBg
      have HR10 := hide (show TkRow (w9.heap.size + 1) W10 _ (upT ts U 0) by rw [upT_zero]; rw [World.size_alloc] at hR10; exact hR10)
      have HX11 := hide hx11
      clear hR10 hx10 hx11
      go_wp2_with fail
      go_loopw [8] (fun i wr => ∃ k : Nat, k ≤ ts.length ∧ i = .int .i64 k ∧ TkRow (w9.heap.size + 1) wr (.slice (some ⟨g, 0, none⟩) ts.length cp) (upT ts U k) ∧ Ext w9 wr) (fun i _ => ts.length - (intOf i).toNat)
      case atStart => exact ⟨0, Nat.zero_le _, rfl, HR10.out, HX11.out⟩
      case round =>
        obtain ⟨k, hk, rfl, hr, hx⟩ := hrel
        have HR := hide hr
        have HX := hide hx
        have HSr := hide (HS9.out.ext hx)
        clear hr hx
        by_cases hlt : k < ts.length
        · have hkU : k < U.length := by rw [HLU.out]; exact hlt
          have hkI : (k : Int) < U.length := by omega
          obtain ⟨b, off, rfl, hbl, f1⟩ := HSr.out.at_ hkU
          obtain ⟨hgB, hgl, hk3⟩ := HR.out.cell0
          obtain ⟨hf3, hc3k⟩ := hk3 k (by rw [upT_len]; exact hlt)
          have hst := HR.out.put hlt
          have HST := hide hst
          have hxs := HX.out.set (p := ⟨g, k * 3, none⟩) (by show _ ≤ g; omega) (.int .i64 (at0 U k))
          have HXS := hide hxs
          clear hst hxs hk3
          go_wp2_with fail
          go_roundw
          case rel => exact ⟨k + 1, by omega, by go_num, HST.out, HXS.out⟩
          case measure => simp [intOf]; omega
        · obtain rfl : k = ts.length := by omega
          have hkI : ¬ ((ts.length : Int) < U.length) := by rw [HLU.out]; omega
          have h0l : 0 < U.length := by omega
          obtain ⟨b, off, rfl, hbl, f1⟩ := HSr.out.at_ h0l
          rw [Nat.add_zero] at f1
          by_cases hz : at0 U 0 = 0
          · have hzb : (at0 U 0 == 0) = true := by rw [hz]; rfl
            have HZ := hide hz
            clear hz
            go_wp2_with fail
            go_ret
            exact Ret.mk rfl (HX1.out.trans (HX9.out.trans HX.out))
          · have hzb : (at0 U 0 == 0) = false := by rw [beq_eq_false_iff_ne]; exact hz
            have HZ := hide hz
            clear hz
            go_wp2_with fail
            have hx1r := HX9.out.trans HX.out
            refine (TimetableI_any _ (upT ts U ts.length) cc _ (HR.out.tasks (by rw [upT_len]; omega) HII.out) (TzTab.ext HT1.out hb1 hx1r) (Nat.lt_of_lt_of_le hb1 hx1r.size)).mono ?_
            rw [HA.out HZ.out]
            rintro e w12 ⟨A12, c12, b12, m12, f12, rfl, hc12, hd12, hb12, ho12, hx12⟩
            have HS12 := hide (SInts.own hc12 hd12 ho12 HUB.out)
            have HSU12 := hide (HSr.out.ext hx12)
            have HX12 := hide (hx1r.trans hx12)
            clear ho12 hx12 hx1r f1
            go_wp2_with fail
            refine (equalInts_sameT _ _ _ _ HS12.out HSU12.out).mono ?_
            rintro e w13 ⟨rfl, hx13⟩
            have HX13 := hide (HX12.out.trans hx13)
            clear hx13
            go_wp2_with fail
            go_ret
            exact Ret.mk rfl (HX1.out.trans HX13.out)
end Go.Proofs.YtjpdebgejlfeaaaDoor
/- The law FnTimetable holds: timetable filtering is sound. No condition. -/
namespace Go.Proofs.YtjpdebgejlfeaaaDoor
open Go.ChangeShapes Go.WideShapes Go.ChangeAt Go.RowKit

theorem Tryd.ownFnTimetable : ownKnob Tryd.prog.godebug = none := by kernel_rfl
theorem Tryd.laidOutFnTimetable : laidOutB Tryd.prog = true := by kernel_rfl

abbrev bitsTabs {H : Type} : List (String × DataW H) := [("math/bits.deBruijn32tab", Rows.laid_math_bits_deBruijn32tab), ("math/bits.deBruijn64tab", Rows.laid_math_bits_deBruijn64tab)]
theorem Tryd.tab64 : Tryd.prog.globalNamed "math/bits.deBruijn64tab" = some 1 := by kernel_rfl
/-- The door's own heap meets the condition. -/
theorem door_met (os : Os) (args : Array Value) : laidMetH Tryd.prog bitsTabs ((World.doorLaid Tryd.prog 19 os).forCall (fun _ _ => 0) ⟨#[], args, []⟩).memory :=
  laidMetH_of_parts3 (fuel := 8) (laidMet_of_run' 8 (by kernel_rfl) (by kernel_rfl)) (by kernel_rfl) (by kernel_rfl)
/-- What the condition gives the walks. -/
theorem tz_of_laid {W : World} (h : laidMetH Tryd.prog bitsTabs W) : TzTab W ∧ 1 < W.heap.size := by
  rw [MakeChecks.laidMetH_plain _ _ _ (by kernel_rfl)] at h
  obtain ⟨ps, ⟨g0, t0, cs0, f0, p0, q0, hg0, ht0, hv0, hd0, ⟨g1, t1, cs1, f1, p1, q1, hg1, ht1, hv1, hd1, _, _⟩, _⟩, _, _⟩ := h
  obtain rfl := Option.some.inj (Tryd.tab64.symm.trans hg1)
  obtain rfl := Option.some.inj ((show (Tryd.prog.globals[1]?).map (·.type) = some 97 by kernel_rfl).symm.trans ht1)
  have hc := Lib.cells_of_tab (k := .u8) (zs := [0, 1, 56, 2, 57, 49, 28, 3, 61, 58, 42, 50, 38, 29, 17, 4, 62, 47, 59, 36, 45, 43, 51, 22, 53, 39, 33, 30, 24, 18, 12, 5, 63, 55, 48, 27, 60, 41, 37, 16, 46, 35, 44, 21, 52, 32, 23, 11, 54, 26, 40, 15, 34, 20, 31, 10, 25, 14, 19, 9, 13, 8, 7, 6]) Tryd.underlying97 Tryd.underlying5 (by kernel_rfl) (by kernel_rfl) hd1
  have hcell : ∀ i v, cs1[i]? = some v → W.cell? ⟨1, i, none⟩ = some v := fun i v hi => by rw [World.var?_cell hg1 hv1 i]; exact hi
  obtain ⟨l1⟩ := cs1
  have hc : l1 = _ := hc
  subst hc
  have h0 := hcell 0 _ rfl
  exact ⟨⟨h0, hcell 1 _ rfl, hcell 3 _ rfl, hcell 7 _ rfl, hcell 15 _ rfl, hcell 31 _ rfl⟩, by
    by_cases hlt : 1 < W.heap.size
    · exact hlt
    · have : W.heap[1]? = none := Array.getElem?_eq_none (by omega)
      simp [World.cell?, this] at h0⟩
set_option maxRecDepth 100000 in
theorem fnTimetable_lifted (os : Os) (started : os.Started) (H : Type) (enc : TypeId × Value → H) :
    ReturnsInHanded {} Tryd.checked os 4 .any (fun w args => (Rows.fnTimetableSpec.pre enc Tryd.prog Tryd.f4 [] false w args ∧ laidMetH Tryd.prog bitsTabs w) ∧ sizedMet enc Tryd.prog Tryd.f4 (OpenSpec.ofChange Rows.fnTimetableSpec) false w args) (Rows.fnTimetableSpec.post enc Tryd.prog Tryd.f4 false true false false) := by
  refine returnsInHanded_of_change_and (C := Tryd.checked) (X := fun w _ => laidMetH Tryd.prog bitsTabs w) (fun _ _ _ hh h => h.of_heap hh) Tryd.ownFnTimetable started (by kernel_rfl) Tryd.func4
    (ChangeSpec.witness_shaped (enc := enc) (C := Tryd.checked) (os := os) (X := fun w _ => laidMetH Tryd.prog bitsTabs w) false (World.doorLaid Tryd.prog 19 os) #[.slice none 0 0] 8 rfl (World.shaped_of_RefB (by kernel_rfl) (by kernel_rfl)) (by kernel_rfl) (by kernel_rfl) (by kernel_rfl) (door_met os _)) ?_
  intro W base args ds gs before hval0 hW hcnd hsz0 hL _
  obtain ⟨hTZ, hTB⟩ := tz_of_laid hL
  have hval : ∀ (j : Nat) t v, Tryd.f4.params[j]? = some t → args[j]? = some v → Value.okWide Tryd.prog W .any base t v := hval0
  have hsz : (DataW.weightsEach Tryd.prog (Tryd.f4.params.toList ++ Rows.fnTimetableSpec.plain.varTypes Tryd.prog) (ds ++ gs)).all (· ≤ reachBytes) = true := hsz0
  have hW' := hW
  obtain ⟨p, q, hA0, hV, rfl, hfz, hnd⟩ := hW
  have hA : DataW.TrodAll enc Tryd.prog W 0 (fun _ => true) true Tryd.f4.params.toList args.toList ds p := hA0
  rw [Tryd.params4] at hA hval hsz
  obtain ⟨v0, vs0, d0, ds0, p0, q0, hargs, rfl, rfl, h0, r0⟩ := trodAll_cons hA
  obtain ⟨rfl, rfl, rfl⟩ := trodAll_nil r0
  obtain rfl : args = #[v0] := by cases args; simp_all
  obtain ⟨rfl, rfl⟩ := trodVars_none hV
  have k0 := h0
  have lt0 : ∀ x ∈ p0, x.block < W.heap.size := by obtain ⟨m, hm⟩ := k0; exact DataW.trod_lt m _ _ _ hm
  obtain ⟨x0, hB0, hn0⟩ := bytes_of_trod Tryd.underlying33 Tryd.underlying5 (by kernel_rfl) (by kernel_rfl) (hval 0 33 v0 rfl rfl) h0
    (fun elems spare hd => sized_slice hsz (j := 0) (t := 33) (e := 5) rfl (by simp [hd]) Tryd.underlying33)
  clear hA0 hval0 hsz0
  refine (lawTimetP v0 x0 W hTZ hTB hB0 hn0).mono fun e W' ⟨he, bel⟩ => ?_
  subst he
  exact ⟨_, rfl, _, _, _, [], _, [], hW', trodAll_mk1 (shut_bool Tryd.underlying4 _), (trodAll_cons_mk (Below.trod Tryd.laidOutFnTimetable (by kernel_rfl) (of_decide_eq_true (by kernel_rfl)) k0 bel lt0) trodAll_mk0), rfl, Below.frame bel _, fun h => by cases h⟩

theorem fnTimetable_holds : Rows.FnTimetableSaid :=
  OpenClaim.holds_of_wide 4 Tryd.f4 rfl rfl rfl rfl rfl rfl rfl ⟨rfl, rfl, rfl, rfl, rfl⟩ rfl rfl rfl rfl rfl (by kernel_rfl) Tryd.func4 (by kernel_rfl)
    (of_decide_eq_true (by kernel_rfl)) (by unfold Func.isWrapper; first | (rw [if_pos (by decide +kernel)]; kernel_rfl) | (rw [if_neg (by decide +kernel)]; exact ⟨rfl, rfl⟩))
    (fun os started H enc _ => fnTimetable_lifted os started H enc)
/-- The tied card. -/
theorem fnTimetable_card : Rows.FnTimetableCardSaid :=
  Claim7.holds_tied_plain_at .later [] [.data, .data] true Rows.fnTimetableCard.stood.harness false
    fnTimetable_holds (fun _ h => by cases h) (by kernel_rfl) (fun _ h => by cases h) fnTimetable_row_tie rfl ⟨rfl, rfl⟩ (by kernel_rfl) rfl
    (fun f fn hf hfn => by
      obtain rfl : f = 4 := Option.some.inj ((show Tryd.prog.funcNamed "loop.example/constraintsolver/laws.FnTimetable" = some 4 by kernel_rfl).symm.trans hf) |>.symm
      obtain rfl : fn = Tryd.f4 := (Option.some.inj (Tryd.func4.symm.trans hfn)).symm
      exact ⟨by kernel_rfl, fun j t ht => by
        have hall : (Tryd.f4.params.toList.all fun u => !Tryd.prog.wantsStandIn u) = true := by kernel_rfl
        have hm : t ∈ Tryd.f4.params.toList := by simpa using Array.mem_of_getElem? ht
        exact (show Tryd.prog.wantsStandIn t = false by simpa using List.all_eq_true.1 hall t hm)⟩)
    (by kernel_rfl)
#print axioms fnTimetable_card
end Go.Proofs.YtjpdebgejlfeaaaDoor
