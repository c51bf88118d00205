/- The walk of the law FnShavedBound: it returns true. -/
import Derived.Test.YtalgilgfoekioaaGreatDoorQ30
import Derived.Test.YtalgilgfoekioaaGreatDoorSbD
import Derived.Test.YtalgilgfoekioaaGreatDoorOpnA
import Derived.Test.YtalgilgfoekioaaGreatDoorTie
import Derived.Test.YtalgilgfoekioaaGreatDoorCards
import Derived.Lib.LaidTab
import Derived.LaidMore
import Derived.ProofKit
import Derived.SevenTiedAt
import Derived.ShutString
import Derived.ChangeOld
namespace Go.Proofs.YtalgilgfoekioaaGreatDoor
open Go.RowKit

set_option maxRecDepth 100000 in
set_option maxHeartbeats 16000000 in
theorem lawShavedP (v : Value) (n : Nat) (w : World) (hT : TzTab w) (hb : 1 < w.heap.size) (hB : SBytes w v n) (_hn : n ≤ 140737488351232) :
    Calls Tryz.prog 3 #[v] w (Ret (.bool true) w) := by
  have HB := hide hB
  have HT := hide hT
  clear hT
  obtain ⟨A, c, rfl, -⟩ := hB
  by_cases hl : (1048576 : Int) < n
  · go_enter Tryz.func3, Tryz.ntmps3
    go_wp2
    go_ret
    exact Ret.mk rfl (Ext.refl _)
  · go_enter Tryz.func3, Tryz.ntmps3
    go_wp2_with fail
    refine (DrawShavedBound_any _ n _ HB.out).mono ?_
    rintro e wd ⟨vd, vc, ds, cs, vo, obj, rfl, hD, hC, hd1, hd4, hO, hx1⟩
    obtain ⟨Ad, cd, rfl, -, hld⟩ := hD.form
    obtain ⟨Ac, cc, rfl, -, hlc⟩ := hC.form
    obtain ⟨Ao, co, rfl, -, hlo⟩ := hO.form
    have HX1 := hide hx1
    have HD1 := hide hD
    have HC1 := hide hC
    have HO1 := hide hO
    clear hx1 hD hC hO
    go_upto_region 4 with fail
    obtain ⟨w0, hw0⟩ : ∃ w0, w0 = wd.alloc (.cells #[.slice Ad ds.length cd, .slice Ac cs.length cc] 26) := ⟨_, rfl⟩
    obtain ⟨qm, hqm⟩ : ∃ q, q = wd.heap.size := ⟨_, rfl⟩
    have hx0 : Ext wd w0 := by rw [hw0]; exact (Ext.refl wd).alloc _
    have k0 : w0.cell? ⟨qm, 0, none⟩ = some (.slice Ad ds.length cd) := by rw [hw0, hqm]; go_simp
    have k1 : w0.cell? ⟨qm, 1, none⟩ = some (.slice Ac cs.length cc) := by rw [hw0, hqm]; go_simp
    have ks : qm < w0.heap.size := by rw [hw0, hqm]; simp
    rw [← hw0, ← hqm]
    clear hw0 hqm
    have HX0 := hide (HX1.out.trans hx0)
    have HM := hide (show SMod w0 (.agg #[.slice Ad ds.length cd, .slice Ac cs.length cc]) ds cs from ⟨_, _, rfl, HD1.out.ext hx0, HC1.out.ext hx0⟩)
    have HO := hide (HO1.out.ext hx0)
    have HT0 := hide (TzTab.ext HT.out hb HX0.out)
    have hb0 := Nat.lt_of_lt_of_le hb HX0.out.size
    clear hx0 HX1 HD1 HC1 HO1 HT
    obtain ⟨ri, hri⟩ : ∃ r, r = sbI ds cs obj := ⟨_, rfl⟩
    obtain ⟨rg, hrg⟩ : ∃ r, r = sbG ds cs obj := ⟨_, rfl⟩
    obtain ⟨li, hli⟩ : ∃ r, r = lwI ds cs obj := ⟨_, rfl⟩
    obtain ⟨lg, hlg⟩ : ∃ r, r = lwG ds cs obj := ⟨_, rfl⟩
    obtain ⟨mo, hmo⟩ : ∃ r, r = mnO ds cs obj := ⟨_, rfl⟩
    have HRI := hide hri
    have HRG := hide hrg
    have HLI := hide hli
    have HLG := hide hlg
    have HMO := hide hmo
    have HOX := hide (show ∀ x, mo = some x → obj.length = x.length ∧ allR obj (-9) 9 = true ∧ ValL x ∧ x.length ≤ 4 from fun x hx => by
      rw [hmo] at hx
      obtain ⟨q1, q2, q3, q4, q5⟩ := mnO_ok hx
      exact ⟨q1, q2, q3, q4⟩)
    clear hri hrg hli hlg hmo
    have hgg : (rg != rg) = false := by simp
    have hii : (ri != ri) = false := by simp
    have HXW := hide (Ext.refl w0)
    go_wp2_with fail
    refine (ShavedBoundI_any _ _ ds cs obj _ HM.out HO.out HT0.out hb0).mono ?_
    rw [← HRI.out, ← HRG.out]
    rintro e w1 ⟨rfl, hx⟩
    have HXW := hide hx
    have k0 := (hx.cells _ _ ks).trans k0
    have k1 := (hx.cells _ _ ks).trans k1
    have ks := Nat.lt_of_lt_of_le ks hx.size
    clear hx
    go_wp2_with fail
    refine (ShavedBoundS_any _ _ ds cs obj _ (HM.out.ext HXW.out) (HO.out.ext HXW.out)).mono ?_
    rw [← HRI.out, ← HRG.out]
    rintro e w2 ⟨rfl, hx⟩
    have HXW := hide (HXW.out.trans hx)
    have k0 := (hx.cells _ _ ks).trans k0
    have k1 := (hx.cells _ _ ks).trans k1
    have ks := Nat.lt_of_lt_of_le ks hx.size
    clear hx
    go_wp2_with fail
    refine (LowerBoundI_any _ _ ds cs obj _ (HM.out.ext HXW.out) (HO.out.ext HXW.out) (TzTab.ext HT0.out hb0 HXW.out) (Nat.lt_of_lt_of_le hb0 HXW.out.size)).mono ?_
    rw [← HLI.out, ← HLG.out]
    rintro e w3 ⟨rfl, hx⟩
    have HXW := hide (HXW.out.trans hx)
    have k0 := (hx.cells _ _ ks).trans k0
    have k1 := (hx.cells _ _ ks).trans k1
    have ks := Nat.lt_of_lt_of_le ks hx.size
    clear hx
    go_wp2_with fail
    refine (MinimizeI_any _ _ ds obj cs _ (HM.out.ext HXW.out) (HO.out.ext HXW.out)).mono ?_
    rw [← HMO.out]
    rintro e w4 ⟨vx, rfl, hres⟩
    have HRES := hide hres
    have hx : Ext w3 w4 := by obtain ⟨_, _, _, _, _, _, _, _, _, _, hx⟩ := hres; exact hx
    obtain ⟨Ax, cx, bx, mx, fx, hvx, -⟩ := hres
    injection hvx with hvx
    subst hvx
    have HXW := hide (HXW.out.trans hx)
    clear hx k0 k1
    cases hg : rg with
    | false =>
      have hno : mo = none := by rw [HMO.out]; exact sb_no (by rw [← HRG.out]; exact hg)
      subst hno
      subst hg
      have HXF := hide (HX0.out.trans HXW.out)
      go_wp2_with fail
      go_ret
      exact Ret.mk rfl HXF.out
    | true =>
      obtain ⟨y1, y2, y3⟩ := sb_yes (ds := ds) (cs := cs) (obj := obj) (by rw [← HRG.out]; exact hg)
      rw [← HLG.out] at y1
      rw [← HLI.out, ← HRI.out] at y2
      have HY3 := hide y3
      have hge : li ≤ ri := y2
      subst hg
      subst y1
      clear y2 y3
      have HXF := hide (HX0.out.trans HXW.out)
      cases hm : mo with
      | none =>
        subst hm
        go_wp2_with fail
        go_ret
        exact Ret.mk rfl HXF.out
      | some x =>
        obtain ⟨l1, l2, l3, l4⟩ := HOX.out x hm
        have hle := (HY3.out x (by rw [← HMO.out]; exact hm)).2.2
        rw [← HRI.out] at hle
        have HSX := hide (show SInts w4 (.slice Ax x.length cx) x by
          have h := HRES.out
          rw [hm] at h
          obtain ⟨A2, c2, b2, m2, f2, e2, hc2, hd2, hb2, ho2, -⟩ := h
          injection e2 with e2
          have e3 : Value.slice Ax x.length cx = .slice A2 x.length c2 := e2
          rw [e3]
          exact SInts.own hc2 hd2 ho2 (fun i hi => by have := l3 i hi; unfold I64; omega))
        subst hm
        simp only [Option.getD_some, Option.isSome_some]
        have HL1 := hide l1
        have HL2 := hide l2
        have HL3 := hide l3
        obtain ⟨ov, hov⟩ : ∃ o, o = wsum obj x x.length := ⟨_, rfl⟩
        have HOV := hide hov
        rw [← hov] at hle
        clear l1 l2 l3 hov
        go_wp2_with fail
        refine (ObjectiveValueI_any _ _ obj x _ (HO.out.ext HXW.out) HSX.out HL2.out HL3.out HL1.out l4).mono ?_
        rw [← HOV.out]
        rintro e w5 ⟨rfl, hx⟩
        have HXF := hide (HXF.out.trans hx)
        clear hx
        go_wp2_with fail
        go_ret
        exact Ret.mk rfl HXF.out
end Go.Proofs.YtalgilgfoekioaaGreatDoor
/- The law FnShavedBound holds: shaving improves the lower bound. No condition. -/
namespace Go.Proofs.YtalgilgfoekioaaGreatDoor
open Go.ChangeShapes Go.WideShapes Go.ChangeAt Go.RowKit

theorem Tryz.ownFnShavedBound : ownKnob Tryz.prog.godebug = none := by kernel_rfl
theorem Tryz.laidOutFnShavedBound : laidOutB Tryz.prog = true := by kernel_rfl

abbrev bitsTabs {H : Type} : List (String × DataW H) := [("math/bits.deBruijn32tab", Rows.laid_math_bits_deBruijn32tab), ("math/bits.deBruijn64tab", Rows.laid_math_bits_deBruijn64tab)]
theorem Tryz.tab64 : Tryz.prog.globalNamed "math/bits.deBruijn64tab" = some 1 := by kernel_rfl
/-- The door's own heap meets the condition. -/
theorem door_met (os : Os) (args : Array Value) : laidMetH Tryz.prog bitsTabs ((World.doorLaid Tryz.prog 19 os).forCall (fun _ _ => 0) ⟨#[], args, []⟩).memory :=
  laidMetH_of_parts3 (fuel := 8) (laidMet_of_run' 8 (by kernel_rfl) (by kernel_rfl)) (by kernel_rfl) (by kernel_rfl)
/-- What the condition gives the walks. -/
theorem tz_of_laid {W : World} (h : laidMetH Tryz.prog bitsTabs W) : TzTab W ∧ 1 < W.heap.size := by
  rw [MakeChecks.laidMetH_plain _ _ _ (by kernel_rfl)] at h
  obtain ⟨ps, ⟨g0, t0, cs0, f0, p0, q0, hg0, ht0, hv0, hd0, ⟨g1, t1, cs1, f1, p1, q1, hg1, ht1, hv1, hd1, _, _⟩, _⟩, _, _⟩ := h
  obtain rfl := Option.some.inj (Tryz.tab64.symm.trans hg1)
  obtain rfl := Option.some.inj ((show (Tryz.prog.globals[1]?).map (·.type) = some 98 by kernel_rfl).symm.trans ht1)
  have hc := Lib.cells_of_tab (k := .u8) (zs := [0, 1, 56, 2, 57, 49, 28, 3, 61, 58, 42, 50, 38, 29, 17, 4, 62, 47, 59, 36, 45, 43, 51, 22, 53, 39, 33, 30, 24, 18, 12, 5, 63, 55, 48, 27, 60, 41, 37, 16, 46, 35, 44, 21, 52, 32, 23, 11, 54, 26, 40, 15, 34, 20, 31, 10, 25, 14, 19, 9, 13, 8, 7, 6]) Tryz.underlying98 Tryz.underlying5 (by kernel_rfl) (by kernel_rfl) hd1
  have hcell : ∀ i v, cs1[i]? = some v → W.cell? ⟨1, i, none⟩ = some v := fun i v hi => by rw [World.var?_cell hg1 hv1 i]; exact hi
  obtain ⟨l1⟩ := cs1
  have hc : l1 = _ := hc
  subst hc
  have h0 := hcell 0 _ rfl
  exact ⟨⟨h0, hcell 1 _ rfl, hcell 3 _ rfl, hcell 7 _ rfl, hcell 15 _ rfl, hcell 31 _ rfl⟩, by
    by_cases hlt : 1 < W.heap.size
    · exact hlt
    · have : W.heap[1]? = none := Array.getElem?_eq_none (by omega)
      simp [World.cell?, this] at h0⟩
set_option maxRecDepth 100000 in
theorem fnShavedBound_lifted (os : Os) (started : os.Started) (H : Type) (enc : TypeId × Value → H) :
    ReturnsInHanded {} Tryz.checked os 3 .any (fun w args => (Rows.fnShavedBoundSpec.pre enc Tryz.prog Tryz.f3 [] false w args ∧ laidMetH Tryz.prog bitsTabs w) ∧ sizedMet enc Tryz.prog Tryz.f3 (OpenSpec.ofChange Rows.fnShavedBoundSpec) false w args) (Rows.fnShavedBoundSpec.post enc Tryz.prog Tryz.f3 false true false false) := by
  refine returnsInHanded_of_change_and (C := Tryz.checked) (X := fun w _ => laidMetH Tryz.prog bitsTabs w) (fun _ _ _ hh h => h.of_heap hh) Tryz.ownFnShavedBound started (by kernel_rfl) Tryz.func3
    (ChangeSpec.witness_shaped (enc := enc) (C := Tryz.checked) (os := os) (X := fun w _ => laidMetH Tryz.prog bitsTabs w) false (World.doorLaid Tryz.prog 19 os) #[.slice none 0 0] 8 rfl (World.shaped_of_RefB (by kernel_rfl) (by kernel_rfl)) (by kernel_rfl) (by kernel_rfl) (by kernel_rfl) (door_met os _)) ?_
  intro W base args ds gs before hval0 hW hcnd hsz0 hL _
  obtain ⟨hTZ, hTB⟩ := tz_of_laid hL
  have hval : ∀ (j : Nat) t v, Tryz.f3.params[j]? = some t → args[j]? = some v → Value.okWide Tryz.prog W .any base t v := hval0
  have hsz : (DataW.weightsEach Tryz.prog (Tryz.f3.params.toList ++ Rows.fnShavedBoundSpec.plain.varTypes Tryz.prog) (ds ++ gs)).all (· ≤ reachBytes) = true := hsz0
  have hW' := hW
  obtain ⟨p, q, hA0, hV, rfl, hfz, hnd⟩ := hW
  have hA : DataW.TrodAll enc Tryz.prog W 0 (fun _ => true) true Tryz.f3.params.toList args.toList ds p := hA0
  rw [Tryz.params3] at hA hval hsz
  obtain ⟨v0, vs0, d0, ds0, p0, q0, hargs, rfl, rfl, h0, r0⟩ := trodAll_cons hA
  obtain ⟨rfl, rfl, rfl⟩ := trodAll_nil r0
  obtain rfl : args = #[v0] := by cases args; simp_all
  obtain ⟨rfl, rfl⟩ := trodVars_none hV
  have k0 := h0
  have lt0 : ∀ x ∈ p0, x.block < W.heap.size := by obtain ⟨m, hm⟩ := k0; exact DataW.trod_lt m _ _ _ hm
  obtain ⟨x0, hB0, hn0⟩ := bytes_of_trod Tryz.underlying22 Tryz.underlying5 (by kernel_rfl) (by kernel_rfl) (hval 0 22 v0 rfl rfl) h0
    (fun elems spare hd => sized_slice hsz (j := 0) (t := 22) (e := 5) rfl (by simp [hd]) Tryz.underlying22)
  clear hA0 hval0 hsz0
  refine (lawShavedP v0 x0 W hTZ hTB hB0 hn0).mono fun e W' ⟨he, bel⟩ => ?_
  subst he
  exact ⟨_, rfl, _, _, _, [], _, [], hW', trodAll_mk1 (shut_bool Tryz.underlying4 _), (trodAll_cons_mk (Below.trod Tryz.laidOutFnShavedBound (by kernel_rfl) (of_decide_eq_true (by kernel_rfl)) k0 bel lt0) trodAll_mk0), rfl, Below.frame bel _, fun h => by cases h⟩

theorem fnShavedBound_holds : Rows.FnShavedBoundSaid :=
  OpenClaim.holds_of_wide 3 Tryz.f3 rfl rfl rfl rfl rfl rfl rfl ⟨rfl, rfl, rfl, rfl, rfl⟩ rfl rfl rfl rfl rfl (by kernel_rfl) Tryz.func3 (by kernel_rfl)
    (of_decide_eq_true (by kernel_rfl)) (by unfold Func.isWrapper; first | (rw [if_pos (by decide +kernel)]; kernel_rfl) | (rw [if_neg (by decide +kernel)]; exact ⟨rfl, rfl⟩))
    (fun os started H enc _ => fnShavedBound_lifted os started H enc)
/-- The tied card. -/
theorem fnShavedBound_card : Rows.FnShavedBoundCardSaid :=
  Claim7.holds_tied_plain_at .later [] [.data, .data] true Rows.fnShavedBoundCard.stood.harness false
    fnShavedBound_holds (fun _ h => by cases h) (by kernel_rfl) (fun _ h => by cases h) fnShavedBound_row_tie rfl ⟨rfl, rfl⟩ (by kernel_rfl) rfl
    (fun f fn hf hfn => by
      obtain rfl : f = 3 := Option.some.inj ((show Tryz.prog.funcNamed "loop.example/constraintsolver/laws.FnShavedBound" = some 3 by kernel_rfl).symm.trans hf) |>.symm
      obtain rfl : fn = Tryz.f3 := (Option.some.inj (Tryz.func3.symm.trans hfn)).symm
      exact ⟨by kernel_rfl, fun j t ht => by
        have hall : (Tryz.f3.params.toList.all fun u => !Tryz.prog.wantsStandIn u) = true := by kernel_rfl
        have hm : t ∈ Tryz.f3.params.toList := by simpa using Array.mem_of_getElem? ht
        exact (show Tryz.prog.wantsStandIn t = false by simpa using List.all_eq_true.1 hall t hm)⟩)
    (by kernel_rfl)
#print axioms fnShavedBound_card
end Go.Proofs.YtalgilgfoekioaaGreatDoor
