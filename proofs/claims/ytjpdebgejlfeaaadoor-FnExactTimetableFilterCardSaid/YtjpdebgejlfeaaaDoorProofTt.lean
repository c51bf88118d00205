/- The law FnExactTimetableFilter holds: the program's TimetableFilter returns what the reference's returns. No condition. -/
import Derived.Test.YtjpdebgejlfeaaaDoorLawTt
import Derived.Test.YtjpdebgejlfeaaaDoorOpnA
import Derived.Test.YtjpdebgejlfeaaaDoorTie
import Derived.Test.YtjpdebgejlfeaaaDoorCards
import Derived.Lib.LaidTab
import Derived.LaidMore
import Derived.ProofKit
import Derived.SevenTiedAt
import Derived.ShutString
import Derived.ChangeOld
namespace Go.Proofs.YtjpdebgejlfeaaaDoor
open Go.ChangeShapes Go.WideShapes Go.ChangeAt Go.RowKit

theorem Tryd.ownFnExactTimetableFilter : ownKnob Tryd.prog.godebug = none := by kernel_rfl
theorem Tryd.laidOutFnExactTimetableFilter : laidOutB Tryd.prog = true := by kernel_rfl

abbrev bitsTabs {H : Type} : List (String × DataW H) := [("math/bits.deBruijn32tab", Rows.laid_math_bits_deBruijn32tab), ("math/bits.deBruijn64tab", Rows.laid_math_bits_deBruijn64tab)]
theorem Tryd.tab64 : Tryd.prog.globalNamed "math/bits.deBruijn64tab" = some 1 := by kernel_rfl
/-- The door's own heap meets the condition. -/
theorem door_met (os : Os) (args : Array Value) : laidMetH Tryd.prog bitsTabs ((World.doorLaid Tryd.prog 19 os).forCall (fun _ _ => 0) ⟨#[], args, []⟩).memory :=
  laidMetH_of_parts3 (fuel := 8) (laidMet_of_run' 8 (by kernel_rfl) (by kernel_rfl)) (by kernel_rfl) (by kernel_rfl)
/-- What the condition gives the walks. -/
theorem tz_of_laid {W : World} (h : laidMetH Tryd.prog bitsTabs W) : TzTab W ∧ 1 < W.heap.size := by
  rw [MakeChecks.laidMetH_plain _ _ _ (by kernel_rfl)] at h
  obtain ⟨ps, ⟨g0, t0, cs0, f0, p0, q0, hg0, ht0, hv0, hd0, ⟨g1, t1, cs1, f1, p1, q1, hg1, ht1, hv1, hd1, _, _⟩, _⟩, _, _⟩ := h
  obtain rfl := Option.some.inj (Tryd.tab64.symm.trans hg1)
  obtain rfl := Option.some.inj ((show (Tryd.prog.globals[1]?).map (·.type) = some 97 by kernel_rfl).symm.trans ht1)
  have hc := Lib.cells_of_tab (k := .u8) (zs := [0, 1, 56, 2, 57, 49, 28, 3, 61, 58, 42, 50, 38, 29, 17, 4, 62, 47, 59, 36, 45, 43, 51, 22, 53, 39, 33, 30, 24, 18, 12, 5, 63, 55, 48, 27, 60, 41, 37, 16, 46, 35, 44, 21, 52, 32, 23, 11, 54, 26, 40, 15, 34, 20, 31, 10, 25, 14, 19, 9, 13, 8, 7, 6]) Tryd.underlying97 Tryd.underlying5 (by kernel_rfl) (by kernel_rfl) hd1
  have hcell : ∀ i v, cs1[i]? = some v → W.cell? ⟨1, i, none⟩ = some v := fun i v hi => by rw [World.var?_cell hg1 hv1 i]; exact hi
  obtain ⟨l1⟩ := cs1
  have hc : l1 = _ := hc
  subst hc
  have h0 := hcell 0 _ rfl
  exact ⟨⟨h0, hcell 1 _ rfl, hcell 3 _ rfl, hcell 7 _ rfl, hcell 15 _ rfl, hcell 31 _ rfl⟩, by
    by_cases hlt : 1 < W.heap.size
    · exact hlt
    · have : W.heap[1]? = none := Array.getElem?_eq_none (by omega)
      simp [World.cell?, this] at h0⟩
set_option maxRecDepth 100000 in
theorem fnExactTimetableFilter_lifted (os : Os) (started : os.Started) (H : Type) (enc : TypeId × Value → H) :
    ReturnsInHanded {} Tryd.checked os 3 .any (fun w args => (Rows.fnExactTimetableFilterSpec.pre enc Tryd.prog Tryd.f3 [] false w args ∧ laidMetH Tryd.prog bitsTabs w) ∧ sizedMet enc Tryd.prog Tryd.f3 (OpenSpec.ofChange Rows.fnExactTimetableFilterSpec) false w args) (Rows.fnExactTimetableFilterSpec.post enc Tryd.prog Tryd.f3 false true false false) := by
  refine returnsInHanded_of_change_and (C := Tryd.checked) (X := fun w _ => laidMetH Tryd.prog bitsTabs w) (fun _ _ _ hh h => h.of_heap hh) Tryd.ownFnExactTimetableFilter started (by kernel_rfl) Tryd.func3
    (ChangeSpec.witness_shaped (enc := enc) (C := Tryd.checked) (os := os) (X := fun w _ => laidMetH Tryd.prog bitsTabs w) false (World.doorLaid Tryd.prog 19 os) #[.slice none 0 0, .int .i64 0] 8 rfl (World.shaped_of_RefB (by kernel_rfl) (by kernel_rfl)) (by kernel_rfl) (by kernel_rfl) (by kernel_rfl) (door_met os _)) ?_
  intro W base args ds gs before hval0 hW hcnd hsz0 hL _
  obtain ⟨hTZ, hTB⟩ := tz_of_laid hL
  have hval : ∀ (j : Nat) t v, Tryd.f3.params[j]? = some t → args[j]? = some v → Value.okWide Tryd.prog W .any base t v := hval0
  have hsz : (DataW.weightsEach Tryd.prog (Tryd.f3.params.toList ++ Rows.fnExactTimetableFilterSpec.plain.varTypes Tryd.prog) (ds ++ gs)).all (· ≤ reachBytes) = true := hsz0
  have hW' := hW
  obtain ⟨p, q, hA0, hV, rfl, hfz, hnd⟩ := hW
  have hA : DataW.TrodAll enc Tryd.prog W 0 (fun _ => true) true Tryd.f3.params.toList args.toList ds p := hA0
  rw [Tryd.params3] at hA hval hsz
  obtain ⟨v0, vs0, d0, ds0, p0, q0, hargs, rfl, rfl, h0, r0⟩ := trodAll_cons hA
  obtain ⟨v1, vs1, d1, ds1, p1, q1, rfl, rfl, rfl, h1, r1⟩ := trodAll_cons r0
  obtain ⟨rfl, rfl, rfl⟩ := trodAll_nil r1
  obtain rfl : args = #[v0, v1] := by cases args; simp_all
  obtain ⟨rfl, rfl⟩ := trodVars_none hV
  have k0 := h0
  have lt0 : ∀ x ∈ p0, x.block < W.heap.size := by obtain ⟨m, hm⟩ := k0; exact DataW.trod_lt m _ _ _ hm
  obtain ⟨x0, hS0⟩ := tasks_of_trod Tryd.underlying22 Tryd.underlying48 (by kernel_rfl) (by kernel_rfl) rfl rfl rfl Tryd.underlying3 (by kernel_rfl) (hval 0 22 v0 rfl rfl) h0
    (fun elems spare hd => sized_slice hsz (j := 0) (t := 22) (e := 48) rfl (by simp [hd]) Tryd.underlying22)
  obtain ⟨x1, rfl, rfl, rfl, w1⟩ := open_int Tryd.underlying3 (hval 1 3 v1 rfl rfl) h1
  clear hA0 hval0 hsz0
  refine (lawTimet v0 x1 x0 W hTZ hTB hS0 (I64_of_wf w1)).mono fun e W' ⟨he, bel⟩ => ?_
  subst he
  exact ⟨_, rfl, _, _, _, [], _, [], hW', trodAll_mk1 (shut_bool Tryd.underlying4 _), (trodAll_cons_mk (Below.trod Tryd.laidOutFnExactTimetableFilter (by kernel_rfl) (of_decide_eq_true (by kernel_rfl)) k0 bel lt0) (trodAll_cons_mk (shut_int Tryd.underlying3 w1) trodAll_mk0)), rfl, Below.frame bel _, fun h => by cases h⟩

theorem fnExactTimetableFilter_holds : Rows.FnExactTimetableFilterSaid :=
  OpenClaim.holds_of_wide 3 Tryd.f3 rfl rfl rfl rfl rfl rfl rfl ⟨rfl, rfl, rfl, rfl, rfl⟩ rfl rfl rfl rfl rfl (by kernel_rfl) Tryd.func3 (by kernel_rfl)
    (of_decide_eq_true (by kernel_rfl)) (by unfold Func.isWrapper; first | (rw [if_pos (by decide +kernel)]; kernel_rfl) | (rw [if_neg (by decide +kernel)]; exact ⟨rfl, rfl⟩))
    (fun os started H enc _ => fnExactTimetableFilter_lifted os started H enc)
/-- The tied card. -/
theorem fnExactTimetableFilter_card : Rows.FnExactTimetableFilterCardSaid :=
  Claim7.holds_tied_plain_at .later [] [.data, .data] true Rows.fnExactTimetableFilterCard.stood.harness false
    fnExactTimetableFilter_holds (fun _ h => by cases h) (by kernel_rfl) (fun _ h => by cases h) fnExactTimetableFilter_row_tie rfl ⟨rfl, rfl⟩ (by kernel_rfl) rfl
    (fun f fn hf hfn => by
      obtain rfl : f = 3 := Option.some.inj ((show Tryd.prog.funcNamed "loop.example/constraintsolver/laws.FnExactTimetableFilter" = some 3 by kernel_rfl).symm.trans hf) |>.symm
      obtain rfl : fn = Tryd.f3 := (Option.some.inj (Tryd.func3.symm.trans hfn)).symm
      exact ⟨by kernel_rfl, fun j t ht => by
        have hall : (Tryd.f3.params.toList.all fun u => !Tryd.prog.wantsStandIn u) = true := by kernel_rfl
        have hm : t ∈ Tryd.f3.params.toList := by simpa using Array.mem_of_getElem? ht
        exact (show Tryd.prog.wantsStandIn t = false by simpa using List.all_eq_true.1 hall t hm)⟩)
    (by kernel_rfl)
#print axioms fnExactTimetableFilter_card
end Go.Proofs.YtjpdebgejlfeaaaDoor
