/- The program's test of an assignment. -/
import Derived.Test.YticallgbmmahjaaSolH
import Derived.Test.YticallgbmmahjaaFitK
namespace Go.Proofs.Yticallgbmmahjaa
open Go.RowKit

def solB (ds : List Int) (cs : List Con) (x : List Int) : Bool := vMod ds cs && ((decide ((x.length : Int) = ds.length) && allR x 0 5) && (memB ds x && okAll cs x))
theorem allR_val {x : List Int} (h : allR x 0 5 = true) : ValL x := fun i hi => by have := allR_at h hi; omega
set_option maxRecDepth 100000 in
set_option maxHeartbeats 4000000 in
theorem IsSolutionI_any (vd vc vx : Value) (ds : List Int) (cs : List Con) (x : List Int) (w : World) (hD : SInts w vd ds) (hC : SCons w vc cs) (hX : SInts w vx x) :
    Calls Try.prog 18 #[.agg #[vd, vc], vx] w (Ret (.bool (solB ds cs x)) w) := by
  have hD0 := hide hD
  have hC0 := hide hC
  have hX0 := hide hX
  obtain ⟨Ad, cd, rfl, -, hld⟩ := hD.form
  obtain ⟨Ac, cc, rfl, -, hlc⟩ := hC.form
  obtain ⟨Ax, cx, rfl, -, hlx⟩ := hX.form
  clear hD hC hX
  obtain ⟨w0, hw0⟩ : ∃ w0, w0 = w.alloc (.cells #[.slice Ad ds.length cd, .slice Ac cs.length cc] 35) := ⟨_, rfl⟩
  have hx0 : Ext w w0 := by rw [hw0]; exact (Ext.refl w).alloc _
  have k0 : w0.cell? ⟨w.heap.size, 0, none⟩ = some (.slice Ad ds.length cd) := by rw [hw0]; go_simp
  have k1 : w0.cell? ⟨w.heap.size, 1, none⟩ = some (.slice Ac cs.length cc) := by rw [hw0]; go_simp
  have ks : w.heap.size < w0.heap.size := by rw [hw0]; simp
  have HX0 := hide hx0
  clear hx0
  cases hm : vMod ds cs with
  | false =>
    have HR := hide (show solB ds cs x = false by rw [solB, hm]; rfl)
    go_enter Try.func18, Try.ntmps18
    go_wp2_with fail
    try rw [← hw0]
    clear hw0
    refine (ValidModelI_any _ _ ds cs _ (hD0.out.ext HX0.out) (hC0.out.ext HX0.out) (fun i _ => fits_all (con0 cs i))).mono ?_
    rintro e w1 ⟨rfl, hx1⟩
    rw [hm]
    have HX1 := hide (HX0.out.trans hx1)
    clear hx1
    go_wp2_with fail
    go_ret
    exact Ret.mk (ret_b HR.out.symm) HX1.out
  | true =>
    cases ha : (decide ((x.length : Int) = ds.length) && allR x 0 5) with
    | false =>
      have HR := hide (show solB ds cs x = false by rw [solB, hm, ha]; rfl)
      go_enter Try.func18, Try.ntmps18
      go_wp2_with fail
      try rw [← hw0]
      clear hw0
      refine (ValidModelI_any _ _ ds cs _ (hD0.out.ext HX0.out) (hC0.out.ext HX0.out) (fun i _ => fits_all (con0 cs i))).mono ?_
      rintro e w1 ⟨rfl, hx1⟩
      rw [hm]
      have k0 := (hx1.cells _ _ ks).trans k0
      have k1 := (hx1.cells _ _ ks).trans k1
      have HX1 := hide (HX0.out.trans hx1)
      clear hx1
      go_wp2_with fail
      refine (assigned_any _ x _ _ (hX0.out.ext HX1.out)).mono ?_
      rintro e w2 ⟨rfl, hx2⟩
      rw [ha]
      have HX2 := hide (HX1.out.trans hx2)
      clear hx2
      go_wp2_with fail
      go_ret
      exact Ret.mk (ret_b HR.out.symm) HX2.out
    | true =>
      have h1 : (x.length : Int) = ds.length ∧ allR x 0 5 = true := by simpa using ha
      have HR := hide (show solB ds cs x = (memB ds x && okAll cs x) by rw [solB, hm, ha]; rfl)
      obtain ⟨hg, hp, h4⟩ := vMod_good hm
      have HG := hide hg
      have HV := hide (allR_val h1.2)
      have HL := hide (show x.length = ds.length by omega)
      clear h1 hg
      go_enter Try.func18, Try.ntmps18
      go_wp2_with fail
      try rw [← hw0]
      clear hw0
      refine (ValidModelI_any _ _ ds cs _ (hD0.out.ext HX0.out) (hC0.out.ext HX0.out) (fun i _ => fits_all (con0 cs i))).mono ?_
      rintro e w1 ⟨rfl, hx1⟩
      rw [hm]
      have ks1 := Nat.lt_of_lt_of_le ks hx1.size
      have k0 := (hx1.cells _ _ ks).trans k0
      have k1 := (hx1.cells _ _ ks).trans k1
      have HX1 := hide (HX0.out.trans hx1)
      clear hx1
      go_wp2_with fail
      refine (assigned_any _ x _ _ (hX0.out.ext HX1.out)).mono ?_
      rintro e w2 ⟨rfl, hx2⟩
      rw [ha]
      have k0 := (hx2.cells _ _ ks1).trans k0
      have k1 := (hx2.cells _ _ ks1).trans k1
      have HX2 := hide (HX1.out.trans hx2)
      clear hx2
      go_wp2_with fail
      refine (isSolution_any _ _ x ds cs _ ⟨_, _, rfl, hD0.out.ext HX2.out, hC0.out.ext HX2.out⟩ (hX0.out.ext HX2.out) HG.out HL.out h4 HV.out).mono ?_
      rintro e w3 ⟨rfl, hx3⟩
      have HX3 := hide (HX2.out.trans hx3)
      clear hx3
      go_wp2_with fail
      go_ret
      exact Ret.mk (ret_b HR.out.symm) HX3.out
end Go.Proofs.Yticallgbmmahjaa
