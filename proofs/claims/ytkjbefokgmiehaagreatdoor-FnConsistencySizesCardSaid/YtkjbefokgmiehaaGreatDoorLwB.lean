/- What the laws call: Backbone of the program; the model with other domains is valid. -/
import Derived.Test.YtkjbefokgmiehaaGreatDoorLwX
import Derived.Test.YtkjbefokgmiehaaGreatDoorBbW
namespace Go.Proofs.YtkjbefokgmiehaaGreatDoor
open Go.RowKit

set_option maxRecDepth 100000 in
set_option maxHeartbeats 4000000 in
theorem BackboneI_any (v : Value) (ds : List Int) (cs : List Con) (w : World) (hM : SMod w v ds cs) :
    Calls Tryz.prog 19 #[v] w (OwnRes (bbV ds cs) w) := by
  have hM0 := hide hM
  obtain ⟨ve, vc, rfl, hE, hC⟩ := hM
  obtain ⟨Ae, ce, rfl, -, hle⟩ := hE.form
  obtain ⟨Ac, cc, rfl, -, hlc⟩ := hC.form
  obtain ⟨w0, hw0⟩ : ∃ w0, w0 = w.alloc (.cells #[.slice Ae ds.length ce, .slice Ac cs.length cc] 26) := ⟨_, rfl⟩
  have hx0 : Ext w w0 := by rw [hw0]; exact (Ext.refl w).alloc _
  have k0 : w0.cell? ⟨w.heap.size, 0, none⟩ = some (.slice Ae ds.length ce) := by rw [hw0]; go_simp
  have k1 : w0.cell? ⟨w.heap.size, 1, none⟩ = some (.slice Ac cs.length cc) := by rw [hw0]; go_simp
  have ks : w.heap.size < w0.heap.size := by rw [hw0]; simp
  have HX0 := hide hx0
  have hE0 := hide (hE.ext hx0)
  have hC0 := hide (hC.ext hx0)
  clear hE hC hx0
  go_enter Tryz.func19, Tryz.ntmps19
  go_wp2_with fail
  rw [← hw0]
  clear hw0
  refine (ValidModelI_any _ _ ds cs _ hE0.out hC0.out (fun i _ => fits_all _)).mono ?_
  rintro e w1 ⟨rfl, hx1⟩
  have HX1 := hide (HX0.out.trans hx1)
  have k0 := (hx1.cells _ _ ks).trans k0
  have k1 := (hx1.cells _ _ ks).trans k1
  clear hx1
  cases hv : vMod ds cs with
  | false =>
    have HV := hide (show bbV ds cs = [] by rw [bbV, hv]; rfl)
    clear hv
    go_wp2
    go_ret
    rw [HV.out]
    exact OwnRes.nil_ rfl HX1.out
  | true =>
    have HV := hide (show bbV ds cs = bbL cs ds by rw [bbV, hv]; rfl)
    obtain ⟨hG, hp, h4⟩ := vMod_good hv
    have HG := hide hG
    clear hv hG
    go_wp2_with fail
    refine (backboneI_any _ ds cs _ (hM0.out.ext HX1.out) HG.out hp h4).mono ?_
    rintro e w2 hres
    have HRES := hide (show OwnRes (bbV ds cs) w e w2 by rw [HV.out]; exact OwnRes.from hres HX1.out)
    obtain ⟨A3, c3, b3, m3, f3, rfl, -⟩ := hres
    obtain ⟨L, hL⟩ : ∃ L, L = (bbL cs ds).length := ⟨_, rfl⟩
    rw [← hL] at HRES ⊢
    clear hL
    go_wp2
    go_ret
    exact HRES.out
end Go.Proofs.YtkjbefokgmiehaaGreatDoor
