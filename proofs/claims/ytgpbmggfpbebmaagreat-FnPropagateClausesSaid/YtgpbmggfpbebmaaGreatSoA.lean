/- The program's list of the first solutions. -/
import Derived.Test.YtgpbmggfpbebmaaGreatSolW
import Derived.Test.YtgpbmggfpbebmaaGreatFitK
namespace Go.Proofs.YtgpbmggfpbebmaaGreat
open Go.RowKit

theorem SRows.clip9 {w : World} {A : Option Addr} {n c : Nat} {rs : List (List Int)} (h : SRows w (.slice A n c) rs) (k : Nat) (hk : k ≤ rs.length) : SRows w (.slice A k k) (rs.take k) := by
  obtain ⟨A', c', e1, h2, h3, h5⟩ := h
  injection e1 with e1 e2 e3
  subst e1 e3
  have hl : (rs.take k).length = k := by rw [List.length_take]; omega
  refine ⟨A, k, by rw [hl], by rw [hl]; exact Nat.le_refl _, by rw [hl]; omega, fun hp => ?_⟩
  rw [hl] at hp ⊢
  obtain ⟨b, off, e, hb, hc⟩ := h5 (by omega)
  refine ⟨b, off, e, hb, fun i hi => ?_⟩
  obtain ⟨rv, q1, q2⟩ := hc i (by omega)
  refine ⟨rv, q1, ?_⟩
  have : rw0 (rs.take k) i = rw0 rs i := by
    unfold rw0
    rw [getD_lt _ _ (by omega), getD_lt _ _ (by omega), List.getElem_take]
  rw [this]; exact q2
theorem SRows.nil9 (w : World) : SRows w (.slice none 0 0) [] := ⟨none, 0, rfl, Nat.le_refl _, by simp, fun hp => absurd hp (by simp)⟩
theorem AppRS.cap9 {S : Nat → Prop} {w : World} {A : Option Addr} {n c : Nat} {rs : List (List Int)} (h : AppRS S w (.slice A n c) rs) : c ≤ 9223372036854775807 := by
  obtain ⟨cells, h1, -, -⟩ := h
  rcases h1.2 with ⟨e1, -⟩ | ⟨g, cap, cur, e1, -, -, -, hm, -, -⟩
  · injection e1 with _ _ e; omega
  · injection e1 with _ _ e
    unfold maxLen at hm
    omega
/-- The first twenty solutions of a valid model. -/
def soAll (ds : List Int) (cs : List Con) : List (List Int) := if vMod ds cs then (solL cs ds).take 20 else []
def SoRes (rs : List (List Int)) (w : World) (e : Ending) (w' : World) : Prop := ∃ A c, e = .returned (.slice A rs.length c) ∧ SRows w' (.slice A rs.length c) rs ∧ Ext w w'
theorem ClipRS_any (A : Option Addr) (m c : Nat) (w : World) (hle : m ≤ c) (_hc : c ≤ 9223372036854775807) : Calls Tryz.prog 25 #[.slice A m c] w fun e w' => e = .returned (.slice A m m) ∧ w = w' := by
  go_enter Tryz.func25, Tryz.ntmps25
  go_wp2
  go_ret
  exact ⟨rfl, rfl⟩
set_option maxRecDepth 100000 in
set_option maxHeartbeats 4000000 in
theorem SolveAllI_any (vd vc : Value) (ds : List Int) (cs : List Con) (w : World) (hD : SInts w vd ds) (hC : SCons w vc cs) :
    Calls Tryz.prog 8 #[.agg #[vd, vc], .int .i64 20] w (SoRes (soAll ds cs) w) := by
  have hD0 := hide hD
  have hC0 := hide hC
  obtain ⟨Ad, cd, rfl, -, hld⟩ := hD.form
  obtain ⟨Ac, cc, rfl, -, hlc⟩ := hC.form
  clear hD hC
  obtain ⟨w0, hw0⟩ : ∃ w0, w0 = w.alloc (.cells #[.slice Ad ds.length cd, .slice Ac cs.length cc] 26) := ⟨_, rfl⟩
  have hx0 : Ext w w0 := by rw [hw0]; exact (Ext.refl w).alloc _
  have k0 : w0.cell? ⟨w.heap.size, 0, none⟩ = some (.slice Ad ds.length cd) := by rw [hw0]; go_simp
  have k1 : w0.cell? ⟨w.heap.size, 1, none⟩ = some (.slice Ac cs.length cc) := by rw [hw0]; go_simp
  have ks : w.heap.size < w0.heap.size := by rw [hw0]; simp
  have HX0 := hide hx0
  clear hx0
  cases hm : vMod ds cs with
  | false =>
    have HR := hide (show soAll ds cs = [] by rw [soAll, hm]; rfl)
    go_enter Tryz.func8, Tryz.ntmps8
    go_wp2_with fail
    try rw [← hw0]
    clear hw0
    refine (ValidModelI_any _ _ ds cs _ (hD0.out.ext HX0.out) (hC0.out.ext HX0.out) (fun i _ => fits_all (con0 cs i))).mono ?_
    rintro e w1 ⟨rfl, hx1⟩
    rw [hm]
    have HX1 := hide (HX0.out.trans hx1)
    clear hx1
    go_wp2_with fail
    go_ret
    exact ⟨none, 0, by rw [HR.out]; rfl, by rw [HR.out]; exact SRows.nil9 _, HX1.out⟩
  | true =>
    have HR := hide (show soAll ds cs = (solL cs ds).take 20 by rw [soAll, hm]; rfl)
    obtain ⟨hg, hp, h4⟩ := vMod_good hm
    have HG := hide hg
    clear hg
    have h20 : inR 20 0 20 = true := by decide
    go_enter Tryz.func8, Tryz.ntmps8
    go_wp2_with fail
    try rw [← hw0]
    clear hw0
    refine (ValidModelI_any _ _ ds cs _ (hD0.out.ext HX0.out) (hC0.out.ext HX0.out) (fun i _ => fits_all (con0 cs i))).mono ?_
    rintro e w1 ⟨rfl, hx1⟩
    rw [hm]
    have k0 := (hx1.cells _ _ ks).trans k0
    have k1 := (hx1.cells _ _ ks).trans k1
    have HX1 := hide (HX0.out.trans hx1)
    clear hx1
    go_wp2_with (go_at_call 23; refine (within_any _ _ _ _).mono ?_; rintro e w' ⟨rfl, rfl⟩; rw [h20])
    refine (solutions_any _ ds cs _ ⟨_, _, rfl, hD0.out.ext HX1.out, hC0.out.ext HX1.out⟩ HG.out (by omega) h4).mono ?_
    rintro e w2 ⟨A2, c2, rfl, hA2, hx2⟩
    have hrows := sol_rows2 hA2 h4
    have hlec : (solL cs ds).length ≤ c2 := by obtain ⟨A', c', e1, h2, -⟩ := hrows; injection e1 with _ _ e3; omega
    have hcap := hA2.cap9
    have hl := solL_small (cs := cs) h4
    have HRW := hide hrows
    have HX2 := hide (HX1.out.trans hx2)
    clear hA2 hrows hx2
    obtain ⟨L, hL⟩ : ∃ L, L = (solL cs ds).length := ⟨_, rfl⟩
    rw [← hL] at hlec hl ⊢
    have HL := hide hL
    clear hL
    by_cases h20' : 20 ≤ L
    · have hmI : (20 : Int) ≤ (L : Int) := by omega
      go_wp2_with fail
      refine (ClipRS_any _ _ _ _ (by omega) (by omega)).mono ?_
      rintro e w' ⟨rfl, rfl⟩
      go_wp2_with fail
      go_ret
      have hcl := HRW.out.clip9 20 (by have := HL.out; omega)
      have hl2 : ((solL cs ds).take 20).length = 20 := by rw [List.length_take]; have := HL.out; omega
      exact ⟨A2, 20, by rw [HR.out, hl2]; rfl, by rw [HR.out, hl2]; exact hcl, HX2.out⟩
    · have hmI : ¬ (20 : Int) ≤ (L : Int) := by omega
      go_wp2_with fail
      refine (ClipRS_any _ _ _ _ (by omega) (by omega)).mono ?_
      rintro e w' ⟨rfl, rfl⟩
      go_wp2_with fail
      go_ret
      have hcl := HRW.out.clip9 L (by have := HL.out; omega)
      have hl2 : (solL cs ds).take L = (solL cs ds).take 20 := by rw [List.take_of_length_le (by have := HL.out; omega), List.take_of_length_le (by have := HL.out; omega)]
      have hl3 : ((solL cs ds).take 20).length = L := by rw [List.length_take]; have := HL.out; omega
      rw [hl2] at hcl
      exact ⟨A2, L, by rw [HR.out, hl3]; rfl, by rw [HR.out, hl3]; exact hcl, HX2.out⟩
end Go.Proofs.YtgpbmggfpbebmaaGreat
