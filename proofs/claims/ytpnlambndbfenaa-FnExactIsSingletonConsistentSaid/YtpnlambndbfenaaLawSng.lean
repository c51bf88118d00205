/- The law's walk: FnExactIsSingletonConsistent returns true. -/
import Derived.Test.YtpnlambndbfenaaSng
import Derived.Test.YtpnlambndbfenaaLawM3
namespace Go.Proofs.Ytpnlambndbfenaa
open Go.RowKit
attribute [local go_sem] evalOf

/-- A copy of a model. -/
def RS.cm (D : List Nat) (ds : List Int) (cs : List Con) : RS := ⟨D, fun _ v W => SMod W v ds cs, fun _ _ _ _ h hx => h.ext hx⟩
set_option maxRecDepth 100000 in
set_option maxHeartbeats 8000000 in
theorem lawIsSingletonConsistent (v : Value) (x : List Int × List Con) (w : World) (hM : SMod w v x.1 x.2) :
    Calls Try.prog 4 #[v] w (Ret (.bool true) w) := by
  obtain ⟨ds, cs⟩ := x
  simp only at hM
  have HOK := hide hM.ok
  have hM0 := hide hM
  obtain ⟨ve, vc, rfl, hE, hC⟩ := hM
  obtain ⟨Ae, ce, rfl, -, hle⟩ := hE.form
  obtain ⟨Ac, cc, rfl, -, hlc⟩ := hC.form
  obtain ⟨w0, hw0⟩ : ∃ w0, w0 = w.alloc (.cells #[.slice Ae ds.length ce, .slice Ac cs.length cc] 43) := ⟨_, rfl⟩
  have hx0 : Ext w w0 := by rw [hw0]; exact (Ext.refl w).alloc _
  have k0 : w0.cell? ⟨w.heap.size, 0, none⟩ = some (.slice Ae ds.length ce) := by rw [hw0]; go_simp
  have k1 : w0.cell? ⟨w.heap.size, 1, none⟩ = some (.slice Ac cs.length cc) := by rw [hw0]; go_simp
  have ks : w.heap.size < w0.heap.size := by rw [hw0]; simp
  have HX0 := hide hx0
  have K0 := hide k0
  have K1 := hide k1
  clear hE hC hx0
  go_enter Try.func4, Try.ntmps4
  go_wp2_with fail
  rw [← hw0]
  clear hw0
  refine (szModel_any _ ds cs _ _ (hM0.out.ext HX0.out) (by omega) (by omega)).mono ?_
  rintro e w1 ⟨r, rfl, hr, hx1⟩
  have HX1 := hide hx1
  have k0 := (hx1.cells _ _ ks).trans k0
  have k1 := (hx1.cells _ _ ks).trans k1
  have ks1 := Nat.lt_of_lt_of_le ks hx1.size
  clear hx1
  rcases hr with rfl | ⟨hr0, -⟩
  · go_wp2
    go_ret
    exact Ret.mk rfl (HX0.out.trans HX1.out)
  have hnr : ¬ (r < 0) := by omega
  go_wp2_with fail
  refine (toModel_any _ ds cs _ (hM0.out.ext (HX0.out.trans HX1.out))).mono ?_
  rintro e w2 ⟨bd, bo, F, rfl, hcm, hx2⟩
  have HS2 := hide (hcm.smod HOK.out)
  have HX2 := hide (HX1.out.trans hx2)
  clear hcm hx2
  go_wp2_with fail
  refine (IsSingletonConsistentS_any _ ds cs _ HS2.out).mono ?_
  rintro e w3 ⟨rfl, hx3⟩
  have HX3 := hide (HX2.out.trans hx3)
  have k0 := (HX3.out.cells _ _ ks).trans K0.out
  have k1 := (HX3.out.cells _ _ ks).trans K1.out
  clear hx3
  go_wp2_with fail
  refine (toModel_any _ ds cs _ (hM0.out.ext (HX0.out.trans HX3.out))).mono ?_
  rintro e w4 ⟨bd4, bo4, F4, rfl, hcm4, hx4⟩
  have HS4 := hide (hcm4.smod HOK.out)
  have HX4 := hide (HX3.out.trans hx4)
  clear hcm4 hx4
  rw [modV] at HS4 ⊢
  go_wp2_with fail
  obtain ⟨u, hu⟩ : ∃ u, u = w4.alloc (.cells #[.slice (some ⟨bd4, 0, none⟩) ds.length ds.length, .slice (some ⟨bo4, 0, none⟩) cs.length cs.length] 48) := ⟨_, rfl⟩
  have hxu : Ext w4 u := by rw [hu]; exact (Ext.refl w4).alloc _
  have u0 : u.cell? ⟨w4.heap.size, 0, none⟩ = some (.slice (some ⟨bd4, 0, none⟩) ds.length ds.length) := by rw [hu]; go_simp
  have u1 : u.cell? ⟨w4.heap.size, 1, none⟩ = some (.slice (some ⟨bo4, 0, none⟩) cs.length cs.length) := by rw [hu]; go_simp
  have us : w4.heap.size < u.heap.size := by rw [hu]; simp
  have HU := hide (HX4.out.trans hxu)
  have HSU := hide (HS4.out.ext hxu)
  rw [← hu]
  clear hu hxu
  refine (IsSingletonConsistentI_any _ ds cs _ HSU.out).mono ?_
  rintro e w5 ⟨rfl, hx5⟩
  have HX5 := hide (HU.out.trans hx5)
  have HS5 := hide (HSU.out.ext hx5)
  have k0 := (HX5.out.cells _ _ ks).trans K0.out
  have k1 := (HX5.out.cells _ _ ks).trans K1.out
  have u0 := (hx5.cells _ _ us).trans u0
  have u1 := (hx5.cells _ _ us).trans u1
  have us := Nat.lt_of_lt_of_le us hx5.size
  have ks5 := Nat.lt_of_lt_of_le ks HX5.out.size
  clear hx5
  have hbb : (sngB ds cs != sngB ds cs) = false := by simp
  go_wp2_with fail
  refine wp_region_relT (n := 5) (ts := []) (sp := [RS.q [] (fun _ => .agg #[.slice (some ⟨bd4, 0, none⟩) ds.length ds.length, .slice (some ⟨bo4, 0, none⟩) cs.length cs.length]), RS.q [] (fun _ => .agg #[.slice Ae ds.length ce, .slice Ac cs.length cc]), RS.cm [1] ds cs, RS.q [0, 2] (fun _ => .bool true), RS.q [3] (fun _ => .bool false)])
    (fun W => Ext w5 W) (by kernel_rfl) (relOK (D := [[], [], [1], [0, 2], [3]]) rfl (by kernel_rfl) rfl) (by kernel_rfl) (fun W W' h hx => h.trans hx) (Ext.refl w5).drew ?steps ?ends
  case steps =>
    refine ⟨?_, ?_, ?_, ?_, ?_, trivial⟩
    · intro V τ W hC hf ht h0
      have s5 : τ 5 = .pointer (some ⟨w4.heap.size, 0, none⟩) := h0 5 (by kernel_rfl)
      have u0 := (hC.cells _ _ us).trans u0
      have u1 := (hC.cells _ _ us).trans u1
      refine Does.val (w' := W) (v := .agg #[.slice (some ⟨bd4, 0, none⟩) ds.length ds.length, .slice (some ⟨bo4, 0, none⟩) cs.length cs.length]) ?_ ⟨Ext.refl W, rfl⟩
      go_simp
    · intro V τ W hC hf ht h0
      have s1 : τ 1 = .pointer (some ⟨w.heap.size, 0, none⟩) := h0 1 (by kernel_rfl)
      have k0 := (hC.cells _ _ ks5).trans k0
      have k1 := (hC.cells _ _ ks5).trans k1
      refine Does.val (w' := W) (v := .agg #[.slice Ae ds.length ce, .slice Ac cs.length cc]) ?_ ⟨Ext.refl W, rfl⟩
      go_simp
    · intro V τ W hC hf ht h0
      have f1 : V 1 = .agg #[.slice Ae ds.length ce, .slice Ac cs.length cc] := hf 1 (by simp [RS.at_, RS.cm])
      have s23 := (ht 1 (by simp [RS.at_, RS.cm]) 23 rfl).trans f1
      refine Does.call (w' := W) (f := 20) (args := #[.agg #[.slice Ae ds.length ce, .slice Ac cs.length cc]]) (by go_simp; all_goals (first | exact rfl | (apply And.intro <;> exact rfl))) ?_
      refine (toModel_any _ ds cs _ (hM0.out.ext ((HX0.out.trans HX5.out).trans hC))).mono ?_
      rintro e wa ⟨ba, bb, Fa, rfl, hca, hxa⟩
      exact ⟨_, rfl, hxa, hca.smod HOK.out⟩
    · intro V τ W hC hf ht h0
      have f0 : V 0 = .agg #[.slice (some ⟨bd4, 0, none⟩) ds.length ds.length, .slice (some ⟨bo4, 0, none⟩) cs.length cs.length] := hf 0 (by simp [RS.at_, RS.q])
      have f2 : SMod W (V 2) ds cs := hf 2 (by simp [RS.at_, RS.q])
      have s22 := (ht 0 (by simp [RS.at_, RS.q]) 22 rfl).trans f0
      have s24 : τ 24 = V 2 := ht 2 (by simp [RS.at_, RS.q]) 24 rfl
      refine Does.call (w' := W) (f := 22) (args := #[.agg #[.slice (some ⟨bd4, 0, none⟩) ds.length ds.length, .slice (some ⟨bo4, 0, none⟩) cs.length cs.length], V 2]) (by go_simp; all_goals (first | exact rfl | (apply And.intro <;> exact rfl))) ?_
      refine (eqModel_same _ _ ds cs _ (HS5.out.ext hC) f2).mono ?_
      rintro e wa ⟨rfl, hxa⟩
      exact ⟨_, rfl, hxa, rfl⟩
    · intro V τ W hC hf ht h0
      have f3 : V 3 = .bool true := hf 3 (by simp [RS.at_, RS.q])
      have s25 := (ht 3 (by simp [RS.at_, RS.q]) 25 rfl).trans f3
      refine Does.val (w' := W) (v := .bool false) ?_ ⟨Ext.refl W, rfl⟩
      go_simp
  case ends =>
    intro V W hC hf
    have f0 : V 0 = .agg #[.slice (some ⟨bd4, 0, none⟩) ds.length ds.length, .slice (some ⟨bo4, 0, none⟩) cs.length cs.length] := hf 0 (by omega)
    have f1 : V 1 = .agg #[.slice Ae ds.length ce, .slice Ac cs.length cc] := hf 1 (by omega)
    obtain ⟨vd2, vc2, f2, -, -⟩ := (show SMod W (V 2) ds cs from hf 2 (by omega))
    have f3 : V 3 = .bool true := hf 3 (by omega)
    have f4 : V 4 = .bool false := hf 4 (by omega)
    clear hf
    simp only [List.take_succ_cons, List.take_zero, putAll, Act.put, List.setIfInBounds_toArray, List.set_cons_succ, List.set_cons_zero, Nat.reduceAdd, f0, f1, f2, f3, f4]
    simp only [nths]
    clear f0 f1 f2 f3 f4
    have HCW := hide hC
    clear hC
    go_wp2
    go_ret
    exact Ret.mk rfl ((HX0.out.trans HX5.out).trans HCW.out)
end Go.Proofs.Ytpnlambndbfenaa
