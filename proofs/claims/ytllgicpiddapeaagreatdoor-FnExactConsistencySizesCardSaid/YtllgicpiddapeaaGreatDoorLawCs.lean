/- The law's walk: FnExactConsistencySizes returns true. -/
import Derived.Test.YtllgicpiddapeaaGreatDoorCsW
import Derived.Test.YtllgicpiddapeaaGreatDoorLawM
namespace Go.Proofs.YtllgicpiddapeaaGreatDoor
open Go.RowKit
attribute [local go_sem] evalOf

theorem OwnC.kpFnExactConsistencySizes {S : Nat → Prop} {w w' : World} {A : Option Addr} {b m : Nat} {f : Nat → Value} {xs : List Int} (h : OwnC w A b m f xs) (hk : Keep S w w') (hb : 0 < xs.length → S b) : OwnC w' A b m f xs :=
  fun hp => by obtain ⟨h1, h2, h3⟩ := h hp; exact ⟨h1, hk.row (hb hp) h2, h3⟩
/-- A copy of a model. -/
def RS.cmFnExactConsistencySizes (D : List Nat) (ds : List Int) (cs : List Con) : RS := ⟨D, fun _ v W => SMod W v ds cs, fun _ _ _ _ h hx => h.ext hx⟩
set_option maxRecDepth 100000 in
set_option maxHeartbeats 16000000 in
theorem lawFnExactConsistencySizes (v : Value) (x : List Int × List Con) (w : World) (hT : TzTab w) (hb : 1 < w.heap.size) (hM : SMod w v x.1 x.2) :
    Calls Tryz.prog 4 #[v] w (Ret (.bool true) w) := by
  obtain ⟨ds, cs⟩ := x
  have HT := hide hT
  clear hT
  simp only at hM
  have HOK := hide hM.ok
  have hM0 := hide hM
  obtain ⟨ve, vc, rfl, hE, hC⟩ := hM
  obtain ⟨Ae, ce, rfl, -, hle⟩ := hE.form
  obtain ⟨Ac, cc, rfl, -, hlc⟩ := hC.form
  obtain ⟨w0, hw0⟩ : ∃ w0, w0 = w.alloc (.cells #[.slice Ae ds.length ce, .slice Ac cs.length cc] 25) := ⟨_, rfl⟩
  have hx0 : Ext w w0 := by rw [hw0]; exact (Ext.refl w).alloc _
  have k0 : w0.cell? ⟨w.heap.size, 0, none⟩ = some (.slice Ae ds.length ce) := by rw [hw0]; go_simp
  have k1 : w0.cell? ⟨w.heap.size, 1, none⟩ = some (.slice Ac cs.length cc) := by rw [hw0]; go_simp
  have ks : w.heap.size < w0.heap.size := by rw [hw0]; simp
  have HX0 := hide hx0
  have K0 := hide k0
  have K1 := hide k1
  obtain ⟨xs, hxs⟩ : ∃ xs, xs = csV ds cs := ⟨_, rfl⟩
  have HXS := hide hxs
  have HI64 := hide (show ∀ j, j < xs.length → I64 (at0 xs j) by rw [hxs]; exact csV_i64 ds cs)
  have hlen : xs.length ≤ 5 := by rw [hxs]; exact csV_len ds cs
  clear hE hC hx0 hxs
  go_enter Tryz.func4, Tryz.ntmps4
  go_wp2_with fail
  rw [← hw0]
  clear hw0
  refine (szModel_any _ ds cs _ _ (hM0.out.ext HX0.out) (by omega) (by omega)).mono ?_
  rintro e w1 ⟨r, rfl, hr, hx1⟩
  have HX1 := hide hx1
  have k0 := (hx1.cells _ _ ks).trans k0
  have k1 := (hx1.cells _ _ ks).trans k1
  clear hx1
  rcases hr with rfl | ⟨hr0, hr1⟩
  · go_wp2
    go_ret
    exact Ret.mk rfl (HX0.out.trans HX1.out)
  have hnr : ¬ (r < 0) := by omega
  have HSZ := hide (show ds.length + (cs.length + szCs cs cs.length) ≤ 1048576 by omega)
  clear hr1
  go_wp2_with fail
  refine (toModel_any _ ds cs _ (hM0.out.ext (HX0.out.trans HX1.out))).mono ?_
  rintro e w2 ⟨bd, bo, F, rfl, hcm, hx2⟩
  have HS2 := hide (hcm.smod HOK.out)
  have HX2 := hide (HX1.out.trans hx2)
  clear hcm hx2
  go_wp2_with fail
  refine (ConsistencySizesS_any _ ds cs _ HS2.out).mono ?_
  rintro e w3 hres0
  have hres : OwnRes xs w2 e w3 := by rw [HXS.out]; exact hres0
  clear hres0
  obtain ⟨A0, c0, b0, m0, f0, rfl, hc0, hd0, hb0, ho0, hx3⟩ := hres
  have HO0 := hide ho0
  have HX3 := hide (HX2.out.trans hx3)
  have k0 := (HX3.out.cells _ _ ks).trans K0.out
  have k1 := (HX3.out.cells _ _ ks).trans K1.out
  have hb0l : 0 < xs.length → b0 < w3.heap.size := fun hp => ho0.lt hp
  clear hx3 ho0
  go_wp2_with fail
  refine (toModel_any _ ds cs _ (hM0.out.ext (HX0.out.trans HX3.out))).mono ?_
  rintro e w4 ⟨bd4, bo4, F4, rfl, hcm4, hx4⟩
  have HCM := hide hcm4
  have HS4 := hide (hcm4.smod HOK.out)
  have HX34 := hide hx4
  have HX4 := hide (HX3.out.trans hx4)
  clear hcm4 hx4
  rw [modV] at HS4 ⊢
  go_wp2_with fail
  obtain ⟨u, hu⟩ : ∃ u, u = w4.alloc (.cells #[.slice (some ⟨bd4, 0, none⟩) ds.length ds.length, .slice (some ⟨bo4, 0, none⟩) cs.length cs.length] 31) := ⟨_, rfl⟩
  have hxu : Ext w4 u := by rw [hu]; exact (Ext.refl w4).alloc _
  have u0 : u.cell? ⟨w4.heap.size, 0, none⟩ = some (.slice (some ⟨bd4, 0, none⟩) ds.length ds.length) := by rw [hu]; go_simp
  have u1 : u.cell? ⟨w4.heap.size, 1, none⟩ = some (.slice (some ⟨bo4, 0, none⟩) cs.length cs.length) := by rw [hu]; go_simp
  have us : w4.heap.size < u.heap.size := by rw [hu]; simp
  have HU := hide (HX4.out.trans hxu)
  have HU4 := hide hxu
  have HSU := hide (HS4.out.ext hxu)
  rw [← hu]
  clear hu hxu
  refine (ConsistencySizesI_any _ ds cs _ HSU.out (TzTab.ext HT.out hb (HX0.out.trans HU.out)) (Nat.lt_of_lt_of_le hb (HX0.out.trans HU.out).size)).mono ?_
  rintro e w5 hres0
  have hres : OwnRes xs u e w5 := by rw [HXS.out]; exact hres0
  clear hres0
  obtain ⟨A5, c5, b5, m5, f5, rfl, hc5, hd5, hb5, ho5, hx5⟩ := hres
  have HO5 := hide ho5
  have HX5 := hide (HU.out.trans hx5)
  have HX45 := hide (HU4.out.trans hx5)
  have HS5 := hide (HSU.out.ext hx5)
  have u0 := (hx5.cells _ _ us).trans u0
  have u1 := (hx5.cells _ _ us).trans u1
  have us := Nat.lt_of_lt_of_le us hx5.size
  have HR5 := hide (SInts.own hc5 hd5 ho5 HI64.out)
  have HR0 := hide (SInts.own hc0 hd0 (HO0.out.ext ((HX34.out.trans HX45.out))) HI64.out)
  clear hx5 ho5
  go_wp2_with fail
  refine (eqIntS_same _ _ xs _ HR5.out HR0.out).mono ?_
  rintro e w6 ⟨rfl, hx6⟩
  have HX6 := hide (HX5.out.trans hx6)
  have HX46 := hide (HX45.out.trans hx6)
  have HX56 := hide hx6
  have k0 := (HX6.out.cells _ _ ks).trans K0.out
  have k1 := (HX6.out.cells _ _ ks).trans K1.out
  have u0 := (hx6.cells _ _ us).trans u0
  have u1 := (hx6.cells _ _ us).trans u1
  have us := Nat.lt_of_lt_of_le us hx6.size
  have ks6 := Nat.lt_of_lt_of_le ks HX6.out.size
  clear hx6
  go_wp2_with fail
  refine wp_region_relT (n := 5) (ts := []) (sp := [RS.q [] (fun _ => .agg #[.slice (some ⟨bd4, 0, none⟩) ds.length ds.length, .slice (some ⟨bo4, 0, none⟩) cs.length cs.length]), RS.q [] (fun _ => .agg #[.slice Ae ds.length ce, .slice Ac cs.length cc]), RS.cmFnExactConsistencySizes [1] ds cs, RS.q [0, 2] (fun _ => .bool true), RS.q [3] (fun _ => .bool false)])
    (fun W => Ext w6 W) (by kernel_rfl) (relOK (D := [[], [], [1], [0, 2], [3]]) rfl (by kernel_rfl) rfl) (by kernel_rfl) (fun W W' h hx => h.trans hx) (Ext.refl w6).drew ?steps ?ends
  case steps =>
    refine ⟨?_, ?_, ?_, ?_, ?_, trivial⟩
    · intro V τ W hC hf ht h0
      have s9 : τ 5 = .pointer (some ⟨w4.heap.size, 0, none⟩) := h0 5 (by kernel_rfl)
      have u0 := (hC.cells _ _ us).trans u0
      have u1 := (hC.cells _ _ us).trans u1
      refine Does.val (w' := W) (v := .agg #[.slice (some ⟨bd4, 0, none⟩) ds.length ds.length, .slice (some ⟨bo4, 0, none⟩) cs.length cs.length]) ?_ ⟨Ext.refl W, rfl⟩
      go_simp
    · intro V τ W hC hf ht h0
      have s3 : τ 1 = .pointer (some ⟨w.heap.size, 0, none⟩) := h0 1 (by kernel_rfl)
      have k0 := (hC.cells _ _ ks6).trans k0
      have k1 := (hC.cells _ _ ks6).trans k1
      refine Does.val (w' := W) (v := .agg #[.slice Ae ds.length ce, .slice Ac cs.length cc]) ?_ ⟨Ext.refl W, rfl⟩
      go_simp
    · intro V τ W hC hf ht h0
      have f1 : V 1 = .agg #[.slice Ae ds.length ce, .slice Ac cs.length cc] := hf 1 (by simp [RS.at_, RS.cmFnExactConsistencySizes])
      have s36 := (ht 1 (by simp [RS.at_, RS.cmFnExactConsistencySizes]) 28 rfl).trans f1
      refine Does.call (w' := W) (f := 7) (args := #[.agg #[.slice Ae ds.length ce, .slice Ac cs.length cc]]) (by go_simp; all_goals (first | exact rfl | (apply And.intro <;> exact rfl))) ?_
      refine (toModel_any _ ds cs _ (hM0.out.ext ((HX0.out.trans HX6.out).trans hC))).mono ?_
      rintro e wa ⟨ba, bb, Fa, rfl, hca, hxa⟩
      exact ⟨_, rfl, hxa, hca.smod HOK.out⟩
    · intro V τ W hC hf ht h0
      have f0 : V 0 = .agg #[.slice (some ⟨bd4, 0, none⟩) ds.length ds.length, .slice (some ⟨bo4, 0, none⟩) cs.length cs.length] := hf 0 (by simp [RS.at_, RS.q])
      have f2 : SMod W (V 2) ds cs := hf 2 (by simp [RS.at_, RS.q])
      have s35 := (ht 0 (by simp [RS.at_, RS.q]) 27 rfl).trans f0
      have s37 : τ 29 = V 2 := ht 2 (by simp [RS.at_, RS.q]) 29 rfl
      refine Does.call (w' := W) (f := 10) (args := #[.agg #[.slice (some ⟨bd4, 0, none⟩) ds.length ds.length, .slice (some ⟨bo4, 0, none⟩) cs.length cs.length], V 2]) (by go_simp; all_goals (first | exact rfl | (apply And.intro <;> exact rfl))) ?_
      refine (eqModel_same _ _ ds cs _ ((HS5.out.ext HX56.out).ext hC) f2).mono ?_
      rintro e wa ⟨rfl, hxa⟩
      exact ⟨_, rfl, hxa, rfl⟩
    · intro V τ W hC hf ht h0
      have f3 : V 3 = .bool true := hf 3 (by simp [RS.at_, RS.q])
      have s38 := (ht 3 (by simp [RS.at_, RS.q]) 30 rfl).trans f3
      refine Does.val (w' := W) (v := .bool false) ?_ ⟨Ext.refl W, rfl⟩
      go_simp
  case ends =>
    intro V w7 hC hf
    have g0 : V 0 = .agg #[.slice (some ⟨bd4, 0, none⟩) ds.length ds.length, .slice (some ⟨bo4, 0, none⟩) cs.length cs.length] := hf 0 (by omega)
    have g1 : V 1 = .agg #[.slice Ae ds.length ce, .slice Ac cs.length cc] := hf 1 (by omega)
    obtain ⟨vd2, vc2, g2, -, -⟩ := (show SMod w7 (V 2) ds cs from hf 2 (by omega))
    have g3 : V 3 = .bool true := hf 3 (by omega)
    have g4 : V 4 = .bool false := hf 4 (by omega)
    clear hf
    simp only [List.take_succ_cons, List.take_zero, putAll, Act.put, List.setIfInBounds_toArray, List.set_cons_succ, List.set_cons_zero, Nat.reduceAdd, g0, g1, g2, g3, g4]
    simp only [nths]
    clear g0 g1 g2 g3 g4
    have HX7 := hide (HX6.out.trans hC)
    have HX47 := hide (HX46.out.trans hC)
    have u0 := (hC.cells _ _ us).trans u0
    have u1 := (hC.cells _ _ us).trans u1
    have us := Nat.lt_of_lt_of_le us hC.size
    have HO5 := hide (HO5.out.ext (HX56.out.trans hC))
    have HO0 := hide (HO0.out.ext (HX34.out.trans HX47.out))
    clear hC k0 k1
    go_wp2_with fail
    refine (markM_any HCM.out HX47.out HSZ.out).mono ?_
    rintro e w8 ⟨k8, rfl, hk8, -, hkp8⟩
    have h34 := HX34.out.size
    have h2w := (HX0.out.trans HX3.out).size
    have hu4 := HU4.out.size
    have h47 := HX47.out.size
    have HX8 := hide (show Ext w w8 from Below.trans (HX0.out.trans HX7.out) (hkp8.below (HX0.out.trans HX7.out).size (fun k hk => by omega)))
    have HO5 := hide (HO5.out.kpFnExactConsistencySizes hkp8 (fun _ => by omega))
    have HO0 := hide (HO0.out.kpFnExactConsistencySizes hkp8 (fun hp => by have := hb0l hp; omega))
    have hk8n : ¬ (k8 < 0) := by omega
    have HB8 := hide (show ∀ k, k < w3.heap.size → w7.heap.size = w7.heap.size → True from fun _ _ _ => trivial)
    have K08 := hide (show w8.cell? ⟨w.heap.size, 0, none⟩ = some (.slice Ae ds.length ce) from (hkp8.cell (p := ⟨w.heap.size, 0, none⟩) (Nat.lt_of_lt_of_le ks HX7.out.size) (.inl (Nat.lt_of_lt_of_le ks HX3.out.size))).trans ((HX7.out.cells _ _ ks).trans K0.out))
    have K18 := hide (show w8.cell? ⟨w.heap.size, 1, none⟩ = some (.slice Ac cs.length cc) from (hkp8.cell (p := ⟨w.heap.size, 1, none⟩) (Nat.lt_of_lt_of_le ks HX7.out.size) (.inl (Nat.lt_of_lt_of_le ks HX3.out.size))).trans ((HX7.out.cells _ _ ks).trans K1.out))
    have ks8 := Nat.lt_of_lt_of_le (Nat.lt_of_lt_of_le ks HX7.out.size) hkp8.size
    have HR5 := hide (SInts.own hc5 hd5 HO5.out HI64.out)
    have HR0 := hide (SInts.own hc0 hd0 HO0.out HI64.out)
    have hb58 : w.heap.size ≤ b5 := by omega
    have hb5w : w.heap.size < b5 := by have := HX3.out.size; omega
    have hb05 : 0 < xs.length → b0 ≠ b5 := fun hp => by have := hb0l hp; omega
    clear hkp8 u0 u1 HB8
    go_wp2_with fail
    refine (eqIntS_same _ _ xs _ HR5.out HR0.out).mono ?_
    rintro e w9 ⟨rfl, hx9⟩
    have HX9 := hide (HX8.out.trans hx9)
    have HO5 := hide (HO5.out.ext hx9)
    have HO0 := hide (HO0.out.ext hx9)
    have K09 := hide ((hx9.cells _ _ ks8).trans K08.out)
    have K19 := hide ((hx9.cells _ _ ks8).trans K18.out)
    have ks9 := Nat.lt_of_lt_of_le ks8 hx9.size
    clear hx9
    go_wp2_with fail
    refine (markIntS_any A5 xs.length c5 b5 m5 f5 1 _ (by omega) (by omega) (by omega) (hide fun hp => ⟨(HO5.out hp).1, (HO5.out hp).2.1, (HO5.out hp).2.2.1⟩)).mono ?_
    rintro e w10 ⟨rfl, hg10, hr10⟩
    have HR10 := hide hr10
    have hg10' := hide hg10
    have HX10 := hide (show Ext w w10 from upd_below HX9.out hg10 HX9.out.size (fun _ => hb58))
    have HO0 := hide (HO0.out.upd hg10 (fun _ hp => hb05 hp))
    have K010 := hide (show w10.cell? ⟨w.heap.size, 0, none⟩ = some (.slice Ae ds.length ce) from (World.cell?_of_block (w := w9) (hg10.block _ ks9 (by unfold rowOf; split <;> simp; omega))).trans K09.out)
    have K110 := hide (show w10.cell? ⟨w.heap.size, 1, none⟩ = some (.slice Ac cs.length cc) from (World.cell?_of_block (w := w9) (hg10.block _ ks9 (by unfold rowOf; split <;> simp; omega))).trans K19.out)
    have ks10 := Nat.lt_of_lt_of_le ks9 hg10.size
    have HHD := hide (show 0 < xs.length → A5 = some ⟨b5, 0, none⟩ ∧ w10.rowIs b5 3 m5 (mcell 1 f5 xs.length) ∧ xs.length ≤ m5 from fun hp => ⟨(HO5.out hp).1, HR10.out hp, (HO5.out hp).2.2.1⟩)
    clear hr10 hg10
    go_wp2_with fail
    refine (heldIntS_any A5 xs.length c5 b5 m5 f5 1 _ (by omega) (by omega) (by omega) HHD).mono ?_
    rintro e w' ⟨rfl, rfl⟩
    have k0 := K010.out
    have k1 := K110.out
    have hq1 : ¬ ((1 : Int) + xs.length < 0) := by omega
    have hq2 : ((1 : Int) + xs.length != 1 + xs.length) = false := by simp
    go_wp2_with fail
    refine (toModel_any _ ds cs _ (hM0.out.ext HX10.out)).mono ?_
    rintro e w11 ⟨bd11, bo11, F11, rfl, hcm11, hx11⟩
    have HS11 := hide (hcm11.smod HOK.out)
    have HX11 := hide (HX10.out.trans hx11)
    have HXX := hide hx11
    clear hcm11 hx11 k0 k1
    go_wp2_with fail
    refine (ConsistencySizesI_any _ ds cs _ HS11.out (TzTab.ext HT.out hb HX11.out) (Nat.lt_of_lt_of_le hb HX11.out.size)).mono ?_
    rintro e w12 hres0
    have hres : OwnRes xs w11 e w12 := by rw [HXS.out]; exact hres0
    clear hres0
    obtain ⟨A12, c12, b12, m12, f12, rfl, hc12, hd12, hb12, ho12, hx12⟩ := hres
    have HX12 := hide (HX11.out.trans hx12)
    have HXX := hide (HXX.out.trans hx12)
    have HR12 := hide (SInts.own hc12 hd12 ho12 HI64.out)
    have HR0 := hide (SInts.own hc0 hd0 (HO0.out.ext HXX.out) HI64.out)
    clear hx12 ho12
    go_wp2_with fail
    refine (eqIntS_same _ _ xs _ HR12.out HR0.out).mono ?_
    rintro e w13 ⟨rfl, hx13⟩
    have HX13 := hide (HX12.out.trans hx13)
    have HXX := hide (HXX.out.trans hx13)
    clear hx13
    go_wp2_with fail
    refine (heldIntS_any A5 xs.length c5 b5 m5 f5 1 _ (by omega) (by omega) (by omega) (hide fun hp => ⟨(HHD.out hp).1, HXX.out.row (HHD.out hp).2.1, (HHD.out hp).2.2⟩)).mono ?_
    rintro e w' ⟨rfl, rfl⟩
    go_wp2
    go_ret
    exact Ret.mk rfl HX13.out
end Go.Proofs.YtllgicpiddapeaaGreatDoor
