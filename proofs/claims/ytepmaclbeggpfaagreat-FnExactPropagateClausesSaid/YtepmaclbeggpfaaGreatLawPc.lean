/- The law's walk: FnExactPropagateClauses returns true. -/
import Derived.Test.YtepmaclbeggpfaaGreatPclV
namespace Go.Proofs.YtepmaclbeggpfaaGreat
open Go.RowKit
attribute [local go_sem] evalOf

theorem OwnC.kpP {S : Nat → Prop} {w w' : World} {A : Option Addr} {b m : Nat} {f : Nat → Value} {xs : List Int} (h : OwnC w A b m f xs) (hk : Keep S w w') (hb : S b) : OwnC w' A b m f xs :=
  fun hp => by obtain ⟨h1, h2, h3⟩ := h hp; exact ⟨h1, hk.row hb h2, h3⟩

/-- What the reference returned. -/
def RS.soFnExactPropagateClauses (D : List Nat) (xs0 : List Int) : RS := ⟨D, fun _ v W => ∃ A c, v = .slice A xs0.length c ∧ SInts W (.slice A xs0.length c) xs0, fun _ _ _ _ ⟨A, c, h1, h2⟩ hx => ⟨A, c, h1, SInts.ext h2 hx⟩⟩
/-- What the program returned. -/
def RS.ioFnExactPropagateClauses (D : List Nat) (w0 : World) (xs0 : List Int) : RS := ⟨D, fun _ v W => ∃ A c b m f, v = .slice A xs0.length c ∧ xs0.length ≤ c ∧ w0.heap.size ≤ b ∧ OwnC W A b m f xs0, fun _ _ _ _ ⟨A, c, b, m, f, h1, h2, h3, h4⟩ hx => ⟨A, c, b, m, f, h1, h2, h3, OwnC.ext h4 hx⟩⟩
set_option maxRecDepth 100000 in
set_option maxHeartbeats 32000000 in
theorem lawFnExactPropagateClauses (v0 : Value) (v1 : Value) (x0 : List Int × List Con) (x1 : List (List Lt)) (w : World) (hP0 : SMod w v0 x0.1 x0.2) (hP1 : SCls w v1 x1) :
    Calls Tryz.prog 5 #[v0, v1] w (Ret (.bool true) w) := by
  obtain ⟨ds0, cs0⟩ := x0
  simp only at hP0
  have HOK0 := hide hP0.ok
  have HP0 := hide hP0
  obtain ⟨ve0, vc0, rfl, hE0, hC0⟩ := hP0
  obtain ⟨Ae0, ce0, rfl, -, hle0⟩ := hE0.form
  obtain ⟨Ac0, cc0, rfl, -, hlc0⟩ := hC0.form
  clear hE0 hC0
  have HY1 := hide hP1.ok
  have HP1 := hide hP1
  obtain ⟨A1, c1, rfl, -, hl1⟩ := hP1.form
  clear hP1
  obtain ⟨w0, hw0⟩ : ∃ w0, w0 = w.alloc (.cells #[.slice Ae0 ds0.length ce0, .slice Ac0 cs0.length cc0] 25) := ⟨_, rfl⟩
  have hx0 : Ext w w0 := by rw [hw0]; exact (Ext.refl w).alloc _
  have hs0 : w0.heap.size = w.heap.size + 1 := by rw [hw0]; simp
  have K0_0 := hide (show w0.cell? ⟨w.heap.size, 0, none⟩ = some (.slice Ae0 ds0.length ce0) by rw [hw0]; go_simp)
  have K0_1 := hide (show w0.cell? ⟨w.heap.size, 1, none⟩ = some (.slice Ac0 cs0.length cc0) by rw [hw0]; go_simp)
  have ks0 : w.heap.size < w0.heap.size := by omega
  have HX0 := hide hx0
  have HB0 := hide (Ext.refl w0)
  clear hx0
  obtain ⟨xs0, hxs0⟩ : ∃ xs0, xs0 = pclL ds0 cs0 x1 := ⟨_, rfl⟩
  have HXS0 := hide hxs0
  have HI640 := hide (show ∀ j, j < xs0.length → I64 (at0 xs0 j) by rw [hxs0]; exact (pcl_i64 ds0 cs0 x1))
  have hlb0 : xs0.length ≤ 24 := by rw [hxs0]; exact pcl_len ds0 cs0 x1
  clear hxs0
  have k0_0 := K0_0.out
  have k0_1 := K0_1.out
  go_enter Tryz.func5, Tryz.ntmps5
  go_wp2_with fail
  rw [← hw0]
  clear hw0
  refine (szModel_any _ ds0 cs0 _ _ (HP0.out.ext (HX0.out)) (by omega) (by omega)).mono ?_
  rintro e w1 ⟨r0, rfl, hr0, hx1⟩
  have HX1 := hide (HX0.out.trans hx1)
  have HB1 := hide (HB0.out.trans hx1)
  clear hx1
  clear k0_0 k0_1
  rcases hr0 with rfl | ⟨hr0, hrr0⟩
  · go_wp2
    go_ret
    exact Ret.mk rfl HX1.out
  have hnr0 : ¬ (r0 < 0) := by omega
  have hle0 : r0 ≤ 1048576 := by omega
  have HRR0 := hide hrr0
  clear hrr0
  go_wp2_with fail
  refine (szLiteralSS_any _ x1 _ _ (HP1.out.ext (HX1.out)) (by omega) (by omega)).mono ?_
  rintro e w2 ⟨r1, rfl, hr1, hx2⟩
  have HX2 := hide (HX1.out.trans hx2)
  have HB2 := hide (HB1.out.trans hx2)
  clear hx2
  rcases hr1 with rfl | ⟨hr1, hrr1⟩
  · go_wp2
    go_ret
    exact Ret.mk rfl HX2.out
  have hnr1 : ¬ (r1 < 0) := by omega
  have hle1 : r1 ≤ 1048576 := by omega
  have HRR1 := hide hrr1
  clear hrr1
  have k0_0 := (HB2.out.cells _ _ ks0).trans K0_0.out
  have k0_1 := (HB2.out.cells _ _ ks0).trans K0_1.out
  go_wp2_with fail
  refine (toModel_any _ ds0 cs0 _ (HP0.out.ext (HX2.out))).mono ?_
  rintro e w3 ⟨bd3, bo3, F3, rfl, hcm3, hx3⟩
  have HC3 := hide (hcm3.smod HOK0.out)
  have HCM3 := hide hcm3
  have hst3 := hx3.size
  have HX3 := hide (HX2.out.trans hx3)
  have HB3 := hide (HB2.out.trans hx3)
  clear hx3 hcm3
  clear k0_0 k0_1
  have HC33 := hide (Ext.refl w3)
  go_wp2_with fail
  refine (toLiteralSS_any _ x1 _ (HP1.out.ext (HX3.out))).mono ?_
  rintro e w4 ⟨b4, hlo4, rfl, hr4, hx4⟩
  have HC4 := hide (hr4.rows HY1.out.1 HY1.out.2)
  have HCM4 := hide (ShL.of_own hr4)
  have hst4 := hx4.size
  have HX4 := hide (HX3.out.trans hx4)
  have HB4 := hide (HB3.out.trans hx4)
  have HC34 := hide (HC33.out.trans hx4)
  clear hx4 hr4
  have HC44 := hide (Ext.refl w4)
  go_wp2_with fail
  have hcc := PropagateClausesSO_any _ _ ds0 cs0 x1 _ (HC3.out.ext (HC34.out)) (HC4.out.ext (HC44.out))
  rw [← HXS0.out] at hcc
  refine hcc.mono ?_
  clear hcc
  rintro e w5 ⟨A5, c5, rfl, hsr5, hx5⟩
  have HX5 := hide (HX4.out.trans hx5)
  have HB5 := hide (HB4.out.trans hx5)
  have HC35 := hide (HC34.out.trans hx5)
  have HC45 := hide (HC44.out.trans hx5)
  clear hx5
  have HS5 := hide hsr5
  clear hsr5
  have HS5x5 := hide (Ext.refl w5)
  have k0_0 := (HB5.out.cells _ _ ks0).trans K0_0.out
  have k0_1 := (HB5.out.cells _ _ ks0).trans K0_1.out
  go_wp2_with fail
  have HM5 := hide (Ext.refl w5)
  refine (toModel_any _ ds0 cs0 _ (HP0.out.ext (HX5.out))).mono ?_
  rintro e w6 ⟨bd6, bo6, F6, rfl, hcm6, hx6⟩
  have HC6 := hide (hcm6.smod HOK0.out)
  have HCM6 := hide hcm6
  have hMs6 := HM5.out.size
  have hst6 := hx6.size
  have HX6 := hide (HX5.out.trans hx6)
  have HB6 := hide (HB5.out.trans hx6)
  have HC36 := hide (HC35.out.trans hx6)
  have HC46 := hide (HC45.out.trans hx6)
  have HS5x6 := hide (HS5x5.out.trans hx6)
  have HM6 := hide (HM5.out.trans hx6)
  clear hx6 hcm6
  clear k0_0 k0_1
  have HC66 := hide (Ext.refl w6)
  rw [modV] at HC6 ⊢
  go_wp2_with fail
  obtain ⟨z6, hz6⟩ : ∃ z, z = w6.alloc (.cells #[.slice (some ⟨bd6, 0, none⟩) ds0.length ds0.length, .slice (some ⟨bo6, 0, none⟩) cs0.length cs0.length] 32) := ⟨_, rfl⟩
  have hxz6 : Ext w6 z6 := by rw [hz6]; exact (Ext.refl w6).alloc _
  have U6_0 := hide (show z6.cell? ⟨w6.heap.size, 0, none⟩ = some (.slice (some ⟨bd6, 0, none⟩) ds0.length ds0.length) by rw [hz6]; go_simp)
  have U6_1 := hide (show z6.cell? ⟨w6.heap.size, 1, none⟩ = some (.slice (some ⟨bo6, 0, none⟩) cs0.length cs0.length) by rw [hz6]; go_simp)
  have us6 : w6.heap.size < z6.heap.size := by rw [hz6]; simp
  rw [← hz6]
  have HX7 := hide (HX6.out.trans hxz6)
  have HB7 := hide (HB6.out.trans hxz6)
  have HC37 := hide (HC36.out.trans hxz6)
  have HC47 := hide (HC46.out.trans hxz6)
  have HS5x7 := hide (HS5x6.out.trans hxz6)
  have HM7 := hide (HM6.out.trans hxz6)
  have HC67 := hide (HC66.out.trans hxz6)
  clear hz6 hxz6
  have HU67 := hide (Ext.refl z6)
  refine (toLiteralSS_any _ x1 _ (HP1.out.ext (HX7.out))).mono ?_
  rintro e w8 ⟨b8, hlo8, rfl, hr8, hx8⟩
  have HC8 := hide (hr8.rows HY1.out.1 HY1.out.2)
  have HCM8 := hide (ShL.of_own hr8)
  have hMs8 := HM7.out.size
  have hst8 := hx8.size
  have HX8 := hide (HX7.out.trans hx8)
  have HB8 := hide (HB7.out.trans hx8)
  have HC38 := hide (HC37.out.trans hx8)
  have HC48 := hide (HC47.out.trans hx8)
  have HS5x8 := hide (HS5x7.out.trans hx8)
  have HM8 := hide (HM7.out.trans hx8)
  have HC68 := hide (HC67.out.trans hx8)
  have HU68 := hide (HU67.out.trans hx8)
  clear hx8 hr8
  have HC88 := hide (Ext.refl w8)
  have u6_0 := (HU68.out.cells _ _ us6).trans U6_0.out
  have u6_1 := (HU68.out.cells _ _ us6).trans U6_1.out
  go_wp2_with fail
  have hcc := PropagateClausesI_any _ _ ds0 cs0 x1 _ (HC6.out.ext (HC68.out)) (HC8.out.ext (HC88.out)) (fun i _ => fits_all _)
  rw [← HXS0.out] at hcc
  refine hcc.mono ?_
  clear hcc
  clear u6_0 u6_1
  rintro e w9 ⟨A9, c9, b9, m9, g9, rfl, hgc, -, hgb, hgo, hx9⟩
  have HX9 := hide (HX8.out.trans hx9)
  have HB9 := hide (HB8.out.trans hx9)
  have HC39 := hide (HC38.out.trans hx9)
  have HC49 := hide (HC48.out.trans hx9)
  have HS5x9 := hide (HS5x8.out.trans hx9)
  have HM9 := hide (HM8.out.trans hx9)
  have HC69 := hide (HC68.out.trans hx9)
  have HU69 := hide (HU68.out.trans hx9)
  have HC89 := hide (HC88.out.trans hx9)
  clear hx9
  have HG9 := hide hgo
  clear hgo
  have hgs6 : w6.heap.size ≤ b9 := Nat.le_trans HC68.out.size hgb
  have hgs8 : w8.heap.size ≤ b9 := Nat.le_trans HC88.out.size hgb
  go_wp2_with fail
  refine (eqIntS_same _ _ xs0 _ (SInts.own hgc (show xs0.length * 8 ≤ 140737488355328 by omega) HG9.out HI640.out) (SInts.ext HS5.out (HS5x9.out))).mono ?_
  rintro e w10 ⟨rfl, hx10⟩
  have HX10 := hide (HX9.out.trans hx10)
  have HB10 := hide (HB9.out.trans hx10)
  have HC310 := hide (HC39.out.trans hx10)
  have HC410 := hide (HC49.out.trans hx10)
  have HS5x10 := hide (HS5x9.out.trans hx10)
  have HM10 := hide (HM9.out.trans hx10)
  have HC610 := hide (HC69.out.trans hx10)
  have HU610 := hide (HU69.out.trans hx10)
  have HC810 := hide (HC89.out.trans hx10)
  have HG10 := hide (OwnC.ext HG9.out hx10)
  clear hx10
  go_wp2_with fail
  refine wp_region_relT (n := 5) (ts := []) (sp := [RS.q [] (fun _ => .agg #[.slice (some ⟨bd6, 0, none⟩) ds0.length ds0.length, .slice (some ⟨bo6, 0, none⟩) cs0.length cs0.length]), RS.q [] (fun _ => .agg #[.slice Ae0 ds0.length ce0, .slice Ac0 cs0.length cc0]), RS.p [1] (fun v W => SMod W v ds0 cs0) (fun _ _ _ h hx => SMod.ext h hx), RS.q [0, 2] (fun _ => .bool (true)), RS.q [3] (fun _ => .bool (false))])
    (fun W => Ext w10 W) (by kernel_rfl) (relOK (D := [[], [], [1], [0, 2], [3]]) rfl (by kernel_rfl) rfl) (by kernel_rfl) (fun W W' h hx => h.trans hx) (Ext.refl w10).drew ?steps14 ?ends14
  case steps14 =>
    refine ⟨?_, ?_, ?_, ?_, ?_, trivial⟩
    · intro V τ W hC hf ht h0
      have s : τ 7 = .pointer (some ⟨w6.heap.size, 0, none⟩) := h0 7 (by kernel_rfl)
      have u6_0 := ((HU610.out.trans hC).cells _ _ us6).trans U6_0.out
      have u6_1 := ((HU610.out.trans hC).cells _ _ us6).trans U6_1.out
      refine Does.val (w' := W) (v := .agg #[.slice (some ⟨bd6, 0, none⟩) ds0.length ds0.length, .slice (some ⟨bo6, 0, none⟩) cs0.length cs0.length]) ?_ ⟨Ext.refl W, rfl⟩
      go_simp
    · intro V τ W hC hf ht h0
      have s : τ 2 = .pointer (some ⟨w.heap.size, 0, none⟩) := h0 2 (by kernel_rfl)
      have k0_0 := ((HB10.out.trans hC).cells _ _ ks0).trans K0_0.out
      have k0_1 := ((HB10.out.trans hC).cells _ _ ks0).trans K0_1.out
      refine Does.val (w' := W) (v := .agg #[.slice Ae0 ds0.length ce0, .slice Ac0 cs0.length cc0]) ?_ ⟨Ext.refl W, rfl⟩
      go_simp
    · intro V τ W hC hf ht h0
      have f1 : V 1 = .agg #[.slice Ae0 ds0.length ce0, .slice Ac0 cs0.length cc0] := hf 1 (show 1 ∈ [1] by decide)
      have s41 : τ 41 = .agg #[.slice Ae0 ds0.length ce0, .slice Ac0 cs0.length cc0] := (ht 1 (show 1 ∈ [1] by decide) 41 rfl).trans f1
      refine Does.call (w' := W) (f := 10) (args := #[.agg #[.slice Ae0 ds0.length ce0, .slice Ac0 cs0.length cc0]]) (by go_simp; all_goals (first | exact rfl | (apply And.intro <;> exact rfl))) ?_
      refine (toModel_any _ ds0 cs0 _ (HP0.out.ext (HX10.out.trans hC))).mono ?_
      rintro e wa ⟨bdq, boq, Fq, rfl, hcmq, hxq⟩
      exact ⟨_, rfl, hxq, hcmq.smod HOK0.out⟩
    · intro V τ W hC hf ht h0
      have f0 : V 0 = .agg #[.slice (some ⟨bd6, 0, none⟩) ds0.length ds0.length, .slice (some ⟨bo6, 0, none⟩) cs0.length cs0.length] := hf 0 (show 0 ∈ [0, 2] by decide)
      have s40 : τ 40 = .agg #[.slice (some ⟨bd6, 0, none⟩) ds0.length ds0.length, .slice (some ⟨bo6, 0, none⟩) cs0.length cs0.length] := (ht 0 (show 0 ∈ [0, 2] by decide) 40 rfl).trans f0
      have g2 : SMod W (V 2) ds0 cs0 := hf 2 (show 2 ∈ [0, 2] by decide)
      have s42 : τ 42 = V 2 := ht 2 (show 2 ∈ [0, 2] by decide) 42 rfl
      refine Does.call (w' := W) (f := 13) (args := #[.agg #[.slice (some ⟨bd6, 0, none⟩) ds0.length ds0.length, .slice (some ⟨bo6, 0, none⟩) cs0.length cs0.length], V 2]) (by go_simp; all_goals (first | exact rfl | (apply And.intro <;> exact rfl))) ?_
      refine (eqModel_same _ _ ds0 cs0 _ ((HC6.out.ext HC610.out).ext hC) (g2)).mono ?_
      rintro e wa ⟨rfl, hxa⟩
      exact ⟨_, rfl, hxa, rfl⟩
    · intro V τ W hC hf ht h0
      have f3 : V 3 = .bool (true) := hf 3 (show 3 ∈ [3] by decide)
      have s43 := (ht 3 (show 3 ∈ [3] by decide) 43 rfl).trans f3
      refine Does.val (w' := W) (v := .bool (false)) ?_ ⟨Ext.refl W, rfl⟩
      go_simp
  intro V w11 hC hf
  have f0 : V 0 = .agg #[.slice (some ⟨bd6, 0, none⟩) ds0.length ds0.length, .slice (some ⟨bo6, 0, none⟩) cs0.length cs0.length] := hf 0 (by omega)
  have f1 : V 1 = .agg #[.slice Ae0 ds0.length ce0, .slice Ac0 cs0.length cc0] := hf 1 (by omega)
  obtain ⟨ga2, gb2, f2, -, -⟩ := (show SMod _ (V 2) ds0 cs0 from hf 2 (by omega))
  have f3 : V 3 = .bool (true) := hf 3 (by omega)
  have f4 : V 4 = .bool (false) := hf 4 (by omega)
  clear hf
  simp only [List.take_succ_cons, List.take_zero, putAll, Act.put, List.setIfInBounds_toArray, List.set_cons_succ, List.set_cons_zero, Nat.reduceAdd, f0, f1, f2, f3, f4]
  simp only [nths]
  clear f0 f1 f2 f3 f4
  have HX11 := hide (HX10.out.trans hC)
  have HB11 := hide (HB10.out.trans hC)
  have HC311 := hide (HC310.out.trans hC)
  have HC411 := hide (HC410.out.trans hC)
  have HS5x11 := hide (HS5x10.out.trans hC)
  have HM11 := hide (HM10.out.trans hC)
  have HC611 := hide (HC610.out.trans hC)
  have HU611 := hide (HU610.out.trans hC)
  have HC811 := hide (HC810.out.trans hC)
  have HG11 := hide (OwnC.ext HG10.out hC)
  clear hC
  go_wp2_with fail
  refine (toLiteralSS_any _ x1 _ (HP1.out.ext (HX11.out))).mono ?_
  rintro e w12 ⟨b12, hlo12, rfl, hr12, hx12⟩
  have HC12 := hide (hr12.rows HY1.out.1 HY1.out.2)
  have HCM12 := hide (ShL.of_own hr12)
  have hMs12 := HM11.out.size
  have hst12 := hx12.size
  have HX12 := hide (HX11.out.trans hx12)
  have HB12 := hide (HB11.out.trans hx12)
  have HC312 := hide (HC311.out.trans hx12)
  have HC412 := hide (HC411.out.trans hx12)
  have HS5x12 := hide (HS5x11.out.trans hx12)
  have HM12 := hide (HM11.out.trans hx12)
  have HC612 := hide (HC611.out.trans hx12)
  have HU612 := hide (HU611.out.trans hx12)
  have HC812 := hide (HC811.out.trans hx12)
  have HG12 := hide (OwnC.ext HG11.out hx12)
  clear hx12 hr12
  have HC1212 := hide (Ext.refl w12)
  go_wp2_with fail
  refine (eqLiteralSS_same _ _ x1 _ (HC8.out.ext (HC812.out)) (HC12.out.ext (HC1212.out))).mono ?_
  rintro e w13 ⟨rfl, hx13⟩
  have HX13 := hide (HX12.out.trans hx13)
  have HB13 := hide (HB12.out.trans hx13)
  have HC313 := hide (HC312.out.trans hx13)
  have HC413 := hide (HC412.out.trans hx13)
  have HS5x13 := hide (HS5x12.out.trans hx13)
  have HM13 := hide (HM12.out.trans hx13)
  have HC613 := hide (HC612.out.trans hx13)
  have HU613 := hide (HU612.out.trans hx13)
  have HC813 := hide (HC812.out.trans hx13)
  have HC1213 := hide (HC1212.out.trans hx13)
  have HG13 := hide (OwnC.ext HG12.out hx13)
  clear hx13
  have u6_0 := (HU613.out.cells _ _ us6).trans U6_0.out
  have u6_1 := (HU613.out.cells _ _ us6).trans U6_1.out
  go_wp2_with fail
  refine (markM_any HCM6.out HC613.out (show ds0.length + (cs0.length + szCs cs0 cs0.length) ≤ 1048576 by have := HRR0.out; omega)).mono ?_
  rintro e w14 ⟨k14, rfl, hka14, hkb14, hkp14⟩
  have hMq14 := HM13.out.size
  have HM14 := hide (show Ext w5 w14 from Below.trans HM13.out (hkp14.below HM13.out.size (fun k hk => Or.inl (by omega))))
  have HG14 := hide (OwnC.kpP HG13.out hkp14 (Or.inr (by omega)))
  have HCM8_14 := hide (ShL.kp (ShL.ext HCM8.out HC813.out) hkp14 (Or.inr (by omega)) (fun j hj => Or.inr (by omega)))
  clear hkp14 hMq14
  clear u6_0 u6_1
  have hkn14 : ¬ (k14 < 0) := by omega
  go_wp2_with fail
  refine (markClsB_any HCM8_14.out k14 (by omega) (by omega) (by obtain ⟨q1, q2, q3, -⟩ := HRR1.out; omega)).mono ?_
  rintro e w15 ⟨k15, rfl, hka15, hkb15, hmk15⟩
  have hkp15 := hmk15.keep
  clear hmk15
  have hMq15 := HM14.out.size
  have HM15 := hide (show Ext w5 w15 from Below.trans HM14.out (hkp15.below HM14.out.size (fun k hk => Or.inl (by omega))))
  have HG15 := hide (OwnC.kpP HG14.out hkp15 (Or.inr (by omega)))
  clear hkp15 hMq15
  have hkn15 : ¬ (k15 < 0) := by omega
  go_wp2_with fail
  refine (eqIntS_same _ _ xs0 _ (SInts.own hgc (show xs0.length * 8 ≤ 140737488355328 by omega) HG15.out HI640.out) (SInts.ext HS5.out ((HS5x5.out.trans HM15.out)))).mono ?_
  rintro e w16 ⟨rfl, hx16⟩
  have HM16 := hide (HM15.out.trans hx16)
  have HG16 := hide (OwnC.ext HG15.out hx16)
  clear hx16
  go_wp2_with fail
  refine (markIntS_any A9 xs0.length c9 b9 m9 g9 1 _ (by omega) (by omega) (by omega) (hide fun hp => ⟨(HG16.out hp).1, (HG16.out hp).2.1, (HG16.out hp).2.2.1⟩)).mono ?_
  rintro e w17 ⟨rfl, hgr17, hrw17⟩
  have hMq17 := HM16.out.size
  have HM17 := hide (show Ext w5 w17 from Below.trans HM16.out ((Keep.ofG hgr17).below HM16.out.size (fun k hk e => by unfold rowOf at e; split at e <;> simp at e; omega)))
  have HG17 : Hid (0 < xs0.length → A9 = some ⟨b9, 0, none⟩ ∧ w17.rowIs b9 3 m9 (mcell 1 g9 (xs0.length * 1)) ∧ xs0.length * 1 ≤ m9) := hide fun hp => ⟨(HG16.out hp).1, by rw [Nat.mul_one]; exact hrw17 (by omega), by have := (HG16.out hp).2.2.1; omega⟩
  clear hgr17 hrw17 hMq17
  have hq1 : ¬ (((1 : Int) + xs0.length) < 0) := by omega
  have hq2 : (((1 : Int) + xs0.length) != ((1 : Int) + xs0.length)) = false := by simp
  go_wp2_with fail
  refine (heldIntS_any A9 xs0.length c9 b9 m9 g9 1 _ (by omega) (by omega) (by omega) (hide fun hp => ⟨(HG17.out hp).1, by have := (HG17.out hp).2.1; rwa [Nat.mul_one] at this, by have := (HG17.out hp).2.2; omega⟩)).mono ?_
  rintro e w18 ⟨rfl, rfl⟩
  have HM18 := HM17
  have HG18 := HG17
  have k0_0 := ((HB5.out.trans HM18.out).cells _ _ ks0).trans K0_0.out
  have k0_1 := ((HB5.out.trans HM18.out).cells _ _ ks0).trans K0_1.out
  go_wp2_with fail
  refine (toModel_any _ ds0 cs0 _ (HP0.out.ext ((HX5.out.trans HM18.out)))).mono ?_
  rintro e w19 ⟨bd19, bo19, F19, rfl, hcm19, hx19⟩
  have HC19 := hide (hcm19.smod HOK0.out)
  have HCM19 := hide hcm19
  have hMs19 := HM18.out.size
  have hst19 := hx19.size
  have HM19 := hide (HM18.out.trans hx19)
  have HG19 := hide (fun hp => ⟨(HG18.out hp).1, Ext.row hx19 (HG18.out hp).2.1, (HG18.out hp).2.2⟩ : 0 < xs0.length → A9 = some ⟨b9, 0, none⟩ ∧ w19.rowIs b9 3 m9 (mcell 1 g9 (xs0.length * 1)) ∧ xs0.length * 1 ≤ m9)
  clear hx19 hcm19
  clear k0_0 k0_1
  have HC1919 := hide (Ext.refl w19)
  go_wp2_with fail
  refine (toLiteralSS_any _ x1 _ (HP1.out.ext ((HX5.out.trans HM19.out)))).mono ?_
  rintro e w20 ⟨b20, hlo20, rfl, hr20, hx20⟩
  have HC20 := hide (hr20.rows HY1.out.1 HY1.out.2)
  have HCM20 := hide (ShL.of_own hr20)
  have hMs20 := HM19.out.size
  have hst20 := hx20.size
  have HM20 := hide (HM19.out.trans hx20)
  have HC1920 := hide (HC1919.out.trans hx20)
  have HG20 := hide (fun hp => ⟨(HG19.out hp).1, Ext.row hx20 (HG19.out hp).2.1, (HG19.out hp).2.2⟩ : 0 < xs0.length → A9 = some ⟨b9, 0, none⟩ ∧ w20.rowIs b9 3 m9 (mcell 1 g9 (xs0.length * 1)) ∧ xs0.length * 1 ≤ m9)
  clear hx20 hr20
  have HC2020 := hide (Ext.refl w20)
  go_wp2_with fail
  have hcc := PropagateClausesI_any _ _ ds0 cs0 x1 _ (HC19.out.ext (HC1920.out)) (HC20.out.ext (HC2020.out)) (fun i _ => fits_all _)
  rw [← HXS0.out] at hcc
  refine hcc.mono ?_
  clear hcc
  rintro e w21 ⟨A21, c21, b21, m21, g21, rfl, hco21, -, -, hso21, hx21⟩
  have HM21 := hide (HM20.out.trans hx21)
  have HC1921 := hide (HC1920.out.trans hx21)
  have HC2021 := hide (HC2020.out.trans hx21)
  have HG21 := hide (fun hp => ⟨(HG20.out hp).1, Ext.row hx21 (HG20.out hp).2.1, (HG20.out hp).2.2⟩ : 0 < xs0.length → A9 = some ⟨b9, 0, none⟩ ∧ w21.rowIs b9 3 m9 (mcell 1 g9 (xs0.length * 1)) ∧ xs0.length * 1 ≤ m9)
  clear hx21
  have HS21 := hide (SInts.own hco21 (show xs0.length * 8 ≤ 140737488355328 by omega) hso21 HI640.out)
  clear hso21
  have HS21x21 := hide (Ext.refl w21)
  go_wp2_with fail
  refine (eqIntS_same _ _ xs0 _ (SInts.ext HS21.out (HS21x21.out)) (SInts.ext HS5.out ((HS5x5.out.trans HM21.out)))).mono ?_
  rintro e w22 ⟨rfl, hx22⟩
  have HM22 := hide (HM21.out.trans hx22)
  have HC1922 := hide (HC1921.out.trans hx22)
  have HC2022 := hide (HC2021.out.trans hx22)
  have HS21x22 := hide (HS21x21.out.trans hx22)
  have HG22 := hide (fun hp => ⟨(HG21.out hp).1, Ext.row hx22 (HG21.out hp).2.1, (HG21.out hp).2.2⟩ : 0 < xs0.length → A9 = some ⟨b9, 0, none⟩ ∧ w22.rowIs b9 3 m9 (mcell 1 g9 (xs0.length * 1)) ∧ xs0.length * 1 ≤ m9)
  clear hx22
  go_wp2_with fail
  refine (heldIntS_any A9 xs0.length c9 b9 m9 g9 1 _ (by omega) (by omega) (by omega) (hide fun hp => ⟨(HG22.out hp).1, by have := (HG22.out hp).2.1; rwa [Nat.mul_one] at this, by have := (HG22.out hp).2.2; omega⟩)).mono ?_
  rintro e w23 ⟨rfl, rfl⟩
  have HM23 := HM22
  have HC1923 := HC1922
  have HC2023 := HC2022
  have HS21x23 := HS21x22
  have HG23 := HG22
  go_wp2
  go_ret
  exact Ret.mk rfl (HX5.out.trans HM23.out)
end Go.Proofs.YtepmaclbeggpfaaGreat
