/- When a constraint is satisfied: satisfies of the reference, kind by kind. -/
import Derived.Test.YtpnlambndbfenaaSpS
import Derived.Test.YtpnlambndbfenaaSpS2
namespace Go.Proofs.Ytpnlambndbfenaa
open Go.RowKit

set_option maxRecDepth 100000 in
set_option maxHeartbeats 4000000 in
theorem sps_1 (vv va vr vx : Value) (vars args : List Int) (b : Int) (rows : List (List Int)) (x : List Int) (w : World) (hV : SInts w vv vars) (hA : SInts w va args) (hR : SRows w vr rows) (hX : SInts w vx x) (hx : ValL x) (hl : x.length = vars.length) (h4 : x.length ≤ 4) (h1 : 1 ≤ x.length) (ha : allR args (-9) 9 = true) (hal : args.length = vars.length):
    Calls Try.prog 109 #[.agg #[.int .i64 1, vv, va, .int .i64 b, vr], vx] w (Ret (.bool (satB ⟨1, vars, args, b, rows⟩ x)) w) := by
  have HXV := hide hx
  have HL := hide hl
  obtain ⟨Av, cv, rfl, -, hlv⟩ := hV.form
  obtain ⟨Aa, ca, rfl, -, hla⟩ := hA.form
  obtain ⟨Ar, cr, rfl, -, hlr⟩ := hR.form
  obtain ⟨Ax, cx, rfl, -, hlx⟩ := hX.form
  obtain ⟨w0, hw0⟩ : ∃ w0, w0 = w.alloc (.cells #[.int .i64 1, .slice Av vars.length cv, .slice Aa args.length ca, .int .i64 b, .slice Ar rows.length cr] 32) := ⟨_, rfl⟩
  have hx0 : Ext w w0 := by rw [hw0]; exact (Ext.refl w).alloc _
  have k0 : w0.cell? ⟨w.heap.size, 0, none⟩ = some (.int .i64 1) := by rw [hw0]; go_simp
  have k1 : w0.cell? ⟨w.heap.size, 1, none⟩ = some (.slice Av vars.length cv) := by rw [hw0]; go_simp
  have k2 : w0.cell? ⟨w.heap.size, 2, none⟩ = some (.slice Aa args.length ca) := by rw [hw0]; go_simp
  have k3 : w0.cell? ⟨w.heap.size, 3, none⟩ = some (.int .i64 b) := by rw [hw0]; go_simp
  have k4 : w0.cell? ⟨w.heap.size, 4, none⟩ = some (.slice Ar rows.length cr) := by rw [hw0]; go_simp
  have ks : w.heap.size < w0.heap.size := by rw [hw0]; simp
  have HX0 := hide hx0
  have hV0 := hide (hV.ext hx0)
  have hA0 := hide (hA.ext hx0)
  have hR0 := hide (hR.ext hx0)
  have hX0 := hide (hX.ext hx0)
  have K0 := hide k0
  have K1 := hide k1
  have K2 := hide k2
  have K3 := hide k3
  have K4 := hide k4
  clear hx0 hV hA hR hX hx hl k0 k1 k2 k3 k4
  have _u4 := h4
  have _u1 := h1
  clear _u4 _u1
  have HA := hide ha
  have hal2 : args.length = x.length := hal.trans HL.out.symm
  have HAL := hide hal2
  have HS := hide (show satB ⟨1, vars, args, b, rows⟩ x = decide (wsum args x x.length ≤ b) from rfl)
  clear ha hal hal2
  go_enter Try.func109, Try.ntmps109
  go_wp2
  rw [← hw0]
  clear hw0
  go_loopw [5, 6] (fun s i wr => ∃ k : Nat, k ≤ x.length ∧ i = .int .i64 k ∧ s = .int .i64 (wsum args x k) ∧ Ext w0 wr) (fun _ i _ => x.length - (intOf i).toNat)
  case atStart => exact ⟨0, Nat.zero_le _, rfl, rfl, Ext.refl _⟩
  case round =>
    obtain ⟨k, hk, rfl, rfl, hxk⟩ := hrel
    have HXK := hide hxk
    have g2 := (hxk.cells _ _ ks).trans K2.out
    have g3 := (hxk.cells _ _ ks).trans K3.out
    have ksr := Nat.lt_of_lt_of_le ks hxk.size
    clear hxk
    by_cases hlt : k < x.length
    · have hkI : (k : Int) < x.length := by omega
      have hka : k < args.length := by rw [HAL.out]; exact hlt
      have hkaI : (k : Int) < args.length := by omega
      obtain ⟨bx, ox, rfl, hbx, f2⟩ := (hX0.out.ext HXK.out).at_ hlt
      obtain ⟨ba, oa, rfl, hba, f1⟩ := (hA0.out.ext HXK.out).at_ hka
      have h1' := wsum_bd HA.out HXV.out HAL.out k (by omega)
      have h2 := allR_at HA.out hka
      have h3 := HXV.out k hlt
      have h5 := mul_bd (A := 9) (X := 5) h2.1 h2.2 h3.1 h3.2 (by omega)
      obtain ⟨p, hp⟩ : ∃ p, p = at0 args k * at0 x k := ⟨_, rfl⟩
      have HK := hide (show wsum args x k + p = wsum args x (k + 1) by rw [hp]; rfl)
      rw [← hp] at h5
      have kp : IntKind.i64.wrap (at0 args k * at0 x k) = p := by rw [← hp]; exact IntWalk.i64_in _ (by omega)
      have kq : IntKind.i64.wrap (wsum args x k + p) = wsum args x k + p := IntWalk.i64_in _ (by omega)
      clear hp
      go_wp2
      refine wp_region_ext (by kernel_rfl) (by kernel_rfl) ?_
      iterate 13 (apply quiet_val; (focus rfl); (focus (intro w' hw'; have hk' := hw'.cells; go_simp; all_goals exact rfl)); simp only [Act.put, List.setIfInBounds_toArray, List.set_cons_succ, List.set_cons_zero])
      refine wpQuiet_nil ?_
      intro w2 hx2
      have HX2 := hide (HXK.out.trans hx2)
      clear hx2
      go_wp2
      go_roundw
      case rel => exact ⟨k + 1, by omega, by go_num, by rw [← HK.out], HX2.out⟩
      case measure => simp [intOf]; omega
    · obtain rfl : k = x.length := by omega
      have hkI : ¬ ((x.length : Int) < x.length) := by omega
      go_wp2
      go_ret
      exact Ret.mk (ret_b HS.out.symm) (HX0.out.trans HXK.out)
set_option maxRecDepth 100000 in
set_option maxHeartbeats 4000000 in
theorem sps_2 (vv va vr vx : Value) (vars args : List Int) (b : Int) (rows : List (List Int)) (x : List Int) (w : World) (hV : SInts w vv vars) (hA : SInts w va args) (hR : SRows w vr rows) (hX : SInts w vx x) (hx : ValL x) (hl : x.length = vars.length) (h4 : x.length ≤ 4) (h1 : 1 ≤ x.length) (ha : allR args (-9) 9 = true) (hal : args.length = 1) (hv2 : vars.length = 2):
    Calls Try.prog 109 #[.agg #[.int .i64 2, vv, va, .int .i64 b, vr], vx] w (Ret (.bool (satB ⟨2, vars, args, b, rows⟩ x)) w) := by
  have HXV := hide hx
  have HL := hide hl
  obtain ⟨Av, cv, rfl, -, hlv⟩ := hV.form
  obtain ⟨Aa, ca, rfl, -, hla⟩ := hA.form
  obtain ⟨Ar, cr, rfl, -, hlr⟩ := hR.form
  obtain ⟨Ax, cx, rfl, -, hlx⟩ := hX.form
  obtain ⟨w0, hw0⟩ : ∃ w0, w0 = w.alloc (.cells #[.int .i64 2, .slice Av vars.length cv, .slice Aa args.length ca, .int .i64 b, .slice Ar rows.length cr] 32) := ⟨_, rfl⟩
  have hx0 : Ext w w0 := by rw [hw0]; exact (Ext.refl w).alloc _
  have k0 : w0.cell? ⟨w.heap.size, 0, none⟩ = some (.int .i64 2) := by rw [hw0]; go_simp
  have k1 : w0.cell? ⟨w.heap.size, 1, none⟩ = some (.slice Av vars.length cv) := by rw [hw0]; go_simp
  have k2 : w0.cell? ⟨w.heap.size, 2, none⟩ = some (.slice Aa args.length ca) := by rw [hw0]; go_simp
  have k3 : w0.cell? ⟨w.heap.size, 3, none⟩ = some (.int .i64 b) := by rw [hw0]; go_simp
  have k4 : w0.cell? ⟨w.heap.size, 4, none⟩ = some (.slice Ar rows.length cr) := by rw [hw0]; go_simp
  have ks : w.heap.size < w0.heap.size := by rw [hw0]; simp
  have HX0 := hide hx0
  have hV0 := hide (hV.ext hx0)
  have hA0 := hide (hA.ext hx0)
  have hR0 := hide (hR.ext hx0)
  have hX0 := hide (hX.ext hx0)
  have K0 := hide k0
  have K1 := hide k1
  have K2 := hide k2
  have K3 := hide k3
  have K4 := hide k4
  clear hx0 hV hA hR hX hx hl k0 k1 k2 k3 k4
  have _u4 := h4
  have _u1 := h1
  clear _u4 _u1
  have HS := hide (show satB ⟨2, vars, args, b, rows⟩ x = (at0 x 0 != at0 x 1 + at0 args 0) from rfl)
  have hx2l : x.length = 2 := HL.out.trans hv2
  have g0 := HXV.out 0 (by omega)
  have g1 := HXV.out 1 (by omega)
  have g2 := allR_at ha (k := 0) (by omega)
  have c2 := K2.out
  obtain ⟨bx, ox, rfl, hbx, f0⟩ := hX0.out.at_ (k := 0) (by omega)
  have f1 := hX0.out.cell_ (k := 1) (by omega)
  obtain ⟨ba, oa, rfl, hba, f2⟩ := hA0.out.at_ (k := 0) (by omega)
  have i0 : 0 < x.length := by omega
  have i1 : (1 : Int) < x.length := by omega
  have i2 : 0 < args.length := by omega
  simp only [Nat.add_zero] at f0 f2
  have kw : IntKind.i64.wrap (at0 x 1 + at0 args 0) = at0 x 1 + at0 args 0 := IntWalk.i64_in _ (by omega)
  have HH := hide hx2l
  have HHA := hide hal
  clear hx2l hv2 hal ha
  go_enter Try.func109, Try.ntmps109
  go_wp2
  rw [← hw0]
  clear hw0
  refine wp_region_ext (by kernel_rfl) (by kernel_rfl) ?_
  iterate 13 (apply quiet_val; (focus rfl); (focus (intro w' hw'; have hk' := hw'.cells; go_simp; all_goals exact rfl)); simp only [Act.put, List.setIfInBounds_toArray, List.set_cons_succ, List.set_cons_zero])
  refine wpQuiet_nil ?_
  intro w2 hx2
  have HX2 := hide (HX0.out.trans hx2)
  clear hx2
  go_wp2
  go_ret
  exact Ret.mk (ret_b HS.out.symm) HX2.out
set_option maxRecDepth 100000 in
set_option maxHeartbeats 4000000 in
theorem sps_3 (vv va vr vx : Value) (vars args : List Int) (b : Int) (rows : List (List Int)) (x : List Int) (w : World) (hV : SInts w vv vars) (hA : SInts w va args) (hR : SRows w vr rows) (hX : SInts w vx x) (hx : ValL x) (hl : x.length = vars.length) (h4 : x.length ≤ 4) (h1 : 1 ≤ x.length) :
    Calls Try.prog 109 #[.agg #[.int .i64 3, vv, va, .int .i64 b, vr], vx] w (Ret (.bool (satB ⟨3, vars, args, b, rows⟩ x)) w) := by
  have HXV := hide hx
  have HL := hide hl
  obtain ⟨Av, cv, rfl, -, hlv⟩ := hV.form
  obtain ⟨Aa, ca, rfl, -, hla⟩ := hA.form
  obtain ⟨Ar, cr, rfl, -, hlr⟩ := hR.form
  obtain ⟨Ax, cx, rfl, -, hlx⟩ := hX.form
  obtain ⟨w0, hw0⟩ : ∃ w0, w0 = w.alloc (.cells #[.int .i64 3, .slice Av vars.length cv, .slice Aa args.length ca, .int .i64 b, .slice Ar rows.length cr] 32) := ⟨_, rfl⟩
  have hx0 : Ext w w0 := by rw [hw0]; exact (Ext.refl w).alloc _
  have k0 : w0.cell? ⟨w.heap.size, 0, none⟩ = some (.int .i64 3) := by rw [hw0]; go_simp
  have k1 : w0.cell? ⟨w.heap.size, 1, none⟩ = some (.slice Av vars.length cv) := by rw [hw0]; go_simp
  have k2 : w0.cell? ⟨w.heap.size, 2, none⟩ = some (.slice Aa args.length ca) := by rw [hw0]; go_simp
  have k3 : w0.cell? ⟨w.heap.size, 3, none⟩ = some (.int .i64 b) := by rw [hw0]; go_simp
  have k4 : w0.cell? ⟨w.heap.size, 4, none⟩ = some (.slice Ar rows.length cr) := by rw [hw0]; go_simp
  have ks : w.heap.size < w0.heap.size := by rw [hw0]; simp
  have HX0 := hide hx0
  have hV0 := hide (hV.ext hx0)
  have hA0 := hide (hA.ext hx0)
  have hR0 := hide (hR.ext hx0)
  have hX0 := hide (hX.ext hx0)
  have K0 := hide k0
  have K1 := hide k1
  have K2 := hide k2
  have K3 := hide k3
  have K4 := hide k4
  clear hx0 hV hA hR hX hx hl k0 k1 k2 k3 k4
  have _u4 := h4
  have _u1 := h1
  clear _u4 _u1
  have HS := hide (show satB ⟨3, vars, args, b, rows⟩ x = dst x from rfl)
  go_enter Try.func109, Try.ntmps109
  go_wp2_with fail
  rw [← hw0]
  refine (distinctS_any _ x _ hX0.out).mono ?_
  rintro e w2 ⟨rfl, hx2⟩
  have HX2 := hide (HX0.out.trans hx2)
  clear hx2 hw0
  go_wp2
  go_ret
  exact Ret.mk (ret_b HS.out.symm) HX2.out
set_option maxRecDepth 100000 in
set_option maxHeartbeats 4000000 in
theorem sps_5 (vv va vr vx : Value) (vars args : List Int) (b : Int) (rows : List (List Int)) (x : List Int) (w : World) (hV : SInts w vv vars) (hA : SInts w va args) (hR : SRows w vr rows) (hX : SInts w vx x) (hx : ValL x) (hl : x.length = vars.length) (h4 : x.length ≤ 4) (h1 : 1 ≤ x.length) (hr : ∀ i, i < rows.length → (rw0 rows i).length = x.length) :
    Calls Try.prog 109 #[.agg #[.int .i64 5, vv, va, .int .i64 b, vr], vx] w (Ret (.bool (satB ⟨5, vars, args, b, rows⟩ x)) w) := by
  have HXV := hide hx
  have HL := hide hl
  obtain ⟨Av, cv, rfl, -, hlv⟩ := hV.form
  obtain ⟨Aa, ca, rfl, -, hla⟩ := hA.form
  obtain ⟨Ar, cr, rfl, -, hlr⟩ := hR.form
  obtain ⟨Ax, cx, rfl, -, hlx⟩ := hX.form
  obtain ⟨w0, hw0⟩ : ∃ w0, w0 = w.alloc (.cells #[.int .i64 5, .slice Av vars.length cv, .slice Aa args.length ca, .int .i64 b, .slice Ar rows.length cr] 32) := ⟨_, rfl⟩
  have hx0 : Ext w w0 := by rw [hw0]; exact (Ext.refl w).alloc _
  have k0 : w0.cell? ⟨w.heap.size, 0, none⟩ = some (.int .i64 5) := by rw [hw0]; go_simp
  have k1 : w0.cell? ⟨w.heap.size, 1, none⟩ = some (.slice Av vars.length cv) := by rw [hw0]; go_simp
  have k2 : w0.cell? ⟨w.heap.size, 2, none⟩ = some (.slice Aa args.length ca) := by rw [hw0]; go_simp
  have k3 : w0.cell? ⟨w.heap.size, 3, none⟩ = some (.int .i64 b) := by rw [hw0]; go_simp
  have k4 : w0.cell? ⟨w.heap.size, 4, none⟩ = some (.slice Ar rows.length cr) := by rw [hw0]; go_simp
  have ks : w.heap.size < w0.heap.size := by rw [hw0]; simp
  have HX0 := hide hx0
  have hV0 := hide (hV.ext hx0)
  have hA0 := hide (hA.ext hx0)
  have hR0 := hide (hR.ext hx0)
  have hX0 := hide (hX.ext hx0)
  have K0 := hide k0
  have K1 := hide k1
  have K2 := hide k2
  have K3 := hide k3
  have K4 := hide k4
  clear hx0 hV hA hR hX hx hl k0 k1 k2 k3 k4
  have _u4 := h4
  have _u1 := h1
  clear _u4 _u1
  have HR := hide hr
  clear hr
  have HS := hide (show satB ⟨5, vars, args, b, rows⟩ x = anyB (fun i => decide (rw0 rows i = x)) rows.length from rfl)
  go_enter Try.func109, Try.ntmps109
  go_wp2_with fail
  rw [← hw0]
  refine (hasRow_any _ _ rows x _ hR0.out hX0.out HR.out).mono ?_
  rintro e w2 ⟨rfl, hx2⟩
  have HX2 := hide (HX0.out.trans hx2)
  clear hx2 hw0
  go_wp2
  go_ret
  exact Ret.mk (ret_b HS.out.symm) HX2.out
set_option maxRecDepth 100000 in
set_option maxHeartbeats 4000000 in
theorem sps_7 (vv va vr vx : Value) (vars args : List Int) (b : Int) (rows : List (List Int)) (x : List Int) (w : World) (hV : SInts w vv vars) (hA : SInts w va args) (hR : SRows w vr rows) (hX : SInts w vx x) (hx : ValL x) (hl : x.length = vars.length) (h4 : x.length ≤ 4) (h1 : 1 ≤ x.length) (ha : allR args 0 9 = true) (hal : args.length = 2 * vars.length) (hb : inR b 0 9 = true) :
    Calls Try.prog 109 #[.agg #[.int .i64 7, vv, va, .int .i64 b, vr], vx] w (Ret (.bool (satB ⟨7, vars, args, b, rows⟩ x)) w) := by
  have HXV := hide hx
  have HL := hide hl
  obtain ⟨Av, cv, rfl, -, hlv⟩ := hV.form
  obtain ⟨Aa, ca, rfl, -, hla⟩ := hA.form
  obtain ⟨Ar, cr, rfl, -, hlr⟩ := hR.form
  obtain ⟨Ax, cx, rfl, -, hlx⟩ := hX.form
  obtain ⟨w0, hw0⟩ : ∃ w0, w0 = w.alloc (.cells #[.int .i64 7, .slice Av vars.length cv, .slice Aa args.length ca, .int .i64 b, .slice Ar rows.length cr] 32) := ⟨_, rfl⟩
  have hx0 : Ext w w0 := by rw [hw0]; exact (Ext.refl w).alloc _
  have k0 : w0.cell? ⟨w.heap.size, 0, none⟩ = some (.int .i64 7) := by rw [hw0]; go_simp
  have k1 : w0.cell? ⟨w.heap.size, 1, none⟩ = some (.slice Av vars.length cv) := by rw [hw0]; go_simp
  have k2 : w0.cell? ⟨w.heap.size, 2, none⟩ = some (.slice Aa args.length ca) := by rw [hw0]; go_simp
  have k3 : w0.cell? ⟨w.heap.size, 3, none⟩ = some (.int .i64 b) := by rw [hw0]; go_simp
  have k4 : w0.cell? ⟨w.heap.size, 4, none⟩ = some (.slice Ar rows.length cr) := by rw [hw0]; go_simp
  have ks : w.heap.size < w0.heap.size := by rw [hw0]; simp
  have HX0 := hide hx0
  have hV0 := hide (hV.ext hx0)
  have hA0 := hide (hA.ext hx0)
  have hR0 := hide (hR.ext hx0)
  have hX0 := hide (hX.ext hx0)
  have K0 := hide k0
  have K1 := hide k1
  have K2 := hide k2
  have K3 := hide k3
  have K4 := hide k4
  clear hx0 hV hA hR hX hx hl k0 k1 k2 k3 k4
  have _u4 := h4
  have _u1 := h1
  clear _u4 _u1
  have HA := hide ha
  have hal2 : args.length = 2 * x.length := by rw [hal, HL.out]
  have HAL := hide hal2
  have HB := hide hb
  clear ha hal hb hal2
  have HS := hide (show satB ⟨7, vars, args, b, rows⟩ x = roomB args b x from rfl)
  go_enter Try.func109, Try.ntmps109
  go_wp2_with fail
  rw [← hw0]
  refine (withinCapacity_any _ _ ⟨7, vars, args, b, rows⟩ x _ ⟨_, _, _, rfl, hV0.out, hA0.out, hR0.out⟩ hX0.out HA.out HB.out HXV.out HAL.out (by omega)).mono ?_
  rintro e w2 ⟨rfl, hx2⟩
  have HX2 := hide (HX0.out.trans hx2)
  clear hx2 hw0
  go_wp2
  go_ret
  exact Ret.mk (ret_b HS.out.symm) HX2.out
set_option maxRecDepth 100000 in
set_option maxHeartbeats 4000000 in
theorem sps_8 (vv va vr vx : Value) (vars args : List Int) (b : Int) (rows : List (List Int)) (x : List Int) (w : World) (hV : SInts w vv vars) (hA : SInts w va args) (hR : SRows w vr rows) (hX : SInts w vx x) (hx : ValL x) (hl : x.length = vars.length) (h4 : x.length ≤ 4) (h1 : 1 ≤ x.length) (hr : vRows rows 6 (-1) (rows.length - 1) = true):
    Calls Try.prog 109 #[.agg #[.int .i64 8, vv, va, .int .i64 b, vr], vx] w (Ret (.bool (satB ⟨8, vars, args, b, rows⟩ x)) w) := by
  have HXV := hide hx
  have HL := hide hl
  obtain ⟨Av, cv, rfl, -, hlv⟩ := hV.form
  obtain ⟨Aa, ca, rfl, -, hla⟩ := hA.form
  obtain ⟨Ar, cr, rfl, -, hlr⟩ := hR.form
  obtain ⟨Ax, cx, rfl, -, hlx⟩ := hX.form
  obtain ⟨w0, hw0⟩ : ∃ w0, w0 = w.alloc (.cells #[.int .i64 8, .slice Av vars.length cv, .slice Aa args.length ca, .int .i64 b, .slice Ar rows.length cr] 32) := ⟨_, rfl⟩
  have hx0 : Ext w w0 := by rw [hw0]; exact (Ext.refl w).alloc _
  have k0 : w0.cell? ⟨w.heap.size, 0, none⟩ = some (.int .i64 8) := by rw [hw0]; go_simp
  have k1 : w0.cell? ⟨w.heap.size, 1, none⟩ = some (.slice Av vars.length cv) := by rw [hw0]; go_simp
  have k2 : w0.cell? ⟨w.heap.size, 2, none⟩ = some (.slice Aa args.length ca) := by rw [hw0]; go_simp
  have k3 : w0.cell? ⟨w.heap.size, 3, none⟩ = some (.int .i64 b) := by rw [hw0]; go_simp
  have k4 : w0.cell? ⟨w.heap.size, 4, none⟩ = some (.slice Ar rows.length cr) := by rw [hw0]; go_simp
  have ks : w.heap.size < w0.heap.size := by rw [hw0]; simp
  have HX0 := hide hx0
  have hV0 := hide (hV.ext hx0)
  have hA0 := hide (hA.ext hx0)
  have hR0 := hide (hR.ext hx0)
  have hX0 := hide (hX.ext hx0)
  have K0 := hide k0
  have K1 := hide k1
  have K2 := hide k2
  have K3 := hide k3
  have K4 := hide k4
  clear hx0 hV hA hR hX hx hl k0 k1 k2 k3 k4
  have _u4 := h4
  have _u1 := h1
  clear _u4 _u1
  have HR := hide hr
  clear hr
  have HS := hide (show satB ⟨8, vars, args, b, rows⟩ x = acceptB rows args x from rfl)
  go_enter Try.func109, Try.ntmps109
  go_wp2_with fail
  rw [← hw0]
  refine (acceptsS_any _ _ ⟨8, vars, args, b, rows⟩ x _ ⟨_, _, _, rfl, hV0.out, hA0.out, hR0.out⟩ hX0.out HR.out HXV.out (by omega)).mono ?_
  rintro e w2 ⟨rfl, hx2⟩
  have HX2 := hide (HX0.out.trans hx2)
  clear hx2 hw0
  go_wp2
  go_ret
  exact Ret.mk (ret_b HS.out.symm) HX2.out
set_option maxRecDepth 100000 in
set_option maxHeartbeats 4000000 in
theorem sps_9 (vv va vr vx : Value) (vars args : List Int) (b : Int) (rows : List (List Int)) (x : List Int) (w : World) (hV : SInts w vv vars) (hA : SInts w va args) (hR : SRows w vr rows) (hX : SInts w vx x) (hx : ValL x) (hl : x.length = vars.length) (h4 : x.length ≤ 4) (h1 : 1 ≤ x.length) :
    Calls Try.prog 109 #[.agg #[.int .i64 9, vv, va, .int .i64 b, vr], vx] w (Ret (.bool (satB ⟨9, vars, args, b, rows⟩ x)) w) := by
  have HXV := hide hx
  have HL := hide hl
  obtain ⟨Av, cv, rfl, -, hlv⟩ := hV.form
  obtain ⟨Aa, ca, rfl, -, hla⟩ := hA.form
  obtain ⟨Ar, cr, rfl, -, hlr⟩ := hR.form
  obtain ⟨Ax, cx, rfl, -, hlx⟩ := hX.form
  obtain ⟨w0, hw0⟩ : ∃ w0, w0 = w.alloc (.cells #[.int .i64 9, .slice Av vars.length cv, .slice Aa args.length ca, .int .i64 b, .slice Ar rows.length cr] 32) := ⟨_, rfl⟩
  have hx0 : Ext w w0 := by rw [hw0]; exact (Ext.refl w).alloc _
  have k0 : w0.cell? ⟨w.heap.size, 0, none⟩ = some (.int .i64 9) := by rw [hw0]; go_simp
  have k1 : w0.cell? ⟨w.heap.size, 1, none⟩ = some (.slice Av vars.length cv) := by rw [hw0]; go_simp
  have k2 : w0.cell? ⟨w.heap.size, 2, none⟩ = some (.slice Aa args.length ca) := by rw [hw0]; go_simp
  have k3 : w0.cell? ⟨w.heap.size, 3, none⟩ = some (.int .i64 b) := by rw [hw0]; go_simp
  have k4 : w0.cell? ⟨w.heap.size, 4, none⟩ = some (.slice Ar rows.length cr) := by rw [hw0]; go_simp
  have ks : w.heap.size < w0.heap.size := by rw [hw0]; simp
  have HX0 := hide hx0
  have hV0 := hide (hV.ext hx0)
  have hA0 := hide (hA.ext hx0)
  have hR0 := hide (hR.ext hx0)
  have hX0 := hide (hX.ext hx0)
  have K0 := hide k0
  have K1 := hide k1
  have K2 := hide k2
  have K3 := hide k3
  have K4 := hide k4
  clear hx0 hV hA hR hX hx hl k0 k1 k2 k3 k4
  have _u4 := h4
  have _u1 := h1
  clear _u4 _u1
  have HS := hide (show satB ⟨9, vars, args, b, rows⟩ x = cycB x from rfl)
  go_enter Try.func109, Try.ntmps109
  go_wp2_with fail
  rw [← hw0]
  refine (isCircuit_any _ x _ hX0.out HXV.out h4 h1).mono ?_
  rintro e w2 ⟨rfl, hx2⟩
  have HX2 := hide (HX0.out.trans hx2)
  clear hx2 hw0
  go_wp2
  go_ret
  exact Ret.mk (ret_b HS.out.symm) HX2.out
set_option maxRecDepth 100000 in
set_option maxHeartbeats 4000000 in
theorem sps_6 (vv va vr vx : Value) (vars args : List Int) (b : Int) (rows : List (List Int)) (x : List Int) (w : World) (hV : SInts w vv vars) (hA : SInts w va args) (hR : SRows w vr rows) (hX : SInts w vx x) (hx : ValL x) (hl : x.length = vars.length) (h4 : x.length ≤ 4) (h1 : 1 ≤ x.length) (hal : args.length = 1):
    Calls Try.prog 109 #[.agg #[.int .i64 6, vv, va, .int .i64 b, vr], vx] w (Ret (.bool (satB ⟨6, vars, args, b, rows⟩ x)) w) := by
  have HXV := hide hx
  have HL := hide hl
  obtain ⟨Av, cv, rfl, -, hlv⟩ := hV.form
  obtain ⟨Aa, ca, rfl, -, hla⟩ := hA.form
  obtain ⟨Ar, cr, rfl, -, hlr⟩ := hR.form
  obtain ⟨Ax, cx, rfl, -, hlx⟩ := hX.form
  obtain ⟨w0, hw0⟩ : ∃ w0, w0 = w.alloc (.cells #[.int .i64 6, .slice Av vars.length cv, .slice Aa args.length ca, .int .i64 b, .slice Ar rows.length cr] 32) := ⟨_, rfl⟩
  have hx0 : Ext w w0 := by rw [hw0]; exact (Ext.refl w).alloc _
  have k0 : w0.cell? ⟨w.heap.size, 0, none⟩ = some (.int .i64 6) := by rw [hw0]; go_simp
  have k1 : w0.cell? ⟨w.heap.size, 1, none⟩ = some (.slice Av vars.length cv) := by rw [hw0]; go_simp
  have k2 : w0.cell? ⟨w.heap.size, 2, none⟩ = some (.slice Aa args.length ca) := by rw [hw0]; go_simp
  have k3 : w0.cell? ⟨w.heap.size, 3, none⟩ = some (.int .i64 b) := by rw [hw0]; go_simp
  have k4 : w0.cell? ⟨w.heap.size, 4, none⟩ = some (.slice Ar rows.length cr) := by rw [hw0]; go_simp
  have ks : w.heap.size < w0.heap.size := by rw [hw0]; simp
  have HX0 := hide hx0
  have hV0 := hide (hV.ext hx0)
  have hA0 := hide (hA.ext hx0)
  have hR0 := hide (hR.ext hx0)
  have hX0 := hide (hX.ext hx0)
  have K0 := hide k0
  have K1 := hide k1
  have K2 := hide k2
  have K3 := hide k3
  have K4 := hide k4
  clear hx0 hV hA hR hX hx hl k0 k1 k2 k3 k4
  have _u4 := h4
  have _u1 := h1
  clear _u4 _u1
  have HS := hide (show satB ⟨6, vars, args, b, rows⟩ x = (cntV x (at0 args 0) x.length == b) from rfl)
  obtain ⟨ba, oa, rfl, hba, f2⟩ := hA0.out.at_ (k := 0) (by omega)
  simp only [Nat.add_zero] at f2
  have F2 := hide f2
  have i2 : 0 < args.length := by omega
  have HAL := hide hal
  clear hal f2
  go_enter Try.func109, Try.ntmps109
  go_wp2
  rw [← hw0]
  clear hw0
  go_loopw [7, 8] (fun s i wr => ∃ k : Nat, k ≤ x.length ∧ i = .int .i64 k ∧ s = .int .i64 (cntV x (at0 args 0) k) ∧ Ext w0 wr) (fun _ i _ => x.length - (intOf i).toNat)
  case atStart => exact ⟨0, by omega, rfl, rfl, Ext.refl _⟩
  case round =>
    obtain ⟨k, hk, rfl, rfl, hxk⟩ := hrel
    have HXK := hide hxk
    have g2 := (hxk.cells _ _ ks).trans K2.out
    have g3 := (hxk.cells _ _ ks).trans K3.out
    have f2 := (hxk.cells _ _ hba).trans F2.out
    have ksr := Nat.lt_of_lt_of_le ks hxk.size
    have hbar := Nat.lt_of_lt_of_le hba hxk.size
    have hcb := cntV_bd x (at0 args 0) k
    clear hxk
    by_cases hlt : k < x.length
    · have hkI : (k : Int) < x.length := by omega
      obtain ⟨bx, ox, rfl, hbx, f1⟩ := (hX0.out.ext HXK.out).at_ hlt
      cases he : (at0 x k == at0 args 0) with
      | true =>
        have HK := hide (show cntV x (at0 args 0) k + 1 = cntV x (at0 args 0) (k + 1) by rw [cntV, if_pos he])
        go_wp2
        refine wp_region_ext (by kernel_rfl) (by kernel_rfl) ?_
        iterate 9 (apply quiet_val; (focus rfl); (focus (intro w' hw'; have hk' := hw'.cells; go_simp; all_goals exact rfl)); simp only [Act.put, List.setIfInBounds_toArray, List.set_cons_succ, List.set_cons_zero])
        refine wpQuiet_nil ?_
        intro w2 hx2
        have HX2 := hide (HXK.out.trans hx2)
        clear hx2
        go_wp2
        go_roundw
        case rel => exact ⟨k + 1, by omega, by go_num, by rw [← HK.out], HX2.out⟩
        case measure => simp [intOf]; omega
      | false =>
        have HK := hide (show cntV x (at0 args 0) k = cntV x (at0 args 0) (k + 1) by rw [cntV, he]; rfl)
        go_wp2
        refine wp_region_ext (by kernel_rfl) (by kernel_rfl) ?_
        iterate 9 (apply quiet_val; (focus rfl); (focus (intro w' hw'; have hk' := hw'.cells; go_simp; all_goals exact rfl)); simp only [Act.put, List.setIfInBounds_toArray, List.set_cons_succ, List.set_cons_zero])
        refine wpQuiet_nil ?_
        intro w2 hx2
        have HX2 := hide (HXK.out.trans hx2)
        clear hx2
        go_wp2
        go_roundw
        case rel => exact ⟨k + 1, by omega, by go_num, by rw [← HK.out], HX2.out⟩
        case measure => simp [intOf]; omega
    · obtain rfl : k = x.length := by omega
      have hkI : ¬ ((x.length : Int) < x.length) := by omega
      go_wp2
      go_ret
      exact Ret.mk (ret_b HS.out.symm) (HX0.out.trans HXK.out)
set_option maxRecDepth 100000 in
set_option maxHeartbeats 4000000 in
theorem sps_4 (vv va vr vx : Value) (vars args : List Int) (b : Int) (rows : List (List Int)) (x : List Int) (w : World) (hV : SInts w vv vars) (hA : SInts w va args) (hR : SRows w vr rows) (hX : SInts w vx x) (hx : ValL x) (hl : x.length = vars.length) (h4 : x.length ≤ 4) (h1 : 1 ≤ x.length) (hv2 : vars.length = 2):
    Calls Try.prog 109 #[.agg #[.int .i64 4, vv, va, .int .i64 b, vr], vx] w (Ret (.bool (satB ⟨4, vars, args, b, rows⟩ x)) w) := by
  have HXV := hide hx
  have HL := hide hl
  obtain ⟨Av, cv, rfl, -, hlv⟩ := hV.form
  obtain ⟨Aa, ca, rfl, -, hla⟩ := hA.form
  obtain ⟨Ar, cr, rfl, -, hlr⟩ := hR.form
  obtain ⟨Ax, cx, rfl, -, hlx⟩ := hX.form
  obtain ⟨w0, hw0⟩ : ∃ w0, w0 = w.alloc (.cells #[.int .i64 4, .slice Av vars.length cv, .slice Aa args.length ca, .int .i64 b, .slice Ar rows.length cr] 32) := ⟨_, rfl⟩
  have hx0 : Ext w w0 := by rw [hw0]; exact (Ext.refl w).alloc _
  have k0 : w0.cell? ⟨w.heap.size, 0, none⟩ = some (.int .i64 4) := by rw [hw0]; go_simp
  have k1 : w0.cell? ⟨w.heap.size, 1, none⟩ = some (.slice Av vars.length cv) := by rw [hw0]; go_simp
  have k2 : w0.cell? ⟨w.heap.size, 2, none⟩ = some (.slice Aa args.length ca) := by rw [hw0]; go_simp
  have k3 : w0.cell? ⟨w.heap.size, 3, none⟩ = some (.int .i64 b) := by rw [hw0]; go_simp
  have k4 : w0.cell? ⟨w.heap.size, 4, none⟩ = some (.slice Ar rows.length cr) := by rw [hw0]; go_simp
  have ks : w.heap.size < w0.heap.size := by rw [hw0]; simp
  have HX0 := hide hx0
  have hV0 := hide (hV.ext hx0)
  have hA0 := hide (hA.ext hx0)
  have hR0 := hide (hR.ext hx0)
  have hX0 := hide (hX.ext hx0)
  have K0 := hide k0
  have K1 := hide k1
  have K2 := hide k2
  have K3 := hide k3
  have K4 := hide k4
  clear hx0 hV hA hR hX hx hl k0 k1 k2 k3 k4
  have _u4 := h4
  have _u1 := h1
  clear _u4 _u1
  have HS := hide (show satB ⟨4, vars, args, b, rows⟩ x = (decide (at0 x 0 < args.length) && (at0 args (at0 x 0).toNat == at0 x 1)) from rfl)
  have hx2l : x.length = 2 := HL.out.trans hv2
  have g0 := HXV.out 0 (by omega)
  have g1 := HXV.out 1 (by omega)
  have c2 := K2.out
  obtain ⟨bx, ox, rfl, hbx, f0⟩ := hX0.out.at_ (k := 0) (by omega)
  have f1 := hX0.out.cell_ (k := 1) (by omega)
  have i0 : 0 < x.length := by omega
  have i1 : (1 : Int) < x.length := by omega
  simp only [Nat.add_zero] at f0
  obtain ⟨u, hu⟩ : ∃ u : Nat, at0 x 0 = u := ⟨(at0 x 0).toNat, by omega⟩
  rw [hu] at f0 g0 HS
  by_cases hul : u < args.length
  · obtain ⟨ba, oa, rfl, hba, f2⟩ := hA0.out.at_ hul
    have huI : (u : Int) < args.length := by omega
    have HU := hide (show (decide ((u : Int) < args.length) && (at0 args (u : Int).toNat == at0 x 1)) = (at0 args u == at0 x 1) by rw [decide_eq_true huI]; rfl)
    have HH := hide hx2l
    clear hx2l hv2 hu
    go_enter Try.func109, Try.ntmps109
    go_wp2
    rw [← hw0]
    clear hw0
    refine wp_region_ext (by kernel_rfl) (by kernel_rfl) ?_
    iterate 8 (apply quiet_val; (focus rfl); (focus (intro w' hw'; have hk' := hw'.cells; go_simp; all_goals exact rfl)); simp only [Act.put, List.setIfInBounds_toArray, List.set_cons_succ, List.set_cons_zero])
    iterate 11 (go_big_quiet_want; apply quietK_val; (focus (intro w' hw'; have hk' := hw'.cells; go_simp; all_goals exact rfl)); simp only [Act.put, List.setIfInBounds_toArray, List.set_cons_succ, List.set_cons_zero]; go_big_quiet_on)
    iterate 2 (apply quiet_val; (focus rfl); (focus (intro w' hw'; have hk' := hw'.cells; go_simp; all_goals exact rfl)); simp only [Act.put, List.setIfInBounds_toArray, List.set_cons_succ, List.set_cons_zero])
    refine wpQuiet_nil ?_
    intro w2 hx2
    have HX2 := hide (HX0.out.trans hx2)
    clear hx2
    go_wp2
    go_ret
    exact Ret.mk (ret_b (by rw [HS.out, HU.out])) HX2.out
  · have huI : ¬ (u : Int) < args.length := by omega
    have huD : decide ((u : Int) < args.length) = false := by simp; omega
    have HU := hide (show (decide ((u : Int) < args.length) && (at0 args (u : Int).toNat == at0 x 1)) = false by rw [decide_eq_false huI]; rfl)
    have HH := hide hx2l
    clear hx2l hv2 hu
    go_enter Try.func109, Try.ntmps109
    go_wp2
    rw [← hw0]
    clear hw0
    refine wp_region_ext (by kernel_rfl) (by kernel_rfl) ?_
    iterate 8 (apply quiet_val; (focus rfl); (focus (intro w' hw'; have hk' := hw'.cells; go_simp; all_goals exact rfl)); simp only [Act.put, List.setIfInBounds_toArray, List.set_cons_succ, List.set_cons_zero])
    iterate 11 go_big_quiet_skip
    iterate 2 (apply quiet_val; (focus rfl); (focus (intro w' hw'; have hk' := hw'.cells; go_simp; all_goals exact rfl)); simp only [Act.put, List.setIfInBounds_toArray, List.set_cons_succ, List.set_cons_zero])
    refine wpQuiet_nil ?_
    intro w2 hx2
    have HX2 := hide (HX0.out.trans hx2)
    clear hx2
    go_wp2
    go_ret
    exact Ret.mk (ret_b (by rw [HS.out, HU.out])) HX2.out
theorem satisfiesS_any (v vx : Value) (c : Con) (x : List Int) (n : Int) (w : World) (hC : SCon w v c) (hX : SInts w vx x) (hv : vCon c n = true) (hx : ValL x) (hl : x.length = c.vars.length) :
    Calls Try.prog 109 #[v, vx] w (Ret (.bool (satB c x)) w) := by
  obtain ⟨v1, v2, v3, -, -, hf⟩ := vCon_len hv
  obtain ⟨vv, va, vr, rfl, hV, hA, hR⟩ := hC
  obtain ⟨kk, vars, args, b, rows⟩ := c
  simp only at hV hA hR hl v1 v2 hf ⊢
  have h1 : 1 ≤ x.length := by omega
  have h4 : x.length ≤ 4 := by omega
  unfold fitB argsB at hf
  split at hf
  · subst kk
    simp only [Bool.and_eq_true, beq_iff_eq] at hf
    exact sps_1 _ _ _ _ vars args b rows x w hV hA hR hX hx hl h4 h1 hf.1.2 (by omega)
  split at hf
  · subst kk
    simp only [Bool.and_eq_true, beq_iff_eq] at hf
    exact sps_2 _ _ _ _ vars args b rows x w hV hA hR hX hx hl h4 h1 hf.2.1.2 (by omega) (by omega)
  split at hf
  · rename_i hk
    rcases hk with rfl | rfl
    · exact sps_3 _ _ _ _ vars args b rows x w hV hA hR hX hx hl h4 h1
    · exact sps_9 _ _ _ _ vars args b rows x w hV hA hR hX hx hl h4 h1
  split at hf
  · subst kk
    simp only [Bool.and_eq_true, beq_iff_eq] at hf
    exact sps_4 _ _ _ _ vars args b rows x w hV hA hR hX hx hl h4 h1 (by omega)
  split at hf
  · subst kk
    refine sps_5 _ _ _ _ vars args b rows x w hV hA hR hX hx hl h4 h1 ?_
    simp only [Bool.and_eq_true, beq_iff_eq] at hf
    intro i hi
    have := (vRows_at hf.2.2 hi).1
    omega
  split at hf
  · subst kk
    simp only [Bool.and_eq_true, beq_iff_eq] at hf
    exact sps_6 _ _ _ _ vars args b rows x w hV hA hR hX hx hl h4 h1 (by omega)
  split at hf
  · subst kk
    simp only [Bool.and_eq_true, beq_iff_eq] at hf
    exact sps_7 _ _ _ _ vars args b rows x w hV hA hR hX hx hl h4 h1 hf.1.2 (by omega) hf.2.1
  split at hf
  · subst kk
    simp only [Bool.and_eq_true] at hf
    exact sps_8 _ _ _ _ vars args b rows x w hV hA hR hX hx hl h4 h1 hf.1
  · cases hf
end Go.Proofs.Ytpnlambndbfenaa
