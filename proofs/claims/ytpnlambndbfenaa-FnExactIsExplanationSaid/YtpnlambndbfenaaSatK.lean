/- When a constraint is satisfied: satisfied of the program, kind by kind. -/
import Derived.Test.YtpnlambndbfenaaSatI
namespace Go.Proofs.Ytpnlambndbfenaa
open Go.RowKit

theorem eqRow_any (v vx : Value) (xs x : List Int) (b : Nat) (w : World) (hS : SInts w v xs) (hX : SInts w vx x) (h : w.cell? ⟨b, 0, none⟩ = some vx) :
    Calls Try.prog 149 #[v, .pointer (some ⟨b, 0, none⟩)] w (Ret (.bool (decide (xs = x))) w) := by
  have hS0 := hide hS
  have hX0 := hide hX
  obtain ⟨A, c, rfl, -⟩ := hS.form
  obtain ⟨A', c', rfl, -⟩ := hX.form
  clear hS hX
  go_enter Try.func149, Try.ntmps149
  go_wp2_with fail
  refine (EqualI_any _ _ xs x _ hS0.out hX0.out).mono ?_
  rintro e w2 ⟨rfl, hx2⟩
  go_wp2
  go_ret
  exact Ret.mk rfl hx2
set_option maxRecDepth 100000 in
set_option maxHeartbeats 4000000 in
theorem sat_1 (vv va vr vx : Value) (vars args : List Int) (b : Int) (rows : List (List Int)) (x : List Int) (w : World) (hV : SInts w vv vars) (hA : SInts w va args) (hR : SRows w vr rows) (hX : SInts w vx x) (hx : ValL x) (hl : x.length = vars.length) (h4 : x.length ≤ 4) (h1 : 1 ≤ x.length) (ha : allR args (-9) 9 = true) (hal : args.length = vars.length) :
    Calls Try.prog 129 #[.agg #[.int .i64 1, vv, va, .int .i64 b, vr], vx] w (Ret (.bool (satB ⟨1, vars, args, b, rows⟩ x)) w) := by
  have HXV := hide hx
  have HL := hide hl
  obtain ⟨Av, cv, rfl, -, hlv⟩ := hV.form
  obtain ⟨Aa, ca, rfl, -, hla⟩ := hA.form
  obtain ⟨Ar, cr, rfl, -, hlr⟩ := hR.form
  obtain ⟨Ax, cx, rfl, -, hlx⟩ := hX.form
  have hx0 := ((Ext.refl w).alloc (.cells #[.int .i64 1, .slice Av vars.length cv, .slice Aa args.length ca, .int .i64 b, .slice Ar rows.length cr] 32)).alloc (.cells #[.slice Ax x.length cx] 22)
  have HX0 := hide hx0
  have hV0 := hide (hV.ext hx0)
  have hA0 := hide (hA.ext hx0)
  have hR0 := hide (hR.ext hx0)
  have hX0 := hide (hX.ext hx0)
  clear hx0 hV hA hR hX hx hl
  have HA := hide ha
  have HAL := hide (hal.trans HL.out.symm)
  have HS := hide (show satB ⟨1, vars, args, b, rows⟩ x = decide (wsum args x x.length ≤ b) from rfl)
  clear ha hal
  go_enter Try.func129, Try.ntmps129
  go_wp2
  refine wp_region_ext (by kernel_rfl) (by kernel_rfl) ?_
  iterate 3 (apply quiet_val; (focus rfl); (focus (intro w' hw'; have hk' := hw'.cells; go_simp; all_goals exact rfl)); simp only [Act.put, List.setIfInBounds_toArray, List.set_cons_succ, List.set_cons_zero])
  apply quiet_call; (focus rfl); (focus (intro w' hw'; go_simp; all_goals (first | exact rfl | (apply And.intro <;> exact rfl))))
  · exact fun w' hw' => same_quiet (weighted_any _ _ args x w' (hA0.out.ext hw') (hX0.out.ext hw') HA.out HXV.out HAL.out (by omega)) hw'
  (simp only [Act.put, List.setIfInBounds_toArray, List.set_cons_succ, List.set_cons_zero])
  iterate 4 (apply quiet_val; (focus rfl); (focus (intro w' hw'; have hk' := hw'.cells; go_simp; all_goals exact rfl)); simp only [Act.put, List.setIfInBounds_toArray, List.set_cons_succ, List.set_cons_zero])
  refine wpQuiet_nil ?_
  intro w2 hx2
  have HX2 := hide (HX0.out.trans hx2)
  clear hx2
  go_wp2
  go_ret
  exact Ret.mk (ret_b HS.out.symm) HX2.out
set_option maxRecDepth 100000 in
set_option maxHeartbeats 4000000 in
theorem sat_2 (vv va vr vx : Value) (vars args : List Int) (b : Int) (rows : List (List Int)) (x : List Int) (w : World) (hV : SInts w vv vars) (hA : SInts w va args) (hR : SRows w vr rows) (hX : SInts w vx x) (hx : ValL x) (hl : x.length = vars.length) (_h4 : x.length ≤ 4) (_h1 : 1 ≤ x.length) (ha : allR args (-9) 9 = true) (hal : args.length = 1) (hv2 : vars.length = 2) :
    Calls Try.prog 129 #[.agg #[.int .i64 2, vv, va, .int .i64 b, vr], vx] w (Ret (.bool (satB ⟨2, vars, args, b, rows⟩ x)) w) := by
  have HXV := hide hx
  have HL := hide hl
  obtain ⟨Av, cv, rfl, -, hlv⟩ := hV.form
  obtain ⟨Aa, ca, rfl, -, hla⟩ := hA.form
  obtain ⟨Ar, cr, rfl, -, hlr⟩ := hR.form
  obtain ⟨Ax, cx, rfl, -, hlx⟩ := hX.form
  have hx0 := ((Ext.refl w).alloc (.cells #[.int .i64 2, .slice Av vars.length cv, .slice Aa args.length ca, .int .i64 b, .slice Ar rows.length cr] 32)).alloc (.cells #[.slice Ax x.length cx] 22)
  have HX0 := hide hx0
  have hV0 := hide (hV.ext hx0)
  have hA0 := hide (hA.ext hx0)
  have hR0 := hide (hR.ext hx0)
  have hX0 := hide (hX.ext hx0)
  clear hx0 hV hA hR hX hx hl
  have HS := hide (show satB ⟨2, vars, args, b, rows⟩ x = (at0 x 0 != at0 x 1 + at0 args 0) from rfl)
  have hx2l : x.length = 2 := HL.out.trans hv2
  have g0 := HXV.out 0 (by omega)
  have g1 := HXV.out 1 (by omega)
  have g2 := allR_at ha (k := 0) (by omega)
  have c2 : ((w.alloc (.cells #[.int .i64 2, .slice Av vars.length cv, .slice Aa args.length ca, .int .i64 b, .slice Ar rows.length cr] 32)).alloc (.cells #[.slice Ax x.length cx] 22)).cell? ⟨w.heap.size, 2, none⟩ = some (.slice Aa args.length ca) := by go_simp
  have cx0 : ((w.alloc (.cells #[.int .i64 2, .slice Av vars.length cv, .slice Aa args.length ca, .int .i64 b, .slice Ar rows.length cr] 32)).alloc (.cells #[.slice Ax x.length cx] 22)).cell? ⟨w.heap.size + 1, 0, none⟩ = some (.slice Ax x.length cx) := by go_simp
  have z0 : w.heap.size < ((w.alloc (.cells #[.int .i64 2, .slice Av vars.length cv, .slice Aa args.length ca, .int .i64 b, .slice Ar rows.length cr] 32)).alloc (.cells #[.slice Ax x.length cx] 22)).heap.size := by rw [World.size_alloc, World.size_alloc]; omega
  have z1 : w.heap.size + 1 < ((w.alloc (.cells #[.int .i64 2, .slice Av vars.length cv, .slice Aa args.length ca, .int .i64 b, .slice Ar rows.length cr] 32)).alloc (.cells #[.slice Ax x.length cx] 22)).heap.size := by simp
  obtain ⟨W0, hW0⟩ : ∃ W0, W0 = ((w.alloc (.cells #[.int .i64 2, .slice Av vars.length cv, .slice Aa args.length ca, .int .i64 b, .slice Ar rows.length cr] 32)).alloc (.cells #[.slice Ax x.length cx] 22)) := ⟨_, rfl⟩
  rw [← hW0] at c2 cx0 z0 z1 hX0 hA0 HX0
  obtain ⟨bx, ox, rfl, hbx, f0⟩ := hX0.out.at_ (k := 0) (by omega)
  have f1 := hX0.out.cell_ (k := 1) (by omega)
  obtain ⟨ba, oa, rfl, hba, f2⟩ := hA0.out.at_ (k := 0) (by omega)
  have i0 : 0 < x.length := by omega
  have i1 : (1 : Int) < x.length := by omega
  have i2 : 0 < args.length := by omega
  simp only [Nat.add_zero] at f0 f2
  have ks : IntKind.i64.wrap (at0 x 1 + at0 args 0) = at0 x 1 + at0 args 0 := IntWalk.i64_in _ (by omega)
  have HH := hide hx2l
  clear hx2l ha hal hv2
  go_enter Try.func129, Try.ntmps129
  go_wp2
  rw [← hW0]
  clear hW0
  refine wp_region_ext (by kernel_rfl) (by kernel_rfl) ?_
  iterate 13 (apply quiet_val; (focus rfl); (focus (intro w' hw'; have hk' := hw'.cells; go_simp; all_goals exact rfl)); simp only [Act.put, List.setIfInBounds_toArray, List.set_cons_succ, List.set_cons_zero])
  refine wpQuiet_nil ?_
  intro w2 hx2
  have HX2 := hide (HX0.out.trans hx2)
  clear hx2 ks
  go_wp2
  go_ret
  exact Ret.mk (ret_b HS.out.symm) HX2.out
set_option maxRecDepth 100000 in
set_option maxHeartbeats 4000000 in
theorem sat_3 (vv va vr vx : Value) (vars args : List Int) (b : Int) (rows : List (List Int)) (x : List Int) (w : World) (hV : SInts w vv vars) (hA : SInts w va args) (hR : SRows w vr rows) (hX : SInts w vx x) (hx : ValL x) (hl : x.length = vars.length) (_h4 : x.length ≤ 4) (_h1 : 1 ≤ x.length)  :
    Calls Try.prog 129 #[.agg #[.int .i64 3, vv, va, .int .i64 b, vr], vx] w (Ret (.bool (satB ⟨3, vars, args, b, rows⟩ x)) w) := by
  have HXV := hide hx
  have HL := hide hl
  obtain ⟨Av, cv, rfl, -, hlv⟩ := hV.form
  obtain ⟨Aa, ca, rfl, -, hla⟩ := hA.form
  obtain ⟨Ar, cr, rfl, -, hlr⟩ := hR.form
  obtain ⟨Ax, cx, rfl, -, hlx⟩ := hX.form
  have hx0 := ((Ext.refl w).alloc (.cells #[.int .i64 3, .slice Av vars.length cv, .slice Aa args.length ca, .int .i64 b, .slice Ar rows.length cr] 32)).alloc (.cells #[.slice Ax x.length cx] 22)
  have HX0 := hide hx0
  have hV0 := hide (hV.ext hx0)
  have hA0 := hide (hA.ext hx0)
  have hR0 := hide (hR.ext hx0)
  have hX0 := hide (hX.ext hx0)
  clear hx0 hV hA hR hX hx hl
  have HS := hide (show satB ⟨3, vars, args, b, rows⟩ x = dst x from rfl)
  go_enter Try.func129, Try.ntmps129
  go_wp2_with (go_at_call 93; refine (distinct_any _ x _ hX0.out).mono ?_; rintro e w' ⟨rfl, rfl⟩)
  go_ret
  exact Ret.mk (ret_b HS.out.symm) HX0.out
set_option maxRecDepth 100000 in
set_option maxHeartbeats 4000000 in
theorem sat_5 (vv va vr vx : Value) (vars args : List Int) (b : Int) (rows : List (List Int)) (x : List Int) (w : World) (hV : SInts w vv vars) (hA : SInts w va args) (hR : SRows w vr rows) (hX : SInts w vx x) (hx : ValL x) (hl : x.length = vars.length) (_h4 : x.length ≤ 4) (_h1 : 1 ≤ x.length)  :
    Calls Try.prog 129 #[.agg #[.int .i64 5, vv, va, .int .i64 b, vr], vx] w (Ret (.bool (satB ⟨5, vars, args, b, rows⟩ x)) w) := by
  have HXV := hide hx
  have HL := hide hl
  obtain ⟨Av, cv, rfl, -, hlv⟩ := hV.form
  obtain ⟨Aa, ca, rfl, -, hla⟩ := hA.form
  obtain ⟨Ar, cr, rfl, -, hlr⟩ := hR.form
  obtain ⟨Ax, cx, rfl, -, hlx⟩ := hX.form
  have hx0 := ((Ext.refl w).alloc (.cells #[.int .i64 5, .slice Av vars.length cv, .slice Aa args.length ca, .int .i64 b, .slice Ar rows.length cr] 32)).alloc (.cells #[.slice Ax x.length cx] 22)
  have HX0 := hide hx0
  have hV0 := hide (hV.ext hx0)
  have hA0 := hide (hA.ext hx0)
  have hR0 := hide (hR.ext hx0)
  have hX0 := hide (hX.ext hx0)
  clear hx0 hV hA hR hX hx hl
  have HS := hide (show satB ⟨5, vars, args, b, rows⟩ x = anyB (fun i => decide (rw0 rows i = x)) rows.length from rfl)
  have k1 := hide (show ((w.alloc (.cells #[.int .i64 5, .slice Av vars.length cv, .slice Aa args.length ca, .int .i64 b, .slice Ar rows.length cr] 32)).alloc (.cells #[.slice Ax x.length cx] 22)).cell? ⟨w.heap.size + 1, 0, none⟩ = some (.slice Ax x.length cx) by go_simp)
  go_enter Try.func129, Try.ntmps129
  go_wp2_with fail
  refine (ContainsFuncR_any _ rows 149 #[.pointer (some ⟨w.heap.size + 1, 0, none⟩)] (fun i => decide (rw0 rows i = x)) _ hR0.out (fun args W => callFunc_body Try.func149 (by kernel_rfl) (by kernel_rfl) args W) (hide fun i hi rv W hW hrv => eqRow_any rv (.slice Ax x.length cx) (rw0 rows i) x (w.heap.size + 1) W hrv (hX0.out.ext hW) ((hW.cells _ _ (by simp)).trans k1.out))).mono ?_
  rintro e w2 ⟨rfl, hx2⟩
  have HX2 := hide (HX0.out.trans hx2)
  clear hx2
  go_wp2
  go_ret
  exact Ret.mk (ret_b HS.out.symm) HX2.out
set_option maxRecDepth 100000 in
set_option maxHeartbeats 4000000 in
theorem sat_7 (vv va vr vx : Value) (vars args : List Int) (b : Int) (rows : List (List Int)) (x : List Int) (w : World) (hV : SInts w vv vars) (hA : SInts w va args) (hR : SRows w vr rows) (hX : SInts w vx x) (hx : ValL x) (hl : x.length = vars.length) (h4 : x.length ≤ 4) (h1 : 1 ≤ x.length) (ha : allR args 0 9 = true) (hal : args.length = 2 * vars.length) (hb : inR b 0 9 = true) :
    Calls Try.prog 129 #[.agg #[.int .i64 7, vv, va, .int .i64 b, vr], vx] w (Ret (.bool (satB ⟨7, vars, args, b, rows⟩ x)) w) := by
  have HXV := hide hx
  have HL := hide hl
  obtain ⟨Av, cv, rfl, -, hlv⟩ := hV.form
  obtain ⟨Aa, ca, rfl, -, hla⟩ := hA.form
  obtain ⟨Ar, cr, rfl, -, hlr⟩ := hR.form
  obtain ⟨Ax, cx, rfl, -, hlx⟩ := hX.form
  have hx0 := ((Ext.refl w).alloc (.cells #[.int .i64 7, .slice Av vars.length cv, .slice Aa args.length ca, .int .i64 b, .slice Ar rows.length cr] 32)).alloc (.cells #[.slice Ax x.length cx] 22)
  have HX0 := hide hx0
  have hV0 := hide (hV.ext hx0)
  have hA0 := hide (hA.ext hx0)
  have hR0 := hide (hR.ext hx0)
  have hX0 := hide (hX.ext hx0)
  clear hx0 hV hA hR hX hx hl
  have HA := hide ha
  have HAL := hide (show args.length = 2 * x.length by rw [hal, HL.out])
  have HB := hide hb
  have HS := hide (show satB ⟨7, vars, args, b, rows⟩ x = roomB args b x from rfl)
  clear ha hal hb
  go_enter Try.func129, Try.ntmps129
  go_wp2_with fail
  refine (roomy_any _ _ ⟨7, vars, args, b, rows⟩ x _ ⟨_, _, _, rfl, hV0.out, hA0.out, hR0.out⟩ hX0.out HA.out HB.out HXV.out HAL.out (by omega)).mono ?_
  rintro e w2 ⟨rfl, hx2⟩
  have HX2 := hide (HX0.out.trans hx2)
  clear hx2
  go_wp2
  go_ret
  exact Ret.mk (ret_b HS.out.symm) HX2.out
set_option maxRecDepth 100000 in
set_option maxHeartbeats 4000000 in
theorem sat_8 (vv va vr vx : Value) (vars args : List Int) (b : Int) (rows : List (List Int)) (x : List Int) (w : World) (hV : SInts w vv vars) (hA : SInts w va args) (hR : SRows w vr rows) (hX : SInts w vx x) (hx : ValL x) (hl : x.length = vars.length) (h4 : x.length ≤ 4) (h1 : 1 ≤ x.length) (hr : vRows rows 6 (-1) (rows.length - 1) = true) :
    Calls Try.prog 129 #[.agg #[.int .i64 8, vv, va, .int .i64 b, vr], vx] w (Ret (.bool (satB ⟨8, vars, args, b, rows⟩ x)) w) := by
  have HXV := hide hx
  have HL := hide hl
  obtain ⟨Av, cv, rfl, -, hlv⟩ := hV.form
  obtain ⟨Aa, ca, rfl, -, hla⟩ := hA.form
  obtain ⟨Ar, cr, rfl, -, hlr⟩ := hR.form
  obtain ⟨Ax, cx, rfl, -, hlx⟩ := hX.form
  have hx0 := ((Ext.refl w).alloc (.cells #[.int .i64 8, .slice Av vars.length cv, .slice Aa args.length ca, .int .i64 b, .slice Ar rows.length cr] 32)).alloc (.cells #[.slice Ax x.length cx] 22)
  have HX0 := hide hx0
  have hV0 := hide (hV.ext hx0)
  have hA0 := hide (hA.ext hx0)
  have hR0 := hide (hR.ext hx0)
  have hX0 := hide (hX.ext hx0)
  clear hx0 hV hA hR hX hx hl
  have HR := hide hr
  have HS := hide (show satB ⟨8, vars, args, b, rows⟩ x = acceptB rows args x from rfl)
  clear hr
  go_enter Try.func129, Try.ntmps129
  go_wp2_with fail
  refine (accepts_any _ _ ⟨8, vars, args, b, rows⟩ x _ ⟨_, _, _, rfl, hV0.out, hA0.out, hR0.out⟩ hX0.out HR.out HXV.out (by omega)).mono ?_
  rintro e w2 ⟨rfl, hx2⟩
  have HX2 := hide (HX0.out.trans hx2)
  clear hx2
  go_wp2
  go_ret
  exact Ret.mk (ret_b HS.out.symm) HX2.out
set_option maxRecDepth 100000 in
set_option maxHeartbeats 4000000 in
theorem sat_9 (vv va vr vx : Value) (vars args : List Int) (b : Int) (rows : List (List Int)) (x : List Int) (w : World) (hV : SInts w vv vars) (hA : SInts w va args) (hR : SRows w vr rows) (hX : SInts w vx x) (hx : ValL x) (hl : x.length = vars.length) (h4 : x.length ≤ 4) (h1 : 1 ≤ x.length)  :
    Calls Try.prog 129 #[.agg #[.int .i64 9, vv, va, .int .i64 b, vr], vx] w (Ret (.bool (satB ⟨9, vars, args, b, rows⟩ x)) w) := by
  have HXV := hide hx
  have HL := hide hl
  obtain ⟨Av, cv, rfl, -, hlv⟩ := hV.form
  obtain ⟨Aa, ca, rfl, -, hla⟩ := hA.form
  obtain ⟨Ar, cr, rfl, -, hlr⟩ := hR.form
  obtain ⟨Ax, cx, rfl, -, hlx⟩ := hX.form
  have hx0 := ((Ext.refl w).alloc (.cells #[.int .i64 9, .slice Av vars.length cv, .slice Aa args.length ca, .int .i64 b, .slice Ar rows.length cr] 32)).alloc (.cells #[.slice Ax x.length cx] 22)
  have HX0 := hide hx0
  have hV0 := hide (hV.ext hx0)
  have hA0 := hide (hA.ext hx0)
  have hR0 := hide (hR.ext hx0)
  have hX0 := hide (hX.ext hx0)
  clear hx0 hV hA hR hX hx hl
  have HS := hide (show satB ⟨9, vars, args, b, rows⟩ x = cycB x from rfl)
  go_enter Try.func129, Try.ntmps129
  go_wp2_with fail
  refine (cycle_any _ x _ hX0.out HXV.out (by omega) (by omega)).mono ?_
  rintro e w2 ⟨rfl, hx2⟩
  have HX2 := hide (HX0.out.trans hx2)
  clear hx2
  go_wp2
  go_ret
  exact Ret.mk (ret_b HS.out.symm) HX2.out
set_option maxRecDepth 100000 in
set_option maxHeartbeats 4000000 in
theorem sat_6 (vv va vr vx : Value) (vars args : List Int) (b : Int) (rows : List (List Int)) (x : List Int) (w : World) (hV : SInts w vv vars) (hA : SInts w va args) (hR : SRows w vr rows) (hX : SInts w vx x) (hx : ValL x) (hl : x.length = vars.length) (h4 : x.length ≤ 4) (h1 : 1 ≤ x.length) (hal : args.length = 1) :
    Calls Try.prog 129 #[.agg #[.int .i64 6, vv, va, .int .i64 b, vr], vx] w (Ret (.bool (satB ⟨6, vars, args, b, rows⟩ x)) w) := by
  have HXV := hide hx
  have HL := hide hl
  obtain ⟨Av, cv, rfl, -, hlv⟩ := hV.form
  obtain ⟨Aa, ca, rfl, -, hla⟩ := hA.form
  obtain ⟨Ar, cr, rfl, -, hlr⟩ := hR.form
  obtain ⟨Ax, cx, rfl, -, hlx⟩ := hX.form
  have hx0 := ((Ext.refl w).alloc (.cells #[.int .i64 6, .slice Av vars.length cv, .slice Aa args.length ca, .int .i64 b, .slice Ar rows.length cr] 32)).alloc (.cells #[.slice Ax x.length cx] 22)
  have HX0 := hide hx0
  have hV0 := hide (hV.ext hx0)
  have hA0 := hide (hA.ext hx0)
  have hR0 := hide (hR.ext hx0)
  have hX0 := hide (hX.ext hx0)
  clear hx0 hV hA hR hX hx hl
  have HS := hide (show satB ⟨6, vars, args, b, rows⟩ x = (cntV x (at0 args 0) x.length == b) from rfl)
  obtain ⟨ba, oa, rfl, hba, f2⟩ := hA0.out.at_ (k := 0) (by omega)
  have f2 : ((w.alloc (.cells #[.int .i64 6, .slice Av vars.length cv, .slice (some ⟨ba, oa, none⟩) args.length ca, .int .i64 b, .slice Ar rows.length cr] 32)).alloc (.cells #[.slice Ax x.length cx] 22)).cell? ⟨ba, oa, none⟩ = some (.int .i64 (at0 args 0)) := f2
  have i2 : (0 : Int) < args.length := by omega
  have HAL := hide hal
  clear hal
  go_enter Try.func129, Try.ntmps129
  go_wp2
  go_loop [5, 69] (fun s i => ∃ k : Nat, k ≤ x.length ∧ i = .int .i64 k ∧ s = .int .i64 (cntV x (at0 args 0) k)) (fun _ i => x.length - (intOf i).toNat)
  case atStart => exact ⟨0, by omega, rfl, rfl⟩
  case round =>
    obtain ⟨k, hk, rfl, rfl⟩ := hrel
    have hcb := cntV_bd x (at0 args 0) k
    by_cases hlt : k < x.length
    · have hkI : (k : Int) < x.length := by omega
      obtain ⟨bx, ox, rfl, hbx, f1⟩ := hX0.out.at_ hlt
      cases he : (at0 x k == at0 args 0) with
      | true =>
        have HK := hide (show cntV x (at0 args 0) k + 1 = cntV x (at0 args 0) (k + 1) by rw [cntV, if_pos he])
        go_wp2
        go_round
        case rel => exact ⟨k + 1, by omega, by go_num, by rw [← HK.out]⟩
        case measure => simp [intOf]; omega
      | false =>
        have HK := hide (show cntV x (at0 args 0) k = cntV x (at0 args 0) (k + 1) by rw [cntV, he]; rfl)
        go_wp2
        go_round
        case rel => exact ⟨k + 1, by omega, by go_num, by rw [← HK.out]⟩
        case measure => simp [intOf]; omega
    · obtain rfl : k = x.length := by omega
      have hkI : ¬ ((x.length : Int) < x.length) := by omega
      go_wp2
      go_ret
      exact Ret.mk (ret_b HS.out.symm) HX0.out
set_option maxRecDepth 100000 in
set_option maxHeartbeats 4000000 in
theorem sat_4 (vv va vr vx : Value) (vars args : List Int) (b : Int) (rows : List (List Int)) (x : List Int) (w : World) (hV : SInts w vv vars) (hA : SInts w va args) (hR : SRows w vr rows) (hX : SInts w vx x) (hx : ValL x) (hl : x.length = vars.length) (_h4 : x.length ≤ 4) (_h1 : 1 ≤ x.length) (hv2 : vars.length = 2) :
    Calls Try.prog 129 #[.agg #[.int .i64 4, vv, va, .int .i64 b, vr], vx] w (Ret (.bool (satB ⟨4, vars, args, b, rows⟩ x)) w) := by
  have HXV := hide hx
  have HL := hide hl
  obtain ⟨Av, cv, rfl, -, hlv⟩ := hV.form
  obtain ⟨Aa, ca, rfl, -, hla⟩ := hA.form
  obtain ⟨Ar, cr, rfl, -, hlr⟩ := hR.form
  obtain ⟨Ax, cx, rfl, -, hlx⟩ := hX.form
  have hx0 := ((Ext.refl w).alloc (.cells #[.int .i64 4, .slice Av vars.length cv, .slice Aa args.length ca, .int .i64 b, .slice Ar rows.length cr] 32)).alloc (.cells #[.slice Ax x.length cx] 22)
  have HX0 := hide hx0
  have hV0 := hide (hV.ext hx0)
  have hA0 := hide (hA.ext hx0)
  have hR0 := hide (hR.ext hx0)
  have hX0 := hide (hX.ext hx0)
  clear hx0 hV hA hR hX hx hl
  have HS := hide (show satB ⟨4, vars, args, b, rows⟩ x = (decide (at0 x 0 < args.length) && (at0 args (at0 x 0).toNat == at0 x 1)) from rfl)
  have hx2l : x.length = 2 := HL.out.trans hv2
  have g0 := HXV.out 0 (by omega)
  have g1 := HXV.out 1 (by omega)
  have c2 : ((w.alloc (.cells #[.int .i64 4, .slice Av vars.length cv, .slice Aa args.length ca, .int .i64 b, .slice Ar rows.length cr] 32)).alloc (.cells #[.slice Ax x.length cx] 22)).cell? ⟨w.heap.size, 2, none⟩ = some (.slice Aa args.length ca) := by go_simp
  have cx0 : ((w.alloc (.cells #[.int .i64 4, .slice Av vars.length cv, .slice Aa args.length ca, .int .i64 b, .slice Ar rows.length cr] 32)).alloc (.cells #[.slice Ax x.length cx] 22)).cell? ⟨w.heap.size + 1, 0, none⟩ = some (.slice Ax x.length cx) := by go_simp
  have z0 : w.heap.size < ((w.alloc (.cells #[.int .i64 4, .slice Av vars.length cv, .slice Aa args.length ca, .int .i64 b, .slice Ar rows.length cr] 32)).alloc (.cells #[.slice Ax x.length cx] 22)).heap.size := by rw [World.size_alloc, World.size_alloc]; omega
  have z1 : w.heap.size + 1 < ((w.alloc (.cells #[.int .i64 4, .slice Av vars.length cv, .slice Aa args.length ca, .int .i64 b, .slice Ar rows.length cr] 32)).alloc (.cells #[.slice Ax x.length cx] 22)).heap.size := by simp
  obtain ⟨W0, hW0⟩ : ∃ W0, W0 = ((w.alloc (.cells #[.int .i64 4, .slice Av vars.length cv, .slice Aa args.length ca, .int .i64 b, .slice Ar rows.length cr] 32)).alloc (.cells #[.slice Ax x.length cx] 22)) := ⟨_, rfl⟩
  rw [← hW0] at c2 cx0 z0 z1 hX0 hA0 HX0
  obtain ⟨bx, ox, rfl, hbx, f0⟩ := hX0.out.at_ (k := 0) (by omega)
  have f1 := hX0.out.cell_ (k := 1) (by omega)
  have i0 : 0 < x.length := by omega
  have i1 : (1 : Int) < x.length := by omega
  simp only [Nat.add_zero] at f0
  obtain ⟨u, hu⟩ : ∃ u : Nat, at0 x 0 = u := ⟨(at0 x 0).toNat, by omega⟩
  rw [hu] at f0 g0 HS
  by_cases hul : u < args.length
  · obtain ⟨ba, oa, rfl, hba, f2⟩ := hA0.out.at_ hul
    have huI : (u : Int) < args.length := by omega
    have HU := hide (show (decide ((u : Int) < args.length) && (at0 args (u : Int).toNat == at0 x 1)) = (at0 args u == at0 x 1) by rw [decide_eq_true huI]; rfl)
    have HH := hide hx2l
    clear hx2l hv2 hu
    go_enter Try.func129, Try.ntmps129
    go_wp2
    rw [← hW0]
    clear hW0
    refine wp_region_ext (by kernel_rfl) (by kernel_rfl) ?_
    iterate 8 (apply quiet_val; (focus rfl); (focus (intro w' hw'; have hk' := hw'.cells; go_simp; all_goals exact rfl)); simp only [Act.put, List.setIfInBounds_toArray, List.set_cons_succ, List.set_cons_zero])
    iterate 11 (go_big_quiet_want; apply quietK_val; (focus (intro w' hw'; have hk' := hw'.cells; go_simp; all_goals exact rfl)); simp only [Act.put, List.setIfInBounds_toArray, List.set_cons_succ, List.set_cons_zero]; go_big_quiet_on)
    iterate 2 (apply quiet_val; (focus rfl); (focus (intro w' hw'; have hk' := hw'.cells; go_simp; all_goals exact rfl)); simp only [Act.put, List.setIfInBounds_toArray, List.set_cons_succ, List.set_cons_zero])
    refine wpQuiet_nil ?_
    intro w2 hx2
    have HX2 := hide (HX0.out.trans hx2)
    clear hx2
    go_wp2
    go_ret
    exact Ret.mk (ret_b (by rw [HS.out, HU.out])) HX2.out
  · have huI : ¬ (u : Int) < args.length := by omega
    have huD : decide ((u : Int) < args.length) = false := by simp; omega
    have HU := hide (show (decide ((u : Int) < args.length) && (at0 args (u : Int).toNat == at0 x 1)) = false by rw [decide_eq_false huI]; rfl)
    have HH := hide hx2l
    clear hx2l hv2 hu
    go_enter Try.func129, Try.ntmps129
    go_wp2
    rw [← hW0]
    clear hW0
    refine wp_region_ext (by kernel_rfl) (by kernel_rfl) ?_
    iterate 8 (apply quiet_val; (focus rfl); (focus (intro w' hw'; have hk' := hw'.cells; go_simp; all_goals exact rfl)); simp only [Act.put, List.setIfInBounds_toArray, List.set_cons_succ, List.set_cons_zero])
    iterate 11 go_big_quiet_skip
    iterate 2 (apply quiet_val; (focus rfl); (focus (intro w' hw'; have hk' := hw'.cells; go_simp; all_goals exact rfl)); simp only [Act.put, List.setIfInBounds_toArray, List.set_cons_succ, List.set_cons_zero])
    refine wpQuiet_nil ?_
    intro w2 hx2
    have HX2 := hide (HX0.out.trans hx2)
    clear hx2
    go_wp2
    go_ret
    exact Ret.mk (ret_b (by rw [HS.out, HU.out])) HX2.out
theorem vCon_len {c : Con} {n : Int} (h : vCon c n = true) : 1 ≤ c.vars.length ∧ (c.vars.length : Int) ≤ n ∧ n ≤ 4 ∧ allR c.vars 0 (n - 1) = true ∧ dst c.vars = true ∧ fitB c.kk c.vars c.args c.bound c.rows = true := by
  simp only [vCon, Bool.and_eq_true, inR, decide_eq_true_eq] at h
  obtain ⟨⟨h1, h2⟩, ⟨h3, h4⟩, h5, h6, h7⟩ := h
  exact ⟨by omega, h4, h2, h5, h6, h7⟩
theorem vCon_var {c : Con} {n : Nat} (h : vCon c n = true) : VarOK c.vars n := by
  obtain ⟨-, -, -, h4, h5, -⟩ := vCon_len h
  exact VarOK.of h4 h5
theorem satisfied_any (v vx : Value) (c : Con) (x : List Int) (n : Int) (w : World) (hC : SCon w v c) (hX : SInts w vx x) (hv : vCon c n = true) (hx : ValL x) (hl : x.length = c.vars.length) :
    Calls Try.prog 129 #[v, vx] w (Ret (.bool (satB c x)) w) := by
  obtain ⟨v1, v2, v3, -, -, hf⟩ := vCon_len hv
  obtain ⟨vv, va, vr, rfl, hV, hA, hR⟩ := hC
  obtain ⟨kk, vars, args, b, rows⟩ := c
  simp only at hV hA hR hl v1 v2 hf ⊢
  have h1 : 1 ≤ x.length := by omega
  have h4 : x.length ≤ 4 := by omega
  unfold fitB argsB at hf
  split at hf
  · subst kk
    simp only [Bool.and_eq_true, beq_iff_eq] at hf
    exact sat_1 _ _ _ _ vars args b rows x w hV hA hR hX hx hl h4 h1 hf.1.2 (by omega)
  split at hf
  · subst kk
    simp only [Bool.and_eq_true, beq_iff_eq] at hf
    exact sat_2 _ _ _ _ vars args b rows x w hV hA hR hX hx hl h4 h1 hf.2.1.2 (by omega) (by omega)
  split at hf
  · rename_i hk
    rcases hk with rfl | rfl
    · exact sat_3 _ _ _ _ vars args b rows x w hV hA hR hX hx hl h4 h1
    · exact sat_9 _ _ _ _ vars args b rows x w hV hA hR hX hx hl h4 h1
  split at hf
  · subst kk
    simp only [Bool.and_eq_true, beq_iff_eq] at hf
    exact sat_4 _ _ _ _ vars args b rows x w hV hA hR hX hx hl h4 h1 (by omega)
  split at hf
  · subst kk
    exact sat_5 _ _ _ _ vars args b rows x w hV hA hR hX hx hl h4 h1
  split at hf
  · subst kk
    simp only [Bool.and_eq_true, beq_iff_eq] at hf
    exact sat_6 _ _ _ _ vars args b rows x w hV hA hR hX hx hl h4 h1 (by omega)
  split at hf
  · subst kk
    simp only [Bool.and_eq_true, beq_iff_eq] at hf
    exact sat_7 _ _ _ _ vars args b rows x w hV hA hR hX hx hl h4 h1 hf.1.2 (by omega) hf.2.1
  split at hf
  · subst kk
    simp only [Bool.and_eq_true] at hf
    exact sat_8 _ _ _ _ vars args b rows x w hV hA hR hX hx hl h4 h1 hf.1
  · cases hf
end Go.Proofs.Ytpnlambndbfenaa
