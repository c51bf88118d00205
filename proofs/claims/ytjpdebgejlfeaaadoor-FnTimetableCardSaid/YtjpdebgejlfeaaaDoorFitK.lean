/- Whether the numbers of a constraint are those of its kind: all kinds. -/
import Derived.Test.YtjpdebgejlfeaaaDoorConsA
namespace Go.Proofs.YtjpdebgejlfeaaaDoor
open Go.RowKit

set_option maxRecDepth 100000 in
set_option maxHeartbeats 4000000 in
theorem fits_1 (vv va vr : Value) (vars args : List Int) (b : Int) (rows : List (List Int)) (w : World) (hV : SInts w vv vars) (hA : SInts w va args) (hR : SRows w vr rows) :
    Calls Tryd.prog 74 #[.agg #[.int .i64 1, vv, va, .int .i64 b, vr]] w (Ret (.bool (fitB 1 vars args b rows)) w) := by
  have hV0 := hide hV
  have hA0 := hide hA
  have hR0 := hide hR
  obtain ⟨Av, cv, rfl, -, hlv⟩ := hV.form
  obtain ⟨Aa, ca, rfl, -, hla⟩ := hA.form
  obtain ⟨Ar, cr, rfl, -, hlr⟩ := hR.form
  have HF := hide (show fitB 1 vars args b rows = (argsB args vars.length (-9) 9 && (inR b (-999) 999 && ((rows.length : Int) == 0))) from rfl)
  clear hV hA hR
  go_enter Tryd.func74, Tryd.ntmps74
  go_wp2_with fail
  have hx0 := (Ext.refl w).alloc (.cells #[.int .i64 1, .slice Av vars.length cv, .slice Aa args.length ca, .int .i64 b, .slice Ar rows.length cr] 60)
  have hz0 : w.heap.size < (w.alloc (.cells #[.int .i64 1, .slice Av vars.length cv, .slice Aa args.length ca, .int .i64 b, .slice Ar rows.length cr] 60)).heap.size := by simp
  refine wp_region_ext (by kernel_rfl) (by kernel_rfl) ?_
  iterate 9 (apply quiet_val; (focus rfl); (focus (intro w' hw'; have hk' := hw'.cells; go_simp; all_goals exact rfl)); simp only [Act.put, List.setIfInBounds_toArray, List.set_cons_succ, List.set_cons_zero])
  refine wpQuiet_nil ?_
  intro w2 hx2
  have b0 : w2.cell? ⟨w.heap.size, 0, none⟩ = some (.int .i64 1) := (hx2.cells _ _ hz0).trans (by go_simp)
  have b2 : w2.cell? ⟨w.heap.size, 2, none⟩ = some (.slice Aa args.length ca) := (hx2.cells _ _ hz0).trans (by go_simp)
  have b3 : w2.cell? ⟨w.heap.size, 3, none⟩ = some (.int .i64 b) := (hx2.cells _ _ hz0).trans (by go_simp)
  have b4 : w2.cell? ⟨w.heap.size, 4, none⟩ = some (.slice Ar rows.length cr) := (hx2.cells _ _ hz0).trans (by go_simp)
  have hz := Nat.lt_of_lt_of_le hz0 hx2.size
  have HX2 := hide (hx0.trans hx2)
  clear hx0 hx2 hz0
  go_wp2_with fail
  refine (args_any _ args vars.length (-9) 9 w.heap.size _ b2 (hA0.out.ext HX2.out)).mono ?_
  rintro e w3 ⟨rfl, hx3⟩
  have b2 := (hx3.cells _ _ hz).trans b2
  have b3 := (hx3.cells _ _ hz).trans b3
  have b4 := (hx3.cells _ _ hz).trans b4
  have hz := Nat.lt_of_lt_of_le hz hx3.size
  have HX3 := hide (HX2.out.trans hx3)
  clear hx3
  cases hq : argsB args vars.length (-9) 9 with
  | false =>
    have HQ3 := hide (show fitB 1 vars args b rows = false by rw [HF.out, hq]; rfl)
    clear hq
    go_wp2_with fail
    go_ret
    exact Ret.mk (ret_b HQ3.out.symm) HX3.out
  | true =>
    have HQ3 := hide (show fitB 1 vars args b rows = (inR b (-999) 999 && ((rows.length : Int) == 0)) by rw [HF.out, hq]; rfl)
    clear hq
    go_wp2_with fail
    refine (within_any _ _ _ _).mono ?_
    rintro e w' ⟨rfl, rfl⟩
    cases hq : inR b (-999) 999 with
    | false =>
      have HQ2 := hide (show fitB 1 vars args b rows = false by rw [HQ3.out, hq]; rfl)
      clear hq
      go_wp2_with fail
      go_ret
      exact Ret.mk (ret_b HQ2.out.symm) HX3.out
    | true =>
      have HQ2 := hide (show fitB 1 vars args b rows = ((rows.length : Int) == 0) by rw [HQ3.out, hq]; rfl)
      clear hq
      go_wp2_with fail
      go_ret
      exact Ret.mk (ret_b HQ2.out.symm) HX3.out
set_option maxRecDepth 100000 in
set_option maxHeartbeats 4000000 in
theorem fits_2 (vv va vr : Value) (vars args : List Int) (b : Int) (rows : List (List Int)) (w : World) (hV : SInts w vv vars) (hA : SInts w va args) (hR : SRows w vr rows) :
    Calls Tryd.prog 74 #[.agg #[.int .i64 2, vv, va, .int .i64 b, vr]] w (Ret (.bool (fitB 2 vars args b rows)) w) := by
  have hV0 := hide hV
  have hA0 := hide hA
  have hR0 := hide hR
  obtain ⟨Av, cv, rfl, -, hlv⟩ := hV.form
  obtain ⟨Aa, ca, rfl, -, hla⟩ := hA.form
  obtain ⟨Ar, cr, rfl, -, hlr⟩ := hR.form
  have HF := hide (show fitB 2 vars args b rows = (((vars.length : Int) == 2) && (argsB args 1 (-9) 9 && ((b == 0) && ((rows.length : Int) == 0)))) from rfl)
  clear hV hA hR
  go_enter Tryd.func74, Tryd.ntmps74
  go_wp2_with fail
  have hx0 := (Ext.refl w).alloc (.cells #[.int .i64 2, .slice Av vars.length cv, .slice Aa args.length ca, .int .i64 b, .slice Ar rows.length cr] 60)
  have hz0 : w.heap.size < (w.alloc (.cells #[.int .i64 2, .slice Av vars.length cv, .slice Aa args.length ca, .int .i64 b, .slice Ar rows.length cr] 60)).heap.size := by simp
  refine wp_region_ext (by kernel_rfl) (by kernel_rfl) ?_
  iterate 9 (apply quiet_val; (focus rfl); (focus (intro w' hw'; have hk' := hw'.cells; go_simp; all_goals exact rfl)); simp only [Act.put, List.setIfInBounds_toArray, List.set_cons_succ, List.set_cons_zero])
  refine wpQuiet_nil ?_
  intro w2 hx2
  have b0 : w2.cell? ⟨w.heap.size, 0, none⟩ = some (.int .i64 2) := (hx2.cells _ _ hz0).trans (by go_simp)
  have b2 : w2.cell? ⟨w.heap.size, 2, none⟩ = some (.slice Aa args.length ca) := (hx2.cells _ _ hz0).trans (by go_simp)
  have b3 : w2.cell? ⟨w.heap.size, 3, none⟩ = some (.int .i64 b) := (hx2.cells _ _ hz0).trans (by go_simp)
  have b4 : w2.cell? ⟨w.heap.size, 4, none⟩ = some (.slice Ar rows.length cr) := (hx2.cells _ _ hz0).trans (by go_simp)
  have hz := Nat.lt_of_lt_of_le hz0 hx2.size
  have HX2 := hide (hx0.trans hx2)
  clear hx0 hx2 hz0
  cases hq : ((vars.length : Int) == 2) with
  | false =>
    have HQ4 := hide (show fitB 2 vars args b rows = false by rw [HF.out, hq]; rfl)
    go_wp2_with fail
    go_ret
    exact Ret.mk (ret_b HQ4.out.symm) HX2.out
  | true =>
    have HQ4 := hide (show fitB 2 vars args b rows = (argsB args 1 (-9) 9 && ((b == 0) && ((rows.length : Int) == 0))) by rw [HF.out, hq]; rfl)
    go_wp2_with fail
    refine (args_any _ args 1 (-9) 9 w.heap.size _ b2 (hA0.out.ext HX2.out)).mono ?_
    rintro e w3 ⟨rfl, hx3⟩
    have b2 := (hx3.cells _ _ hz).trans b2
    have b3 := (hx3.cells _ _ hz).trans b3
    have b4 := (hx3.cells _ _ hz).trans b4
    have hz := Nat.lt_of_lt_of_le hz hx3.size
    have HX3 := hide (HX2.out.trans hx3)
    clear hx3
    cases hq : argsB args 1 (-9) 9 with
    | false =>
      have HQ3 := hide (show fitB 2 vars args b rows = false by rw [HQ4.out, hq]; rfl)
      clear hq
      go_wp2_with fail
      go_ret
      exact Ret.mk (ret_b HQ3.out.symm) HX3.out
    | true =>
      have HQ3 := hide (show fitB 2 vars args b rows = ((b == 0) && ((rows.length : Int) == 0)) by rw [HQ4.out, hq]; rfl)
      clear hq
      cases hq : (b == 0) with
      | false =>
        have HQ2 := hide (show fitB 2 vars args b rows = false by rw [HQ3.out, hq]; rfl)
        go_wp2_with fail
        go_ret
        exact Ret.mk (ret_b HQ2.out.symm) HX3.out
      | true =>
        have HQ2 := hide (show fitB 2 vars args b rows = ((rows.length : Int) == 0) by rw [HQ3.out, hq]; rfl)
        go_wp2_with fail
        go_ret
        exact Ret.mk (ret_b HQ2.out.symm) HX3.out
set_option maxRecDepth 100000 in
set_option maxHeartbeats 4000000 in
theorem fits_3 (vv va vr : Value) (vars args : List Int) (b : Int) (rows : List (List Int)) (w : World) (hV : SInts w vv vars) (hA : SInts w va args) (hR : SRows w vr rows) :
    Calls Tryd.prog 74 #[.agg #[.int .i64 3, vv, va, .int .i64 b, vr]] w (Ret (.bool (fitB 3 vars args b rows)) w) := by
  have hV0 := hide hV
  have hA0 := hide hA
  have hR0 := hide hR
  obtain ⟨Av, cv, rfl, -, hlv⟩ := hV.form
  obtain ⟨Aa, ca, rfl, -, hla⟩ := hA.form
  obtain ⟨Ar, cr, rfl, -, hlr⟩ := hR.form
  have HF := hide (show fitB 3 vars args b rows = (((args.length : Int) == 0) && ((b == 0) && ((rows.length : Int) == 0))) from rfl)
  clear hV hA hR
  go_enter Tryd.func74, Tryd.ntmps74
  go_wp2_with fail
  have hx0 := (Ext.refl w).alloc (.cells #[.int .i64 3, .slice Av vars.length cv, .slice Aa args.length ca, .int .i64 b, .slice Ar rows.length cr] 60)
  have hz0 : w.heap.size < (w.alloc (.cells #[.int .i64 3, .slice Av vars.length cv, .slice Aa args.length ca, .int .i64 b, .slice Ar rows.length cr] 60)).heap.size := by simp
  refine wp_region_ext (by kernel_rfl) (by kernel_rfl) ?_
  iterate 9 (apply quiet_val; (focus rfl); (focus (intro w' hw'; have hk' := hw'.cells; go_simp; all_goals exact rfl)); simp only [Act.put, List.setIfInBounds_toArray, List.set_cons_succ, List.set_cons_zero])
  refine wpQuiet_nil ?_
  intro w2 hx2
  have b0 : w2.cell? ⟨w.heap.size, 0, none⟩ = some (.int .i64 3) := (hx2.cells _ _ hz0).trans (by go_simp)
  have b2 : w2.cell? ⟨w.heap.size, 2, none⟩ = some (.slice Aa args.length ca) := (hx2.cells _ _ hz0).trans (by go_simp)
  have b3 : w2.cell? ⟨w.heap.size, 3, none⟩ = some (.int .i64 b) := (hx2.cells _ _ hz0).trans (by go_simp)
  have b4 : w2.cell? ⟨w.heap.size, 4, none⟩ = some (.slice Ar rows.length cr) := (hx2.cells _ _ hz0).trans (by go_simp)
  have hz := Nat.lt_of_lt_of_le hz0 hx2.size
  have HX2 := hide (hx0.trans hx2)
  clear hx0 hx2 hz0
  cases hq : ((args.length : Int) == 0) with
  | false =>
    have HQ3 := hide (show fitB 3 vars args b rows = false by rw [HF.out, hq]; rfl)
    go_wp2_with fail
    go_ret
    exact Ret.mk (ret_b HQ3.out.symm) HX2.out
  | true =>
    have HQ3 := hide (show fitB 3 vars args b rows = ((b == 0) && ((rows.length : Int) == 0)) by rw [HF.out, hq]; rfl)
    cases hq : (b == 0) with
    | false =>
      have HQ2 := hide (show fitB 3 vars args b rows = false by rw [HQ3.out, hq]; rfl)
      go_wp2_with fail
      go_ret
      exact Ret.mk (ret_b HQ2.out.symm) HX2.out
    | true =>
      have HQ2 := hide (show fitB 3 vars args b rows = ((rows.length : Int) == 0) by rw [HQ3.out, hq]; rfl)
      go_wp2_with fail
      go_ret
      exact Ret.mk (ret_b HQ2.out.symm) HX2.out
set_option maxRecDepth 100000 in
set_option maxHeartbeats 4000000 in
theorem fits_9 (vv va vr : Value) (vars args : List Int) (b : Int) (rows : List (List Int)) (w : World) (hV : SInts w vv vars) (hA : SInts w va args) (hR : SRows w vr rows) :
    Calls Tryd.prog 74 #[.agg #[.int .i64 9, vv, va, .int .i64 b, vr]] w (Ret (.bool (fitB 9 vars args b rows)) w) := by
  have hV0 := hide hV
  have hA0 := hide hA
  have hR0 := hide hR
  obtain ⟨Av, cv, rfl, -, hlv⟩ := hV.form
  obtain ⟨Aa, ca, rfl, -, hla⟩ := hA.form
  obtain ⟨Ar, cr, rfl, -, hlr⟩ := hR.form
  have HF := hide (show fitB 9 vars args b rows = (((args.length : Int) == 0) && ((b == 0) && ((rows.length : Int) == 0))) from rfl)
  clear hV hA hR
  go_enter Tryd.func74, Tryd.ntmps74
  go_wp2_with fail
  have hx0 := (Ext.refl w).alloc (.cells #[.int .i64 9, .slice Av vars.length cv, .slice Aa args.length ca, .int .i64 b, .slice Ar rows.length cr] 60)
  have hz0 : w.heap.size < (w.alloc (.cells #[.int .i64 9, .slice Av vars.length cv, .slice Aa args.length ca, .int .i64 b, .slice Ar rows.length cr] 60)).heap.size := by simp
  refine wp_region_ext (by kernel_rfl) (by kernel_rfl) ?_
  iterate 9 (apply quiet_val; (focus rfl); (focus (intro w' hw'; have hk' := hw'.cells; go_simp; all_goals exact rfl)); simp only [Act.put, List.setIfInBounds_toArray, List.set_cons_succ, List.set_cons_zero])
  refine wpQuiet_nil ?_
  intro w2 hx2
  have b0 : w2.cell? ⟨w.heap.size, 0, none⟩ = some (.int .i64 9) := (hx2.cells _ _ hz0).trans (by go_simp)
  have b2 : w2.cell? ⟨w.heap.size, 2, none⟩ = some (.slice Aa args.length ca) := (hx2.cells _ _ hz0).trans (by go_simp)
  have b3 : w2.cell? ⟨w.heap.size, 3, none⟩ = some (.int .i64 b) := (hx2.cells _ _ hz0).trans (by go_simp)
  have b4 : w2.cell? ⟨w.heap.size, 4, none⟩ = some (.slice Ar rows.length cr) := (hx2.cells _ _ hz0).trans (by go_simp)
  have hz := Nat.lt_of_lt_of_le hz0 hx2.size
  have HX2 := hide (hx0.trans hx2)
  clear hx0 hx2 hz0
  cases hq : ((args.length : Int) == 0) with
  | false =>
    have HQ3 := hide (show fitB 9 vars args b rows = false by rw [HF.out, hq]; rfl)
    go_wp2_with fail
    go_ret
    exact Ret.mk (ret_b HQ3.out.symm) HX2.out
  | true =>
    have HQ3 := hide (show fitB 9 vars args b rows = ((b == 0) && ((rows.length : Int) == 0)) by rw [HF.out, hq]; rfl)
    cases hq : (b == 0) with
    | false =>
      have HQ2 := hide (show fitB 9 vars args b rows = false by rw [HQ3.out, hq]; rfl)
      go_wp2_with fail
      go_ret
      exact Ret.mk (ret_b HQ2.out.symm) HX2.out
    | true =>
      have HQ2 := hide (show fitB 9 vars args b rows = ((rows.length : Int) == 0) by rw [HQ3.out, hq]; rfl)
      go_wp2_with fail
      go_ret
      exact Ret.mk (ret_b HQ2.out.symm) HX2.out
set_option maxRecDepth 100000 in
set_option maxHeartbeats 4000000 in
theorem fits_4 (vv va vr : Value) (vars args : List Int) (b : Int) (rows : List (List Int)) (w : World) (hV : SInts w vv vars) (hA : SInts w va args) (hR : SRows w vr rows) :
    Calls Tryd.prog 74 #[.agg #[.int .i64 4, vv, va, .int .i64 b, vr]] w (Ret (.bool (fitB 4 vars args b rows)) w) := by
  have hV0 := hide hV
  have hA0 := hide hA
  have hR0 := hide hR
  obtain ⟨Av, cv, rfl, -, hlv⟩ := hV.form
  obtain ⟨Aa, ca, rfl, -, hla⟩ := hA.form
  obtain ⟨Ar, cr, rfl, -, hlr⟩ := hR.form
  have HF := hide (show fitB 4 vars args b rows = (((vars.length : Int) == 2) && (inR args.length 1 6 && (allR args 0 5 && ((b == 0) && ((rows.length : Int) == 0))))) from rfl)
  clear hV hA hR
  go_enter Tryd.func74, Tryd.ntmps74
  go_wp2_with fail
  have hx0 := (Ext.refl w).alloc (.cells #[.int .i64 4, .slice Av vars.length cv, .slice Aa args.length ca, .int .i64 b, .slice Ar rows.length cr] 60)
  have hz0 : w.heap.size < (w.alloc (.cells #[.int .i64 4, .slice Av vars.length cv, .slice Aa args.length ca, .int .i64 b, .slice Ar rows.length cr] 60)).heap.size := by simp
  refine wp_region_ext (by kernel_rfl) (by kernel_rfl) ?_
  iterate 9 (apply quiet_val; (focus rfl); (focus (intro w' hw'; have hk' := hw'.cells; go_simp; all_goals exact rfl)); simp only [Act.put, List.setIfInBounds_toArray, List.set_cons_succ, List.set_cons_zero])
  refine wpQuiet_nil ?_
  intro w2 hx2
  have b0 : w2.cell? ⟨w.heap.size, 0, none⟩ = some (.int .i64 4) := (hx2.cells _ _ hz0).trans (by go_simp)
  have b2 : w2.cell? ⟨w.heap.size, 2, none⟩ = some (.slice Aa args.length ca) := (hx2.cells _ _ hz0).trans (by go_simp)
  have b3 : w2.cell? ⟨w.heap.size, 3, none⟩ = some (.int .i64 b) := (hx2.cells _ _ hz0).trans (by go_simp)
  have b4 : w2.cell? ⟨w.heap.size, 4, none⟩ = some (.slice Ar rows.length cr) := (hx2.cells _ _ hz0).trans (by go_simp)
  have hz := Nat.lt_of_lt_of_le hz0 hx2.size
  have HX2 := hide (hx0.trans hx2)
  clear hx0 hx2 hz0
  cases hq : ((vars.length : Int) == 2) with
  | false =>
    have HQ5 := hide (show fitB 4 vars args b rows = false by rw [HF.out, hq]; rfl)
    go_wp2_with fail
    go_ret
    exact Ret.mk (ret_b HQ5.out.symm) HX2.out
  | true =>
    have HQ5 := hide (show fitB 4 vars args b rows = (inR args.length 1 6 && (allR args 0 5 && ((b == 0) && ((rows.length : Int) == 0)))) by rw [HF.out, hq]; rfl)
    go_wp2_with fail
    refine (within_any _ _ _ _).mono ?_
    rintro e w' ⟨rfl, rfl⟩
    cases hq : inR args.length 1 6 with
    | false =>
      have HQ4 := hide (show fitB 4 vars args b rows = false by rw [HQ5.out, hq]; rfl)
      clear hq
      go_wp2_with fail
      go_ret
      exact Ret.mk (ret_b HQ4.out.symm) HX2.out
    | true =>
      have HQ4 := hide (show fitB 4 vars args b rows = (allR args 0 5 && ((b == 0) && ((rows.length : Int) == 0))) by rw [HQ5.out, hq]; rfl)
      clear hq
      go_wp2_with fail
      refine (allIn_any _ args 0 5 _ (hA0.out.ext HX2.out)).mono ?_
      rintro e w3 ⟨rfl, hx3⟩
      have b2 := (hx3.cells _ _ hz).trans b2
      have b3 := (hx3.cells _ _ hz).trans b3
      have b4 := (hx3.cells _ _ hz).trans b4
      have hz := Nat.lt_of_lt_of_le hz hx3.size
      have HX3 := hide (HX2.out.trans hx3)
      clear hx3
      cases hq : allR args 0 5 with
      | false =>
        have HQ3 := hide (show fitB 4 vars args b rows = false by rw [HQ4.out, hq]; rfl)
        clear hq
        go_wp2_with fail
        go_ret
        exact Ret.mk (ret_b HQ3.out.symm) HX3.out
      | true =>
        have HQ3 := hide (show fitB 4 vars args b rows = ((b == 0) && ((rows.length : Int) == 0)) by rw [HQ4.out, hq]; rfl)
        clear hq
        cases hq : (b == 0) with
        | false =>
          have HQ2 := hide (show fitB 4 vars args b rows = false by rw [HQ3.out, hq]; rfl)
          go_wp2_with fail
          go_ret
          exact Ret.mk (ret_b HQ2.out.symm) HX3.out
        | true =>
          have HQ2 := hide (show fitB 4 vars args b rows = ((rows.length : Int) == 0) by rw [HQ3.out, hq]; rfl)
          go_wp2_with fail
          go_ret
          exact Ret.mk (ret_b HQ2.out.symm) HX3.out
set_option maxRecDepth 100000 in
set_option maxHeartbeats 4000000 in
theorem fits_5 (vv va vr : Value) (vars args : List Int) (b : Int) (rows : List (List Int)) (w : World) (hV : SInts w vv vars) (hA : SInts w va args) (hR : SRows w vr rows) :
    Calls Tryd.prog 74 #[.agg #[.int .i64 5, vv, va, .int .i64 b, vr]] w (Ret (.bool (fitB 5 vars args b rows)) w) := by
  have hV0 := hide hV
  have hA0 := hide hA
  have hR0 := hide hR
  obtain ⟨Av, cv, rfl, -, hlv⟩ := hV.form
  obtain ⟨Aa, ca, rfl, -, hla⟩ := hA.form
  obtain ⟨Ar, cr, rfl, -, hlr⟩ := hR.form
  have HF := hide (show fitB 5 vars args b rows = (((args.length : Int) == 0) && ((b == 0) && vRows rows vars.length 0 5)) from rfl)
  clear hV hA hR
  go_enter Tryd.func74, Tryd.ntmps74
  go_wp2_with fail
  have hx0 := (Ext.refl w).alloc (.cells #[.int .i64 5, .slice Av vars.length cv, .slice Aa args.length ca, .int .i64 b, .slice Ar rows.length cr] 60)
  have hz0 : w.heap.size < (w.alloc (.cells #[.int .i64 5, .slice Av vars.length cv, .slice Aa args.length ca, .int .i64 b, .slice Ar rows.length cr] 60)).heap.size := by simp
  refine wp_region_ext (by kernel_rfl) (by kernel_rfl) ?_
  iterate 9 (apply quiet_val; (focus rfl); (focus (intro w' hw'; have hk' := hw'.cells; go_simp; all_goals exact rfl)); simp only [Act.put, List.setIfInBounds_toArray, List.set_cons_succ, List.set_cons_zero])
  refine wpQuiet_nil ?_
  intro w2 hx2
  have b0 : w2.cell? ⟨w.heap.size, 0, none⟩ = some (.int .i64 5) := (hx2.cells _ _ hz0).trans (by go_simp)
  have b2 : w2.cell? ⟨w.heap.size, 2, none⟩ = some (.slice Aa args.length ca) := (hx2.cells _ _ hz0).trans (by go_simp)
  have b3 : w2.cell? ⟨w.heap.size, 3, none⟩ = some (.int .i64 b) := (hx2.cells _ _ hz0).trans (by go_simp)
  have b4 : w2.cell? ⟨w.heap.size, 4, none⟩ = some (.slice Ar rows.length cr) := (hx2.cells _ _ hz0).trans (by go_simp)
  have hz := Nat.lt_of_lt_of_le hz0 hx2.size
  have HX2 := hide (hx0.trans hx2)
  clear hx0 hx2 hz0
  cases hq : ((args.length : Int) == 0) with
  | false =>
    have HQ3 := hide (show fitB 5 vars args b rows = false by rw [HF.out, hq]; rfl)
    go_wp2_with fail
    go_ret
    exact Ret.mk (ret_b HQ3.out.symm) HX2.out
  | true =>
    have HQ3 := hide (show fitB 5 vars args b rows = ((b == 0) && vRows rows vars.length 0 5) by rw [HF.out, hq]; rfl)
    cases hq : (b == 0) with
    | false =>
      have HQ2 := hide (show fitB 5 vars args b rows = false by rw [HQ3.out, hq]; rfl)
      go_wp2_with fail
      go_ret
      exact Ret.mk (ret_b HQ2.out.symm) HX2.out
    | true =>
      have HQ2 := hide (show fitB 5 vars args b rows = vRows rows vars.length 0 5 by rw [HQ3.out, hq]; rfl)
      go_wp2_with fail
      refine (rowsIn_any _ rows vars.length 0 5 _ (hR0.out.ext HX2.out)).mono ?_
      rintro e w3 ⟨rfl, hx3⟩
      have b2 := (hx3.cells _ _ hz).trans b2
      have b3 := (hx3.cells _ _ hz).trans b3
      have b4 := (hx3.cells _ _ hz).trans b4
      have hz := Nat.lt_of_lt_of_le hz hx3.size
      have HX3 := hide (HX2.out.trans hx3)
      clear hx3
      go_wp2
      go_ret
      exact Ret.mk (ret_b HQ2.out.symm) HX3.out
set_option maxRecDepth 100000 in
set_option maxHeartbeats 4000000 in
theorem fits_6 (vv va vr : Value) (vars args : List Int) (b : Int) (rows : List (List Int)) (w : World) (hV : SInts w vv vars) (hA : SInts w va args) (hR : SRows w vr rows) :
    Calls Tryd.prog 74 #[.agg #[.int .i64 6, vv, va, .int .i64 b, vr]] w (Ret (.bool (fitB 6 vars args b rows)) w) := by
  have hV0 := hide hV
  have hA0 := hide hA
  have hR0 := hide hR
  obtain ⟨Av, cv, rfl, -, hlv⟩ := hV.form
  obtain ⟨Aa, ca, rfl, -, hla⟩ := hA.form
  obtain ⟨Ar, cr, rfl, -, hlr⟩ := hR.form
  have HF := hide (show fitB 6 vars args b rows = (argsB args 1 0 5 && (inR b 0 4 && ((rows.length : Int) == 0))) from rfl)
  clear hV hA hR
  go_enter Tryd.func74, Tryd.ntmps74
  go_wp2_with fail
  have hx0 := (Ext.refl w).alloc (.cells #[.int .i64 6, .slice Av vars.length cv, .slice Aa args.length ca, .int .i64 b, .slice Ar rows.length cr] 60)
  have hz0 : w.heap.size < (w.alloc (.cells #[.int .i64 6, .slice Av vars.length cv, .slice Aa args.length ca, .int .i64 b, .slice Ar rows.length cr] 60)).heap.size := by simp
  refine wp_region_ext (by kernel_rfl) (by kernel_rfl) ?_
  iterate 9 (apply quiet_val; (focus rfl); (focus (intro w' hw'; have hk' := hw'.cells; go_simp; all_goals exact rfl)); simp only [Act.put, List.setIfInBounds_toArray, List.set_cons_succ, List.set_cons_zero])
  refine wpQuiet_nil ?_
  intro w2 hx2
  have b0 : w2.cell? ⟨w.heap.size, 0, none⟩ = some (.int .i64 6) := (hx2.cells _ _ hz0).trans (by go_simp)
  have b2 : w2.cell? ⟨w.heap.size, 2, none⟩ = some (.slice Aa args.length ca) := (hx2.cells _ _ hz0).trans (by go_simp)
  have b3 : w2.cell? ⟨w.heap.size, 3, none⟩ = some (.int .i64 b) := (hx2.cells _ _ hz0).trans (by go_simp)
  have b4 : w2.cell? ⟨w.heap.size, 4, none⟩ = some (.slice Ar rows.length cr) := (hx2.cells _ _ hz0).trans (by go_simp)
  have hz := Nat.lt_of_lt_of_le hz0 hx2.size
  have HX2 := hide (hx0.trans hx2)
  clear hx0 hx2 hz0
  go_wp2_with fail
  refine (args_any _ args 1 0 5 w.heap.size _ b2 (hA0.out.ext HX2.out)).mono ?_
  rintro e w3 ⟨rfl, hx3⟩
  have b2 := (hx3.cells _ _ hz).trans b2
  have b3 := (hx3.cells _ _ hz).trans b3
  have b4 := (hx3.cells _ _ hz).trans b4
  have hz := Nat.lt_of_lt_of_le hz hx3.size
  have HX3 := hide (HX2.out.trans hx3)
  clear hx3
  cases hq : argsB args 1 0 5 with
  | false =>
    have HQ3 := hide (show fitB 6 vars args b rows = false by rw [HF.out, hq]; rfl)
    clear hq
    go_wp2_with fail
    go_ret
    exact Ret.mk (ret_b HQ3.out.symm) HX3.out
  | true =>
    have HQ3 := hide (show fitB 6 vars args b rows = (inR b 0 4 && ((rows.length : Int) == 0)) by rw [HF.out, hq]; rfl)
    clear hq
    go_wp2_with fail
    refine (within_any _ _ _ _).mono ?_
    rintro e w' ⟨rfl, rfl⟩
    cases hq : inR b 0 4 with
    | false =>
      have HQ2 := hide (show fitB 6 vars args b rows = false by rw [HQ3.out, hq]; rfl)
      clear hq
      go_wp2_with fail
      go_ret
      exact Ret.mk (ret_b HQ2.out.symm) HX3.out
    | true =>
      have HQ2 := hide (show fitB 6 vars args b rows = ((rows.length : Int) == 0) by rw [HQ3.out, hq]; rfl)
      clear hq
      go_wp2_with fail
      go_ret
      exact Ret.mk (ret_b HQ2.out.symm) HX3.out
set_option maxRecDepth 100000 in
set_option maxHeartbeats 4000000 in
theorem fits_8 (vv va vr : Value) (vars args : List Int) (b : Int) (rows : List (List Int)) (w : World) (hV : SInts w vv vars) (hA : SInts w va args) (hR : SRows w vr rows) :
    Calls Tryd.prog 74 #[.agg #[.int .i64 8, vv, va, .int .i64 b, vr]] w (Ret (.bool (fitB 8 vars args b rows)) w) := by
  have hV0 := hide hV
  have hA0 := hide hA
  have hR0 := hide hR
  obtain ⟨Av, cv, rfl, -, hlv⟩ := hV.form
  obtain ⟨Aa, ca, rfl, -, hla⟩ := hA.form
  obtain ⟨Ar, cr, rfl, -, hlr⟩ := hR.form
  have HF := hide (show fitB 8 vars args b rows = (vRows rows 6 (-1) (rows.length - 1) && (dst args && (allR args 0 (rows.length - 1) && (b == 0)))) from rfl)
  clear hV hA hR
  go_enter Tryd.func74, Tryd.ntmps74
  go_wp2_with fail
  have hx0 := (Ext.refl w).alloc (.cells #[.int .i64 8, .slice Av vars.length cv, .slice Aa args.length ca, .int .i64 b, .slice Ar rows.length cr] 60)
  have hz0 : w.heap.size < (w.alloc (.cells #[.int .i64 8, .slice Av vars.length cv, .slice Aa args.length ca, .int .i64 b, .slice Ar rows.length cr] 60)).heap.size := by simp
  refine wp_region_ext (by kernel_rfl) (by kernel_rfl) ?_
  iterate 9 (apply quiet_val; (focus rfl); (focus (intro w' hw'; have hk' := hw'.cells; go_simp; all_goals exact rfl)); simp only [Act.put, List.setIfInBounds_toArray, List.set_cons_succ, List.set_cons_zero])
  refine wpQuiet_nil ?_
  intro w2 hx2
  have b0 : w2.cell? ⟨w.heap.size, 0, none⟩ = some (.int .i64 8) := (hx2.cells _ _ hz0).trans (by go_simp)
  have b2 : w2.cell? ⟨w.heap.size, 2, none⟩ = some (.slice Aa args.length ca) := (hx2.cells _ _ hz0).trans (by go_simp)
  have b3 : w2.cell? ⟨w.heap.size, 3, none⟩ = some (.int .i64 b) := (hx2.cells _ _ hz0).trans (by go_simp)
  have b4 : w2.cell? ⟨w.heap.size, 4, none⟩ = some (.slice Ar rows.length cr) := (hx2.cells _ _ hz0).trans (by go_simp)
  have hz := Nat.lt_of_lt_of_le hz0 hx2.size
  have HX2 := hide (hx0.trans hx2)
  clear hx0 hx2 hz0
  go_wp2_with fail
  refine (rowsIn_any _ rows 6 (-1) (rows.length - 1) _ (hR0.out.ext HX2.out)).mono ?_
  rintro e w3 ⟨rfl, hx3⟩
  have b2 := (hx3.cells _ _ hz).trans b2
  have b3 := (hx3.cells _ _ hz).trans b3
  have b4 := (hx3.cells _ _ hz).trans b4
  have hz := Nat.lt_of_lt_of_le hz hx3.size
  have HX3 := hide (HX2.out.trans hx3)
  clear hx3
  cases hq : vRows rows 6 (-1) (rows.length - 1) with
  | false =>
    have HQ4 := hide (show fitB 8 vars args b rows = false by rw [HF.out, hq]; rfl)
    clear hq
    go_wp2_with fail
    go_ret
    exact Ret.mk (ret_b HQ4.out.symm) HX3.out
  | true =>
    have HQ4 := hide (show fitB 8 vars args b rows = (dst args && (allR args 0 (rows.length - 1) && (b == 0))) by rw [HF.out, hq]; rfl)
    clear hq
    go_wp2_with fail
    refine (distinct_any _ args _ (hA0.out.ext HX3.out)).mono ?_
    rintro e w' ⟨rfl, rfl⟩
    cases hq : dst args with
    | false =>
      have HQ3 := hide (show fitB 8 vars args b rows = false by rw [HQ4.out, hq]; rfl)
      clear hq
      go_wp2_with fail
      go_ret
      exact Ret.mk (ret_b HQ3.out.symm) HX3.out
    | true =>
      have HQ3 := hide (show fitB 8 vars args b rows = (allR args 0 (rows.length - 1) && (b == 0)) by rw [HQ4.out, hq]; rfl)
      clear hq
      go_wp2_with fail
      refine (allIn_any _ args 0 (rows.length - 1) _ (hA0.out.ext HX3.out)).mono ?_
      rintro e w4 ⟨rfl, hx4⟩
      have b2 := (hx4.cells _ _ hz).trans b2
      have b3 := (hx4.cells _ _ hz).trans b3
      have b4 := (hx4.cells _ _ hz).trans b4
      have hz := Nat.lt_of_lt_of_le hz hx4.size
      have HX4 := hide (HX3.out.trans hx4)
      clear hx4
      cases hq : allR args 0 (rows.length - 1) with
      | false =>
        have HQ2 := hide (show fitB 8 vars args b rows = false by rw [HQ3.out, hq]; rfl)
        clear hq
        go_wp2_with fail
        go_ret
        exact Ret.mk (ret_b HQ2.out.symm) HX4.out
      | true =>
        have HQ2 := hide (show fitB 8 vars args b rows = (b == 0) by rw [HQ3.out, hq]; rfl)
        clear hq
        go_wp2_with fail
        go_ret
        exact Ret.mk (ret_b HQ2.out.symm) HX4.out
theorem fitB_other {kk : Int} (vars args : List Int) (b : Int) (rows : List (List Int)) (h1 : kk ≠ 1) (h2 : kk ≠ 2) (h3 : kk ≠ 3) (h4 : kk ≠ 4) (h5 : kk ≠ 5) (h6 : kk ≠ 6) (h7 : kk ≠ 7) (h8 : kk ≠ 8) (h9 : kk ≠ 9) : fitB kk vars args b rows = false := by
  unfold fitB
  rw [if_neg h1, if_neg h2, if_neg (by omega), if_neg h4, if_neg h5, if_neg h6, if_neg h7, if_neg h8]
set_option maxRecDepth 100000 in
set_option maxHeartbeats 4000000 in
theorem fits_0 (kk : Int) (vv va vr : Value) (vars args : List Int) (b : Int) (rows : List (List Int)) (w : World) (hV : SInts w vv vars) (hA : SInts w va args) (hR : SRows w vr rows)
    (h1 : (kk == 1) = false) (h2 : (kk == 2) = false) (h3 : (kk == 3) = false) (h4 : (kk == 4) = false) (h5 : (kk == 5) = false) (h6 : (kk == 6) = false) (h7 : (kk == 7) = false) (h8 : (kk == 8) = false) (h9 : (kk == 9) = false) :
    Calls Tryd.prog 74 #[.agg #[.int .i64 kk, vv, va, .int .i64 b, vr]] w (Ret (.bool false) w) := by
  obtain ⟨Av, cv, rfl, -, hlv⟩ := hV.form
  obtain ⟨Aa, ca, rfl, -, hla⟩ := hA.form
  obtain ⟨Ar, cr, rfl, -, hlr⟩ := hR.form
  clear hV hA hR
  go_enter Tryd.func74, Tryd.ntmps74
  go_wp2_with fail
  have hx0 := (Ext.refl w).alloc (.cells #[.int .i64 kk, .slice Av vars.length cv, .slice Aa args.length ca, .int .i64 b, .slice Ar rows.length cr] 60)
  have hz0 : w.heap.size < (w.alloc (.cells #[.int .i64 kk, .slice Av vars.length cv, .slice Aa args.length ca, .int .i64 b, .slice Ar rows.length cr] 60)).heap.size := by simp
  refine wp_region_ext (by kernel_rfl) (by kernel_rfl) ?_
  iterate 9 (apply quiet_val; (focus rfl); (focus (intro w' hw'; have hk' := hw'.cells; go_simp; all_goals exact rfl)); simp only [Act.put, List.setIfInBounds_toArray, List.set_cons_succ, List.set_cons_zero])
  refine wpQuiet_nil ?_
  intro w2 hx2
  have b0 : w2.cell? ⟨w.heap.size, 0, none⟩ = some (.int .i64 kk) := (hx2.cells _ _ hz0).trans (by go_simp)
  have HX2 := hide (hx0.trans hx2)
  clear hx0 hx2 hz0
  go_wp2
  go_ret
  exact Ret.mk rfl HX2.out
theorem fits_all (c : Con) : FitsOK c := by
  intro vv va vr W hV hA hR hl
  obtain ⟨kk, vars, args, b, rows⟩ := c
  simp only at hV hA hR hl ⊢
  by_cases h1 : kk = 1
  · subst h1; exact fits_1 _ _ _ _ _ _ _ _ hV hA hR
  by_cases h2 : kk = 2
  · subst h2; exact fits_2 _ _ _ _ _ _ _ _ hV hA hR
  by_cases h3 : kk = 3
  · subst h3; exact fits_3 _ _ _ _ _ _ _ _ hV hA hR
  by_cases h4 : kk = 4
  · subst h4; exact fits_4 _ _ _ _ _ _ _ _ hV hA hR
  by_cases h5 : kk = 5
  · subst h5; exact fits_5 _ _ _ _ _ _ _ _ hV hA hR
  by_cases h6 : kk = 6
  · subst h6; exact fits_6 _ _ _ _ _ _ _ _ hV hA hR
  by_cases h7 : kk = 7
  · subst h7; exact fits_7 _ _ _ _ _ _ _ _ hV hA hR hl
  by_cases h8 : kk = 8
  · subst h8; exact fits_8 _ _ _ _ _ _ _ _ hV hA hR
  by_cases h9 : kk = 9
  · subst h9; exact fits_9 _ _ _ _ _ _ _ _ hV hA hR
  rw [fitB_other vars args b rows h1 h2 h3 h4 h5 h6 h7 h8 h9]
  exact fits_0 kk _ _ _ vars args b rows W hV hA hR (by simpa using h1) (by simpa using h2) (by simpa using h3) (by simpa using h4) (by simpa using h5) (by simpa using h6) (by simpa using h7) (by simpa using h8) (by simpa using h9)
end Go.Proofs.YtjpdebgejlfeaaaDoor
