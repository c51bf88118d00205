/- validConstraint of the reference: kind by kind. -/
import Derived.Test.YtgpbmggfpbebmaaGreatSpZ
import Derived.Test.YtgpbmggfpbebmaaGreatFitK
import Derived.Test.YtgpbmggfpbebmaaGreatPrpZ
namespace Go.Proofs.YtgpbmggfpbebmaaGreat
open Go.RowKit

/-- A constraint is valid for n variables: as the reference has it. -/
def vCs (c : Con) (n : Int) : Bool := inR c.vars.length 1 n && (allR c.vars 0 (n - 1) && (dst c.vars && fitB c.kk c.vars c.args c.bound c.rows))
theorem vCon_vCs (c : Con) (n : Int) : vCon c n = (inR n 1 4 && vCs c n) := rfl
set_option maxRecDepth 100000 in
set_option maxHeartbeats 8000000 in
theorem vcs_1 (vv va vr : Value) (vars args : List Int) (b : Int) (rows : List (List Int)) (n : Int) (w : World) (hV : SInts w vv vars) (hA : SInts w va args) (hR : SRows w vr rows) (hn0 : 0 ≤ n) (hn1 : n ≤ 1000000000000000) (h1 : inR vars.length 1 n = true) (h2 : allR vars 0 (n - 1) = true) (h3 : dst vars = true) :
    Calls Tryz.prog 52 #[.agg #[.int .i64 1, vv, va, .int .i64 b, vr], .int .i64 n] w (Ret (.bool (fitB 1 vars args b rows)) w) := by
  obtain ⟨Av, cv, rfl, -, hlv⟩ := hV.form
  obtain ⟨Aa, ca, rfl, -, hla⟩ := hA.form
  obtain ⟨Ar, cr, rfl, -, hlr⟩ := hR.form
  obtain ⟨w0, hw0⟩ : ∃ w0, w0 = w.alloc (.cells #[.int .i64 1, .slice Av vars.length cv, .slice Aa args.length ca, .int .i64 b, .slice Ar rows.length cr] 67) := ⟨_, rfl⟩
  have hx0 : Ext w w0 := by rw [hw0]; exact (Ext.refl w).alloc _
  have k0 : w0.cell? ⟨w.heap.size, 0, none⟩ = some (.int .i64 1) := by rw [hw0]; go_simp
  have k1 : w0.cell? ⟨w.heap.size, 1, none⟩ = some (.slice Av vars.length cv) := by rw [hw0]; go_simp
  have k2 : w0.cell? ⟨w.heap.size, 2, none⟩ = some (.slice Aa args.length ca) := by rw [hw0]; go_simp
  have k3 : w0.cell? ⟨w.heap.size, 3, none⟩ = some (.int .i64 b) := by rw [hw0]; go_simp
  have k4 : w0.cell? ⟨w.heap.size, 4, none⟩ = some (.slice Ar rows.length cr) := by rw [hw0]; go_simp
  have ks : w.heap.size < w0.heap.size := by rw [hw0]; simp
  have HX0 := hide hx0
  have hV0 := hide (hV.ext hx0)
  have hA0 := hide (hA.ext hx0)
  have hR0 := hide (hR.ext hx0)
  clear hx0 hV hA hR
  have H1 := hide h1
  have H2 := hide h2
  have H3 := hide h3
  have HF := hide (show fitB 1 vars args b rows = (((args.length : Int) == vars.length) && (allR args (-9) 9 && (inR b (-999) 999 && ((rows.length : Int) == 0)))) from by rw [show fitB 1 vars args b rows = (argsB args vars.length (-9) 9 && (inR b (-999) 999 && ((rows.length : Int) == 0))) from rfl, argsB, Bool.and_assoc])
  clear h1 h2 h3
  go_enter Tryz.func52, Tryz.ntmps52
  go_wp2_with fail
  rw [← hw0]
  clear hw0
  refine (inRange_any _ _ _ _).mono ?_
  rintro e w' ⟨rfl, rfl⟩
  rw [H1.out]
  go_wp2_with fail
  refine (allInRange_any _ vars 0 (n - 1) _ hV0.out).mono ?_
  rintro e w' ⟨rfl, rfl⟩
  rw [H2.out]
  go_wp2_with fail
  refine (distinctS_any _ vars _ hV0.out).mono ?_
  rintro e w2 ⟨rfl, hx2⟩
  rw [H3.out]
  have b0 := (hx2.cells _ _ ks).trans k0
  have b1 := (hx2.cells _ _ ks).trans k1
  have b2 := (hx2.cells _ _ ks).trans k2
  have b3 := (hx2.cells _ _ ks).trans k3
  have b4 := (hx2.cells _ _ ks).trans k4
  have hz := Nat.lt_of_lt_of_le ks hx2.size
  have HX2 := hide hx2
  clear hx2 k0 k1 k2 k3 k4
  cases hq : ((args.length : Int) == vars.length) with
  | false =>
    have HQ4 := hide (show fitB 1 vars args b rows = false by rw [HF.out, hq]; rfl)
    go_wp2_with fail
    go_ret
    exact Ret.mk (ret_b HQ4.out.symm) (HX0.out.trans HX2.out)
  | true =>
    have HQ4 := hide (show fitB 1 vars args b rows = (allR args (-9) 9 && (inR b (-999) 999 && ((rows.length : Int) == 0))) by rw [HF.out, hq]; rfl)
    go_wp2_with fail
    refine (allInRange_any _ args (-9) 9 _ (hA0.out.ext HX2.out)).mono ?_
    rintro e w' ⟨rfl, rfl⟩
    cases hq : allR args (-9) 9 with
    | false =>
      have HQ3 := hide (show fitB 1 vars args b rows = false by rw [HQ4.out, hq]; rfl)
      clear hq
      go_wp2_with fail
      go_ret
      exact Ret.mk (ret_b HQ3.out.symm) (HX0.out.trans HX2.out)
    | true =>
      have HQ3 := hide (show fitB 1 vars args b rows = (inR b (-999) 999 && ((rows.length : Int) == 0)) by rw [HQ4.out, hq]; rfl)
      clear hq
      go_wp2_with fail
      refine (inRange_any _ _ _ _).mono ?_
      rintro e w' ⟨rfl, rfl⟩
      cases hq : inR b (-999) 999 with
      | false =>
        have HQ2 := hide (show fitB 1 vars args b rows = false by rw [HQ3.out, hq]; rfl)
        clear hq
        go_wp2_with fail
        go_ret
        exact Ret.mk (ret_b HQ2.out.symm) (HX0.out.trans HX2.out)
      | true =>
        have HQ2 := hide (show fitB 1 vars args b rows = ((rows.length : Int) == 0) by rw [HQ3.out, hq]; rfl)
        clear hq
        go_wp2_with fail
        go_ret
        exact Ret.mk (ret_b HQ2.out.symm) (HX0.out.trans HX2.out)
set_option maxRecDepth 100000 in
set_option maxHeartbeats 8000000 in
theorem vcs_2 (vv va vr : Value) (vars args : List Int) (b : Int) (rows : List (List Int)) (n : Int) (w : World) (hV : SInts w vv vars) (hA : SInts w va args) (hR : SRows w vr rows) (hn0 : 0 ≤ n) (hn1 : n ≤ 1000000000000000) (h1 : inR vars.length 1 n = true) (h2 : allR vars 0 (n - 1) = true) (h3 : dst vars = true) :
    Calls Tryz.prog 52 #[.agg #[.int .i64 2, vv, va, .int .i64 b, vr], .int .i64 n] w (Ret (.bool (fitB 2 vars args b rows)) w) := by
  obtain ⟨Av, cv, rfl, -, hlv⟩ := hV.form
  obtain ⟨Aa, ca, rfl, -, hla⟩ := hA.form
  obtain ⟨Ar, cr, rfl, -, hlr⟩ := hR.form
  obtain ⟨w0, hw0⟩ : ∃ w0, w0 = w.alloc (.cells #[.int .i64 2, .slice Av vars.length cv, .slice Aa args.length ca, .int .i64 b, .slice Ar rows.length cr] 67) := ⟨_, rfl⟩
  have hx0 : Ext w w0 := by rw [hw0]; exact (Ext.refl w).alloc _
  have k0 : w0.cell? ⟨w.heap.size, 0, none⟩ = some (.int .i64 2) := by rw [hw0]; go_simp
  have k1 : w0.cell? ⟨w.heap.size, 1, none⟩ = some (.slice Av vars.length cv) := by rw [hw0]; go_simp
  have k2 : w0.cell? ⟨w.heap.size, 2, none⟩ = some (.slice Aa args.length ca) := by rw [hw0]; go_simp
  have k3 : w0.cell? ⟨w.heap.size, 3, none⟩ = some (.int .i64 b) := by rw [hw0]; go_simp
  have k4 : w0.cell? ⟨w.heap.size, 4, none⟩ = some (.slice Ar rows.length cr) := by rw [hw0]; go_simp
  have ks : w.heap.size < w0.heap.size := by rw [hw0]; simp
  have HX0 := hide hx0
  have hV0 := hide (hV.ext hx0)
  have hA0 := hide (hA.ext hx0)
  have hR0 := hide (hR.ext hx0)
  clear hx0 hV hA hR
  have H1 := hide h1
  have H2 := hide h2
  have H3 := hide h3
  have HF := hide (show fitB 2 vars args b rows = (((vars.length : Int) == 2) && (((args.length : Int) == 1) && (allR args (-9) 9 && ((b == 0) && ((rows.length : Int) == 0))))) from by rw [show fitB 2 vars args b rows = (((vars.length : Int) == 2) && (argsB args 1 (-9) 9 && ((b == 0) && ((rows.length : Int) == 0)))) from rfl, argsB, Bool.and_assoc])
  clear h1 h2 h3
  go_enter Tryz.func52, Tryz.ntmps52
  go_wp2_with fail
  rw [← hw0]
  clear hw0
  refine (inRange_any _ _ _ _).mono ?_
  rintro e w' ⟨rfl, rfl⟩
  rw [H1.out]
  go_wp2_with fail
  refine (allInRange_any _ vars 0 (n - 1) _ hV0.out).mono ?_
  rintro e w' ⟨rfl, rfl⟩
  rw [H2.out]
  go_wp2_with fail
  refine (distinctS_any _ vars _ hV0.out).mono ?_
  rintro e w2 ⟨rfl, hx2⟩
  rw [H3.out]
  have b0 := (hx2.cells _ _ ks).trans k0
  have b1 := (hx2.cells _ _ ks).trans k1
  have b2 := (hx2.cells _ _ ks).trans k2
  have b3 := (hx2.cells _ _ ks).trans k3
  have b4 := (hx2.cells _ _ ks).trans k4
  have hz := Nat.lt_of_lt_of_le ks hx2.size
  have HX2 := hide hx2
  clear hx2 k0 k1 k2 k3 k4
  cases hq : ((vars.length : Int) == 2) with
  | false =>
    have HQ5 := hide (show fitB 2 vars args b rows = false by rw [HF.out, hq]; rfl)
    go_wp2_with fail
    go_ret
    exact Ret.mk (ret_b HQ5.out.symm) (HX0.out.trans HX2.out)
  | true =>
    have HQ5 := hide (show fitB 2 vars args b rows = (((args.length : Int) == 1) && (allR args (-9) 9 && ((b == 0) && ((rows.length : Int) == 0)))) by rw [HF.out, hq]; rfl)
    cases hq : ((args.length : Int) == 1) with
    | false =>
      have HQ4 := hide (show fitB 2 vars args b rows = false by rw [HQ5.out, hq]; rfl)
      go_wp2_with fail
      go_ret
      exact Ret.mk (ret_b HQ4.out.symm) (HX0.out.trans HX2.out)
    | true =>
      have HQ4 := hide (show fitB 2 vars args b rows = (allR args (-9) 9 && ((b == 0) && ((rows.length : Int) == 0))) by rw [HQ5.out, hq]; rfl)
      go_wp2_with fail
      refine (allInRange_any _ args (-9) 9 _ (hA0.out.ext HX2.out)).mono ?_
      rintro e w' ⟨rfl, rfl⟩
      cases hq : allR args (-9) 9 with
      | false =>
        have HQ3 := hide (show fitB 2 vars args b rows = false by rw [HQ4.out, hq]; rfl)
        clear hq
        go_wp2_with fail
        go_ret
        exact Ret.mk (ret_b HQ3.out.symm) (HX0.out.trans HX2.out)
      | true =>
        have HQ3 := hide (show fitB 2 vars args b rows = ((b == 0) && ((rows.length : Int) == 0)) by rw [HQ4.out, hq]; rfl)
        clear hq
        cases hq : (b == 0) with
        | false =>
          have HQ2 := hide (show fitB 2 vars args b rows = false by rw [HQ3.out, hq]; rfl)
          go_wp2_with fail
          go_ret
          exact Ret.mk (ret_b HQ2.out.symm) (HX0.out.trans HX2.out)
        | true =>
          have HQ2 := hide (show fitB 2 vars args b rows = ((rows.length : Int) == 0) by rw [HQ3.out, hq]; rfl)
          go_wp2_with fail
          go_ret
          exact Ret.mk (ret_b HQ2.out.symm) (HX0.out.trans HX2.out)
set_option maxRecDepth 100000 in
set_option maxHeartbeats 8000000 in
theorem vcs_3 (vv va vr : Value) (vars args : List Int) (b : Int) (rows : List (List Int)) (n : Int) (w : World) (hV : SInts w vv vars) (hA : SInts w va args) (hR : SRows w vr rows) (hn0 : 0 ≤ n) (hn1 : n ≤ 1000000000000000) (h1 : inR vars.length 1 n = true) (h2 : allR vars 0 (n - 1) = true) (h3 : dst vars = true) :
    Calls Tryz.prog 52 #[.agg #[.int .i64 3, vv, va, .int .i64 b, vr], .int .i64 n] w (Ret (.bool (fitB 3 vars args b rows)) w) := by
  obtain ⟨Av, cv, rfl, -, hlv⟩ := hV.form
  obtain ⟨Aa, ca, rfl, -, hla⟩ := hA.form
  obtain ⟨Ar, cr, rfl, -, hlr⟩ := hR.form
  obtain ⟨w0, hw0⟩ : ∃ w0, w0 = w.alloc (.cells #[.int .i64 3, .slice Av vars.length cv, .slice Aa args.length ca, .int .i64 b, .slice Ar rows.length cr] 67) := ⟨_, rfl⟩
  have hx0 : Ext w w0 := by rw [hw0]; exact (Ext.refl w).alloc _
  have k0 : w0.cell? ⟨w.heap.size, 0, none⟩ = some (.int .i64 3) := by rw [hw0]; go_simp
  have k1 : w0.cell? ⟨w.heap.size, 1, none⟩ = some (.slice Av vars.length cv) := by rw [hw0]; go_simp
  have k2 : w0.cell? ⟨w.heap.size, 2, none⟩ = some (.slice Aa args.length ca) := by rw [hw0]; go_simp
  have k3 : w0.cell? ⟨w.heap.size, 3, none⟩ = some (.int .i64 b) := by rw [hw0]; go_simp
  have k4 : w0.cell? ⟨w.heap.size, 4, none⟩ = some (.slice Ar rows.length cr) := by rw [hw0]; go_simp
  have ks : w.heap.size < w0.heap.size := by rw [hw0]; simp
  have HX0 := hide hx0
  have hV0 := hide (hV.ext hx0)
  have hA0 := hide (hA.ext hx0)
  have hR0 := hide (hR.ext hx0)
  clear hx0 hV hA hR
  have H1 := hide h1
  have H2 := hide h2
  have H3 := hide h3
  have HF := hide (show fitB 3 vars args b rows = (((args.length : Int) == 0) && ((b == 0) && ((rows.length : Int) == 0))) from rfl)
  clear h1 h2 h3
  go_enter Tryz.func52, Tryz.ntmps52
  go_wp2_with fail
  rw [← hw0]
  clear hw0
  refine (inRange_any _ _ _ _).mono ?_
  rintro e w' ⟨rfl, rfl⟩
  rw [H1.out]
  go_wp2_with fail
  refine (allInRange_any _ vars 0 (n - 1) _ hV0.out).mono ?_
  rintro e w' ⟨rfl, rfl⟩
  rw [H2.out]
  go_wp2_with fail
  refine (distinctS_any _ vars _ hV0.out).mono ?_
  rintro e w2 ⟨rfl, hx2⟩
  rw [H3.out]
  have b0 := (hx2.cells _ _ ks).trans k0
  have b1 := (hx2.cells _ _ ks).trans k1
  have b2 := (hx2.cells _ _ ks).trans k2
  have b3 := (hx2.cells _ _ ks).trans k3
  have b4 := (hx2.cells _ _ ks).trans k4
  have hz := Nat.lt_of_lt_of_le ks hx2.size
  have HX2 := hide hx2
  clear hx2 k0 k1 k2 k3 k4
  cases hq : ((args.length : Int) == 0) with
  | false =>
    have HQ3 := hide (show fitB 3 vars args b rows = false by rw [HF.out, hq]; rfl)
    go_wp2_with fail
    go_ret
    exact Ret.mk (ret_b HQ3.out.symm) (HX0.out.trans HX2.out)
  | true =>
    have HQ3 := hide (show fitB 3 vars args b rows = ((b == 0) && ((rows.length : Int) == 0)) by rw [HF.out, hq]; rfl)
    cases hq : (b == 0) with
    | false =>
      have HQ2 := hide (show fitB 3 vars args b rows = false by rw [HQ3.out, hq]; rfl)
      go_wp2_with fail
      go_ret
      exact Ret.mk (ret_b HQ2.out.symm) (HX0.out.trans HX2.out)
    | true =>
      have HQ2 := hide (show fitB 3 vars args b rows = ((rows.length : Int) == 0) by rw [HQ3.out, hq]; rfl)
      go_wp2_with fail
      go_ret
      exact Ret.mk (ret_b HQ2.out.symm) (HX0.out.trans HX2.out)
set_option maxRecDepth 100000 in
set_option maxHeartbeats 8000000 in
theorem vcs_9 (vv va vr : Value) (vars args : List Int) (b : Int) (rows : List (List Int)) (n : Int) (w : World) (hV : SInts w vv vars) (hA : SInts w va args) (hR : SRows w vr rows) (hn0 : 0 ≤ n) (hn1 : n ≤ 1000000000000000) (h1 : inR vars.length 1 n = true) (h2 : allR vars 0 (n - 1) = true) (h3 : dst vars = true) :
    Calls Tryz.prog 52 #[.agg #[.int .i64 9, vv, va, .int .i64 b, vr], .int .i64 n] w (Ret (.bool (fitB 9 vars args b rows)) w) := by
  obtain ⟨Av, cv, rfl, -, hlv⟩ := hV.form
  obtain ⟨Aa, ca, rfl, -, hla⟩ := hA.form
  obtain ⟨Ar, cr, rfl, -, hlr⟩ := hR.form
  obtain ⟨w0, hw0⟩ : ∃ w0, w0 = w.alloc (.cells #[.int .i64 9, .slice Av vars.length cv, .slice Aa args.length ca, .int .i64 b, .slice Ar rows.length cr] 67) := ⟨_, rfl⟩
  have hx0 : Ext w w0 := by rw [hw0]; exact (Ext.refl w).alloc _
  have k0 : w0.cell? ⟨w.heap.size, 0, none⟩ = some (.int .i64 9) := by rw [hw0]; go_simp
  have k1 : w0.cell? ⟨w.heap.size, 1, none⟩ = some (.slice Av vars.length cv) := by rw [hw0]; go_simp
  have k2 : w0.cell? ⟨w.heap.size, 2, none⟩ = some (.slice Aa args.length ca) := by rw [hw0]; go_simp
  have k3 : w0.cell? ⟨w.heap.size, 3, none⟩ = some (.int .i64 b) := by rw [hw0]; go_simp
  have k4 : w0.cell? ⟨w.heap.size, 4, none⟩ = some (.slice Ar rows.length cr) := by rw [hw0]; go_simp
  have ks : w.heap.size < w0.heap.size := by rw [hw0]; simp
  have HX0 := hide hx0
  have hV0 := hide (hV.ext hx0)
  have hA0 := hide (hA.ext hx0)
  have hR0 := hide (hR.ext hx0)
  clear hx0 hV hA hR
  have H1 := hide h1
  have H2 := hide h2
  have H3 := hide h3
  have HF := hide (show fitB 9 vars args b rows = (((args.length : Int) == 0) && ((b == 0) && ((rows.length : Int) == 0))) from rfl)
  clear h1 h2 h3
  go_enter Tryz.func52, Tryz.ntmps52
  go_wp2_with fail
  rw [← hw0]
  clear hw0
  refine (inRange_any _ _ _ _).mono ?_
  rintro e w' ⟨rfl, rfl⟩
  rw [H1.out]
  go_wp2_with fail
  refine (allInRange_any _ vars 0 (n - 1) _ hV0.out).mono ?_
  rintro e w' ⟨rfl, rfl⟩
  rw [H2.out]
  go_wp2_with fail
  refine (distinctS_any _ vars _ hV0.out).mono ?_
  rintro e w2 ⟨rfl, hx2⟩
  rw [H3.out]
  have b0 := (hx2.cells _ _ ks).trans k0
  have b1 := (hx2.cells _ _ ks).trans k1
  have b2 := (hx2.cells _ _ ks).trans k2
  have b3 := (hx2.cells _ _ ks).trans k3
  have b4 := (hx2.cells _ _ ks).trans k4
  have hz := Nat.lt_of_lt_of_le ks hx2.size
  have HX2 := hide hx2
  clear hx2 k0 k1 k2 k3 k4
  cases hq : ((args.length : Int) == 0) with
  | false =>
    have HQ3 := hide (show fitB 9 vars args b rows = false by rw [HF.out, hq]; rfl)
    go_wp2_with fail
    go_ret
    exact Ret.mk (ret_b HQ3.out.symm) (HX0.out.trans HX2.out)
  | true =>
    have HQ3 := hide (show fitB 9 vars args b rows = ((b == 0) && ((rows.length : Int) == 0)) by rw [HF.out, hq]; rfl)
    cases hq : (b == 0) with
    | false =>
      have HQ2 := hide (show fitB 9 vars args b rows = false by rw [HQ3.out, hq]; rfl)
      go_wp2_with fail
      go_ret
      exact Ret.mk (ret_b HQ2.out.symm) (HX0.out.trans HX2.out)
    | true =>
      have HQ2 := hide (show fitB 9 vars args b rows = ((rows.length : Int) == 0) by rw [HQ3.out, hq]; rfl)
      go_wp2_with fail
      go_ret
      exact Ret.mk (ret_b HQ2.out.symm) (HX0.out.trans HX2.out)
set_option maxRecDepth 100000 in
set_option maxHeartbeats 8000000 in
theorem vcs_4 (vv va vr : Value) (vars args : List Int) (b : Int) (rows : List (List Int)) (n : Int) (w : World) (hV : SInts w vv vars) (hA : SInts w va args) (hR : SRows w vr rows) (hn0 : 0 ≤ n) (hn1 : n ≤ 1000000000000000) (h1 : inR vars.length 1 n = true) (h2 : allR vars 0 (n - 1) = true) (h3 : dst vars = true) :
    Calls Tryz.prog 52 #[.agg #[.int .i64 4, vv, va, .int .i64 b, vr], .int .i64 n] w (Ret (.bool (fitB 4 vars args b rows)) w) := by
  obtain ⟨Av, cv, rfl, -, hlv⟩ := hV.form
  obtain ⟨Aa, ca, rfl, -, hla⟩ := hA.form
  obtain ⟨Ar, cr, rfl, -, hlr⟩ := hR.form
  obtain ⟨w0, hw0⟩ : ∃ w0, w0 = w.alloc (.cells #[.int .i64 4, .slice Av vars.length cv, .slice Aa args.length ca, .int .i64 b, .slice Ar rows.length cr] 67) := ⟨_, rfl⟩
  have hx0 : Ext w w0 := by rw [hw0]; exact (Ext.refl w).alloc _
  have k0 : w0.cell? ⟨w.heap.size, 0, none⟩ = some (.int .i64 4) := by rw [hw0]; go_simp
  have k1 : w0.cell? ⟨w.heap.size, 1, none⟩ = some (.slice Av vars.length cv) := by rw [hw0]; go_simp
  have k2 : w0.cell? ⟨w.heap.size, 2, none⟩ = some (.slice Aa args.length ca) := by rw [hw0]; go_simp
  have k3 : w0.cell? ⟨w.heap.size, 3, none⟩ = some (.int .i64 b) := by rw [hw0]; go_simp
  have k4 : w0.cell? ⟨w.heap.size, 4, none⟩ = some (.slice Ar rows.length cr) := by rw [hw0]; go_simp
  have ks : w.heap.size < w0.heap.size := by rw [hw0]; simp
  have HX0 := hide hx0
  have hV0 := hide (hV.ext hx0)
  have hA0 := hide (hA.ext hx0)
  have hR0 := hide (hR.ext hx0)
  clear hx0 hV hA hR
  have H1 := hide h1
  have H2 := hide h2
  have H3 := hide h3
  have HF := hide (show fitB 4 vars args b rows = (((vars.length : Int) == 2) && (inR args.length 1 6 && (allR args 0 5 && ((b == 0) && ((rows.length : Int) == 0))))) from rfl)
  clear h1 h2 h3
  go_enter Tryz.func52, Tryz.ntmps52
  go_wp2_with fail
  rw [← hw0]
  clear hw0
  refine (inRange_any _ _ _ _).mono ?_
  rintro e w' ⟨rfl, rfl⟩
  rw [H1.out]
  go_wp2_with fail
  refine (allInRange_any _ vars 0 (n - 1) _ hV0.out).mono ?_
  rintro e w' ⟨rfl, rfl⟩
  rw [H2.out]
  go_wp2_with fail
  refine (distinctS_any _ vars _ hV0.out).mono ?_
  rintro e w2 ⟨rfl, hx2⟩
  rw [H3.out]
  have b0 := (hx2.cells _ _ ks).trans k0
  have b1 := (hx2.cells _ _ ks).trans k1
  have b2 := (hx2.cells _ _ ks).trans k2
  have b3 := (hx2.cells _ _ ks).trans k3
  have b4 := (hx2.cells _ _ ks).trans k4
  have hz := Nat.lt_of_lt_of_le ks hx2.size
  have HX2 := hide hx2
  clear hx2 k0 k1 k2 k3 k4
  cases hq : ((vars.length : Int) == 2) with
  | false =>
    have HQ5 := hide (show fitB 4 vars args b rows = false by rw [HF.out, hq]; rfl)
    go_wp2_with fail
    go_ret
    exact Ret.mk (ret_b HQ5.out.symm) (HX0.out.trans HX2.out)
  | true =>
    have HQ5 := hide (show fitB 4 vars args b rows = (inR args.length 1 6 && (allR args 0 5 && ((b == 0) && ((rows.length : Int) == 0)))) by rw [HF.out, hq]; rfl)
    go_wp2_with fail
    refine (inRange_any _ _ _ _).mono ?_
    rintro e w' ⟨rfl, rfl⟩
    cases hq : inR args.length 1 6 with
    | false =>
      have HQ4 := hide (show fitB 4 vars args b rows = false by rw [HQ5.out, hq]; rfl)
      clear hq
      go_wp2_with fail
      go_ret
      exact Ret.mk (ret_b HQ4.out.symm) (HX0.out.trans HX2.out)
    | true =>
      have HQ4 := hide (show fitB 4 vars args b rows = (allR args 0 5 && ((b == 0) && ((rows.length : Int) == 0))) by rw [HQ5.out, hq]; rfl)
      clear hq
      go_wp2_with fail
      refine (allInRange_any _ args 0 5 _ (hA0.out.ext HX2.out)).mono ?_
      rintro e w' ⟨rfl, rfl⟩
      cases hq : allR args 0 5 with
      | false =>
        have HQ3 := hide (show fitB 4 vars args b rows = false by rw [HQ4.out, hq]; rfl)
        clear hq
        go_wp2_with fail
        go_ret
        exact Ret.mk (ret_b HQ3.out.symm) (HX0.out.trans HX2.out)
      | true =>
        have HQ3 := hide (show fitB 4 vars args b rows = ((b == 0) && ((rows.length : Int) == 0)) by rw [HQ4.out, hq]; rfl)
        clear hq
        cases hq : (b == 0) with
        | false =>
          have HQ2 := hide (show fitB 4 vars args b rows = false by rw [HQ3.out, hq]; rfl)
          go_wp2_with fail
          go_ret
          exact Ret.mk (ret_b HQ2.out.symm) (HX0.out.trans HX2.out)
        | true =>
          have HQ2 := hide (show fitB 4 vars args b rows = ((rows.length : Int) == 0) by rw [HQ3.out, hq]; rfl)
          go_wp2_with fail
          go_ret
          exact Ret.mk (ret_b HQ2.out.symm) (HX0.out.trans HX2.out)
set_option maxRecDepth 100000 in
set_option maxHeartbeats 8000000 in
theorem vcs_5 (vv va vr : Value) (vars args : List Int) (b : Int) (rows : List (List Int)) (n : Int) (w : World) (hV : SInts w vv vars) (hA : SInts w va args) (hR : SRows w vr rows) (hn0 : 0 ≤ n) (hn1 : n ≤ 1000000000000000) (h1 : inR vars.length 1 n = true) (h2 : allR vars 0 (n - 1) = true) (h3 : dst vars = true) :
    Calls Tryz.prog 52 #[.agg #[.int .i64 5, vv, va, .int .i64 b, vr], .int .i64 n] w (Ret (.bool (fitB 5 vars args b rows)) w) := by
  obtain ⟨Av, cv, rfl, -, hlv⟩ := hV.form
  obtain ⟨Aa, ca, rfl, -, hla⟩ := hA.form
  obtain ⟨Ar, cr, rfl, -, hlr⟩ := hR.form
  obtain ⟨w0, hw0⟩ : ∃ w0, w0 = w.alloc (.cells #[.int .i64 5, .slice Av vars.length cv, .slice Aa args.length ca, .int .i64 b, .slice Ar rows.length cr] 67) := ⟨_, rfl⟩
  have hx0 : Ext w w0 := by rw [hw0]; exact (Ext.refl w).alloc _
  have k0 : w0.cell? ⟨w.heap.size, 0, none⟩ = some (.int .i64 5) := by rw [hw0]; go_simp
  have k1 : w0.cell? ⟨w.heap.size, 1, none⟩ = some (.slice Av vars.length cv) := by rw [hw0]; go_simp
  have k2 : w0.cell? ⟨w.heap.size, 2, none⟩ = some (.slice Aa args.length ca) := by rw [hw0]; go_simp
  have k3 : w0.cell? ⟨w.heap.size, 3, none⟩ = some (.int .i64 b) := by rw [hw0]; go_simp
  have k4 : w0.cell? ⟨w.heap.size, 4, none⟩ = some (.slice Ar rows.length cr) := by rw [hw0]; go_simp
  have ks : w.heap.size < w0.heap.size := by rw [hw0]; simp
  have HX0 := hide hx0
  have hV0 := hide (hV.ext hx0)
  have hA0 := hide (hA.ext hx0)
  have hR0 := hide (hR.ext hx0)
  clear hx0 hV hA hR
  have H1 := hide h1
  have H2 := hide h2
  have H3 := hide h3
  have HF := hide (show fitB 5 vars args b rows = (((args.length : Int) == 0) && ((b == 0) && vRows rows vars.length 0 5)) from rfl)
  clear h1 h2 h3
  go_enter Tryz.func52, Tryz.ntmps52
  go_wp2_with fail
  rw [← hw0]
  clear hw0
  refine (inRange_any _ _ _ _).mono ?_
  rintro e w' ⟨rfl, rfl⟩
  rw [H1.out]
  go_wp2_with fail
  refine (allInRange_any _ vars 0 (n - 1) _ hV0.out).mono ?_
  rintro e w' ⟨rfl, rfl⟩
  rw [H2.out]
  go_wp2_with fail
  refine (distinctS_any _ vars _ hV0.out).mono ?_
  rintro e w2 ⟨rfl, hx2⟩
  rw [H3.out]
  have b0 := (hx2.cells _ _ ks).trans k0
  have b1 := (hx2.cells _ _ ks).trans k1
  have b2 := (hx2.cells _ _ ks).trans k2
  have b3 := (hx2.cells _ _ ks).trans k3
  have b4 := (hx2.cells _ _ ks).trans k4
  have hz := Nat.lt_of_lt_of_le ks hx2.size
  have HX2 := hide hx2
  clear hx2 k0 k1 k2 k3 k4
  cases hq : ((args.length : Int) == 0) with
  | false =>
    have HQ3 := hide (show fitB 5 vars args b rows = false by rw [HF.out, hq]; rfl)
    go_wp2_with fail
    go_ret
    exact Ret.mk (ret_b HQ3.out.symm) (HX0.out.trans HX2.out)
  | true =>
    have HQ3 := hide (show fitB 5 vars args b rows = ((b == 0) && vRows rows vars.length 0 5) by rw [HF.out, hq]; rfl)
    cases hq : (b == 0) with
    | false =>
      have HQ2 := hide (show fitB 5 vars args b rows = false by rw [HQ3.out, hq]; rfl)
      go_wp2_with fail
      go_ret
      exact Ret.mk (ret_b HQ2.out.symm) (HX0.out.trans HX2.out)
    | true =>
      have HQ2 := hide (show fitB 5 vars args b rows = vRows rows vars.length 0 5 by rw [HQ3.out, hq]; rfl)
      go_wp2_with fail
      refine (validRows_any _ rows vars.length 0 5 _ (hR0.out.ext HX2.out)).mono ?_
      rintro e w' ⟨rfl, rfl⟩
      go_wp2
      go_ret
      exact Ret.mk (ret_b HQ2.out.symm) (HX0.out.trans HX2.out)
set_option maxRecDepth 100000 in
set_option maxHeartbeats 8000000 in
theorem vcs_6 (vv va vr : Value) (vars args : List Int) (b : Int) (rows : List (List Int)) (n : Int) (w : World) (hV : SInts w vv vars) (hA : SInts w va args) (hR : SRows w vr rows) (hn0 : 0 ≤ n) (hn1 : n ≤ 1000000000000000) (h1 : inR vars.length 1 n = true) (h2 : allR vars 0 (n - 1) = true) (h3 : dst vars = true) :
    Calls Tryz.prog 52 #[.agg #[.int .i64 6, vv, va, .int .i64 b, vr], .int .i64 n] w (Ret (.bool (fitB 6 vars args b rows)) w) := by
  obtain ⟨Av, cv, rfl, -, hlv⟩ := hV.form
  obtain ⟨Aa, ca, rfl, -, hla⟩ := hA.form
  obtain ⟨Ar, cr, rfl, -, hlr⟩ := hR.form
  obtain ⟨w0, hw0⟩ : ∃ w0, w0 = w.alloc (.cells #[.int .i64 6, .slice Av vars.length cv, .slice Aa args.length ca, .int .i64 b, .slice Ar rows.length cr] 67) := ⟨_, rfl⟩
  have hx0 : Ext w w0 := by rw [hw0]; exact (Ext.refl w).alloc _
  have k0 : w0.cell? ⟨w.heap.size, 0, none⟩ = some (.int .i64 6) := by rw [hw0]; go_simp
  have k1 : w0.cell? ⟨w.heap.size, 1, none⟩ = some (.slice Av vars.length cv) := by rw [hw0]; go_simp
  have k2 : w0.cell? ⟨w.heap.size, 2, none⟩ = some (.slice Aa args.length ca) := by rw [hw0]; go_simp
  have k3 : w0.cell? ⟨w.heap.size, 3, none⟩ = some (.int .i64 b) := by rw [hw0]; go_simp
  have k4 : w0.cell? ⟨w.heap.size, 4, none⟩ = some (.slice Ar rows.length cr) := by rw [hw0]; go_simp
  have ks : w.heap.size < w0.heap.size := by rw [hw0]; simp
  have HX0 := hide hx0
  have hV0 := hide (hV.ext hx0)
  have hA0 := hide (hA.ext hx0)
  have hR0 := hide (hR.ext hx0)
  clear hx0 hV hA hR
  have H1 := hide h1
  have H2 := hide h2
  have H3 := hide h3
  have HF := hide (show fitB 6 vars args b rows = (((args.length : Int) == 1) && (allR args 0 5 && (inR b 0 4 && ((rows.length : Int) == 0)))) from by rw [show fitB 6 vars args b rows = (argsB args 1 0 5 && (inR b 0 4 && ((rows.length : Int) == 0))) from rfl, argsB, Bool.and_assoc])
  clear h1 h2 h3
  go_enter Tryz.func52, Tryz.ntmps52
  go_wp2_with fail
  rw [← hw0]
  clear hw0
  refine (inRange_any _ _ _ _).mono ?_
  rintro e w' ⟨rfl, rfl⟩
  rw [H1.out]
  go_wp2_with fail
  refine (allInRange_any _ vars 0 (n - 1) _ hV0.out).mono ?_
  rintro e w' ⟨rfl, rfl⟩
  rw [H2.out]
  go_wp2_with fail
  refine (distinctS_any _ vars _ hV0.out).mono ?_
  rintro e w2 ⟨rfl, hx2⟩
  rw [H3.out]
  have b0 := (hx2.cells _ _ ks).trans k0
  have b1 := (hx2.cells _ _ ks).trans k1
  have b2 := (hx2.cells _ _ ks).trans k2
  have b3 := (hx2.cells _ _ ks).trans k3
  have b4 := (hx2.cells _ _ ks).trans k4
  have hz := Nat.lt_of_lt_of_le ks hx2.size
  have HX2 := hide hx2
  clear hx2 k0 k1 k2 k3 k4
  cases hq : ((args.length : Int) == 1) with
  | false =>
    have HQ4 := hide (show fitB 6 vars args b rows = false by rw [HF.out, hq]; rfl)
    go_wp2_with fail
    go_ret
    exact Ret.mk (ret_b HQ4.out.symm) (HX0.out.trans HX2.out)
  | true =>
    have HQ4 := hide (show fitB 6 vars args b rows = (allR args 0 5 && (inR b 0 4 && ((rows.length : Int) == 0))) by rw [HF.out, hq]; rfl)
    go_wp2_with fail
    refine (allInRange_any _ args 0 5 _ (hA0.out.ext HX2.out)).mono ?_
    rintro e w' ⟨rfl, rfl⟩
    cases hq : allR args 0 5 with
    | false =>
      have HQ3 := hide (show fitB 6 vars args b rows = false by rw [HQ4.out, hq]; rfl)
      clear hq
      go_wp2_with fail
      go_ret
      exact Ret.mk (ret_b HQ3.out.symm) (HX0.out.trans HX2.out)
    | true =>
      have HQ3 := hide (show fitB 6 vars args b rows = (inR b 0 4 && ((rows.length : Int) == 0)) by rw [HQ4.out, hq]; rfl)
      clear hq
      go_wp2_with fail
      refine (inRange_any _ _ _ _).mono ?_
      rintro e w' ⟨rfl, rfl⟩
      cases hq : inR b 0 4 with
      | false =>
        have HQ2 := hide (show fitB 6 vars args b rows = false by rw [HQ3.out, hq]; rfl)
        clear hq
        go_wp2_with fail
        go_ret
        exact Ret.mk (ret_b HQ2.out.symm) (HX0.out.trans HX2.out)
      | true =>
        have HQ2 := hide (show fitB 6 vars args b rows = ((rows.length : Int) == 0) by rw [HQ3.out, hq]; rfl)
        clear hq
        go_wp2_with fail
        go_ret
        exact Ret.mk (ret_b HQ2.out.symm) (HX0.out.trans HX2.out)
set_option maxRecDepth 100000 in
set_option maxHeartbeats 8000000 in
theorem vcs_7 (vv va vr : Value) (vars args : List Int) (b : Int) (rows : List (List Int)) (n : Int) (w : World) (hV : SInts w vv vars) (hA : SInts w va args) (hR : SRows w vr rows) (hn0 : 0 ≤ n) (hn1 : n ≤ 1000000000000000) (h1 : inR vars.length 1 n = true) (h2 : allR vars 0 (n - 1) = true) (h3 : dst vars = true) :
    Calls Tryz.prog 52 #[.agg #[.int .i64 7, vv, va, .int .i64 b, vr], .int .i64 n] w (Ret (.bool (fitB 7 vars args b rows)) w) := by
  obtain ⟨Av, cv, rfl, -, hlv⟩ := hV.form
  obtain ⟨Aa, ca, rfl, -, hla⟩ := hA.form
  obtain ⟨Ar, cr, rfl, -, hlr⟩ := hR.form
  obtain ⟨w0, hw0⟩ : ∃ w0, w0 = w.alloc (.cells #[.int .i64 7, .slice Av vars.length cv, .slice Aa args.length ca, .int .i64 b, .slice Ar rows.length cr] 67) := ⟨_, rfl⟩
  have hx0 : Ext w w0 := by rw [hw0]; exact (Ext.refl w).alloc _
  have k0 : w0.cell? ⟨w.heap.size, 0, none⟩ = some (.int .i64 7) := by rw [hw0]; go_simp
  have k1 : w0.cell? ⟨w.heap.size, 1, none⟩ = some (.slice Av vars.length cv) := by rw [hw0]; go_simp
  have k2 : w0.cell? ⟨w.heap.size, 2, none⟩ = some (.slice Aa args.length ca) := by rw [hw0]; go_simp
  have k3 : w0.cell? ⟨w.heap.size, 3, none⟩ = some (.int .i64 b) := by rw [hw0]; go_simp
  have k4 : w0.cell? ⟨w.heap.size, 4, none⟩ = some (.slice Ar rows.length cr) := by rw [hw0]; go_simp
  have ks : w.heap.size < w0.heap.size := by rw [hw0]; simp
  have HX0 := hide hx0
  have hV0 := hide (hV.ext hx0)
  have hA0 := hide (hA.ext hx0)
  have hR0 := hide (hR.ext hx0)
  clear hx0 hV hA hR
  have H1 := hide h1
  have H2 := hide h2
  have H3 := hide h3
  have HF := hide (show fitB 7 vars args b rows = (((args.length : Int) == 2 * vars.length) && (allR args 0 9 && (inR b 0 9 && ((rows.length : Int) == 0)))) from by rw [show fitB 7 vars args b rows = (argsB args (2 * vars.length) 0 9 && (inR b 0 9 && ((rows.length : Int) == 0))) from rfl, argsB, Bool.and_assoc])
  clear h1 h2 h3
  go_enter Tryz.func52, Tryz.ntmps52
  go_wp2_with fail
  rw [← hw0]
  clear hw0
  refine (inRange_any _ _ _ _).mono ?_
  rintro e w' ⟨rfl, rfl⟩
  rw [H1.out]
  go_wp2_with fail
  refine (allInRange_any _ vars 0 (n - 1) _ hV0.out).mono ?_
  rintro e w' ⟨rfl, rfl⟩
  rw [H2.out]
  go_wp2_with fail
  refine (distinctS_any _ vars _ hV0.out).mono ?_
  rintro e w2 ⟨rfl, hx2⟩
  rw [H3.out]
  have b0 := (hx2.cells _ _ ks).trans k0
  have b1 := (hx2.cells _ _ ks).trans k1
  have b2 := (hx2.cells _ _ ks).trans k2
  have b3 := (hx2.cells _ _ ks).trans k3
  have b4 := (hx2.cells _ _ ks).trans k4
  have hz := Nat.lt_of_lt_of_le ks hx2.size
  have HX2 := hide hx2
  clear hx2 k0 k1 k2 k3 k4
  cases hq : ((args.length : Int) == 2 * vars.length) with
  | false =>
    have HQ4 := hide (show fitB 7 vars args b rows = false by rw [HF.out, hq]; rfl)
    go_wp2_with fail
    go_ret
    exact Ret.mk (ret_b HQ4.out.symm) (HX0.out.trans HX2.out)
  | true =>
    have HQ4 := hide (show fitB 7 vars args b rows = (allR args 0 9 && (inR b 0 9 && ((rows.length : Int) == 0))) by rw [HF.out, hq]; rfl)
    go_wp2_with fail
    refine (allInRange_any _ args 0 9 _ (hA0.out.ext HX2.out)).mono ?_
    rintro e w' ⟨rfl, rfl⟩
    cases hq : allR args 0 9 with
    | false =>
      have HQ3 := hide (show fitB 7 vars args b rows = false by rw [HQ4.out, hq]; rfl)
      clear hq
      go_wp2_with fail
      go_ret
      exact Ret.mk (ret_b HQ3.out.symm) (HX0.out.trans HX2.out)
    | true =>
      have HQ3 := hide (show fitB 7 vars args b rows = (inR b 0 9 && ((rows.length : Int) == 0)) by rw [HQ4.out, hq]; rfl)
      clear hq
      go_wp2_with fail
      refine (inRange_any _ _ _ _).mono ?_
      rintro e w' ⟨rfl, rfl⟩
      cases hq : inR b 0 9 with
      | false =>
        have HQ2 := hide (show fitB 7 vars args b rows = false by rw [HQ3.out, hq]; rfl)
        clear hq
        go_wp2_with fail
        go_ret
        exact Ret.mk (ret_b HQ2.out.symm) (HX0.out.trans HX2.out)
      | true =>
        have HQ2 := hide (show fitB 7 vars args b rows = ((rows.length : Int) == 0) by rw [HQ3.out, hq]; rfl)
        clear hq
        go_wp2_with fail
        go_ret
        exact Ret.mk (ret_b HQ2.out.symm) (HX0.out.trans HX2.out)
set_option maxRecDepth 100000 in
set_option maxHeartbeats 8000000 in
theorem vcs_8 (vv va vr : Value) (vars args : List Int) (b : Int) (rows : List (List Int)) (n : Int) (w : World) (hV : SInts w vv vars) (hA : SInts w va args) (hR : SRows w vr rows) (hn0 : 0 ≤ n) (hn1 : n ≤ 1000000000000000) (h1 : inR vars.length 1 n = true) (h2 : allR vars 0 (n - 1) = true) (h3 : dst vars = true) :
    Calls Tryz.prog 52 #[.agg #[.int .i64 8, vv, va, .int .i64 b, vr], .int .i64 n] w (Ret (.bool (fitB 8 vars args b rows)) w) := by
  obtain ⟨Av, cv, rfl, -, hlv⟩ := hV.form
  obtain ⟨Aa, ca, rfl, -, hla⟩ := hA.form
  obtain ⟨Ar, cr, rfl, -, hlr⟩ := hR.form
  obtain ⟨w0, hw0⟩ : ∃ w0, w0 = w.alloc (.cells #[.int .i64 8, .slice Av vars.length cv, .slice Aa args.length ca, .int .i64 b, .slice Ar rows.length cr] 67) := ⟨_, rfl⟩
  have hx0 : Ext w w0 := by rw [hw0]; exact (Ext.refl w).alloc _
  have k0 : w0.cell? ⟨w.heap.size, 0, none⟩ = some (.int .i64 8) := by rw [hw0]; go_simp
  have k1 : w0.cell? ⟨w.heap.size, 1, none⟩ = some (.slice Av vars.length cv) := by rw [hw0]; go_simp
  have k2 : w0.cell? ⟨w.heap.size, 2, none⟩ = some (.slice Aa args.length ca) := by rw [hw0]; go_simp
  have k3 : w0.cell? ⟨w.heap.size, 3, none⟩ = some (.int .i64 b) := by rw [hw0]; go_simp
  have k4 : w0.cell? ⟨w.heap.size, 4, none⟩ = some (.slice Ar rows.length cr) := by rw [hw0]; go_simp
  have ks : w.heap.size < w0.heap.size := by rw [hw0]; simp
  have HX0 := hide hx0
  have hV0 := hide (hV.ext hx0)
  have hA0 := hide (hA.ext hx0)
  have hR0 := hide (hR.ext hx0)
  clear hx0 hV hA hR
  have H1 := hide h1
  have H2 := hide h2
  have H3 := hide h3
  have HF := hide (show fitB 8 vars args b rows = (vRows rows 6 (-1) (rows.length - 1) && (allR args 0 (rows.length - 1) && (dst args && (b == 0)))) from by rw [show fitB 8 vars args b rows = (vRows rows 6 (-1) (rows.length - 1) && (dst args && (allR args 0 (rows.length - 1) && (b == 0)))) from rfl, Bool.and_left_comm (dst args)])
  clear h1 h2 h3
  go_enter Tryz.func52, Tryz.ntmps52
  go_wp2_with fail
  rw [← hw0]
  clear hw0
  refine (inRange_any _ _ _ _).mono ?_
  rintro e w' ⟨rfl, rfl⟩
  rw [H1.out]
  go_wp2_with fail
  refine (allInRange_any _ vars 0 (n - 1) _ hV0.out).mono ?_
  rintro e w' ⟨rfl, rfl⟩
  rw [H2.out]
  go_wp2_with fail
  refine (distinctS_any _ vars _ hV0.out).mono ?_
  rintro e w2 ⟨rfl, hx2⟩
  rw [H3.out]
  have b0 := (hx2.cells _ _ ks).trans k0
  have b1 := (hx2.cells _ _ ks).trans k1
  have b2 := (hx2.cells _ _ ks).trans k2
  have b3 := (hx2.cells _ _ ks).trans k3
  have b4 := (hx2.cells _ _ ks).trans k4
  have hz := Nat.lt_of_lt_of_le ks hx2.size
  have HX2 := hide hx2
  clear hx2 k0 k1 k2 k3 k4
  go_wp2_with fail
  refine (validRows_any _ rows 6 (-1) (rows.length - 1) _ (hR0.out.ext HX2.out)).mono ?_
  rintro e w' ⟨rfl, rfl⟩
  cases hq : vRows rows 6 (-1) (rows.length - 1) with
  | false =>
    have HQ4 := hide (show fitB 8 vars args b rows = false by rw [HF.out, hq]; rfl)
    clear hq
    go_wp2_with fail
    go_ret
    exact Ret.mk (ret_b HQ4.out.symm) (HX0.out.trans HX2.out)
  | true =>
    have HQ4 := hide (show fitB 8 vars args b rows = (allR args 0 (rows.length - 1) && (dst args && (b == 0))) by rw [HF.out, hq]; rfl)
    clear hq
    go_wp2_with fail
    refine (allInRange_any _ args 0 (rows.length - 1) _ (hA0.out.ext HX2.out)).mono ?_
    rintro e w' ⟨rfl, rfl⟩
    cases hq : allR args 0 (rows.length - 1) with
    | false =>
      have HQ3 := hide (show fitB 8 vars args b rows = false by rw [HQ4.out, hq]; rfl)
      clear hq
      go_wp2_with fail
      go_ret
      exact Ret.mk (ret_b HQ3.out.symm) (HX0.out.trans HX2.out)
    | true =>
      have HQ3 := hide (show fitB 8 vars args b rows = (dst args && (b == 0)) by rw [HQ4.out, hq]; rfl)
      clear hq
      go_wp2_with fail
      refine (distinctS_any _ args _ (hA0.out.ext HX2.out)).mono ?_
      rintro e w3 ⟨rfl, hx3⟩
      have b2 := (hx3.cells _ _ hz).trans b2
      have b3 := (hx3.cells _ _ hz).trans b3
      have b4 := (hx3.cells _ _ hz).trans b4
      have hz := Nat.lt_of_lt_of_le hz hx3.size
      have HX3 := hide (HX2.out.trans hx3)
      clear hx3
      cases hq : dst args with
      | false =>
        have HQ2 := hide (show fitB 8 vars args b rows = false by rw [HQ3.out, hq]; rfl)
        clear hq
        go_wp2_with fail
        go_ret
        exact Ret.mk (ret_b HQ2.out.symm) (HX0.out.trans HX3.out)
      | true =>
        have HQ2 := hide (show fitB 8 vars args b rows = (b == 0) by rw [HQ3.out, hq]; rfl)
        clear hq
        go_wp2_with fail
        go_ret
        exact Ret.mk (ret_b HQ2.out.symm) (HX0.out.trans HX3.out)
set_option maxRecDepth 100000 in
set_option maxHeartbeats 8000000 in
theorem vcs_0 (kk : Int) (vv va vr : Value) (vars args : List Int) (b : Int) (rows : List (List Int)) (n : Int) (w : World) (hV : SInts w vv vars) (hA : SInts w va args) (hR : SRows w vr rows) (hn0 : 0 ≤ n) (hn1 : n ≤ 1000000000000000) (h1 : inR vars.length 1 n = true) (h2 : allR vars 0 (n - 1) = true) (h3 : dst vars = true)
    (g1 : (kk == 1) = false) (g2 : (kk == 2) = false) (g3 : (kk == 3) = false) (g4 : (kk == 4) = false) (g5 : (kk == 5) = false) (g6 : (kk == 6) = false) (g7 : (kk == 7) = false) (g8 : (kk == 8) = false) (g9 : (kk == 9) = false) :
    Calls Tryz.prog 52 #[.agg #[.int .i64 kk, vv, va, .int .i64 b, vr], .int .i64 n] w (Ret (.bool false) w) := by
  obtain ⟨Av, cv, rfl, -, hlv⟩ := hV.form
  obtain ⟨Aa, ca, rfl, -, hla⟩ := hA.form
  obtain ⟨Ar, cr, rfl, -, hlr⟩ := hR.form
  obtain ⟨w0, hw0⟩ : ∃ w0, w0 = w.alloc (.cells #[.int .i64 kk, .slice Av vars.length cv, .slice Aa args.length ca, .int .i64 b, .slice Ar rows.length cr] 67) := ⟨_, rfl⟩
  have hx0 : Ext w w0 := by rw [hw0]; exact (Ext.refl w).alloc _
  have k0 : w0.cell? ⟨w.heap.size, 0, none⟩ = some (.int .i64 kk) := by rw [hw0]; go_simp
  have k1 : w0.cell? ⟨w.heap.size, 1, none⟩ = some (.slice Av vars.length cv) := by rw [hw0]; go_simp
  have k2 : w0.cell? ⟨w.heap.size, 2, none⟩ = some (.slice Aa args.length ca) := by rw [hw0]; go_simp
  have k3 : w0.cell? ⟨w.heap.size, 3, none⟩ = some (.int .i64 b) := by rw [hw0]; go_simp
  have k4 : w0.cell? ⟨w.heap.size, 4, none⟩ = some (.slice Ar rows.length cr) := by rw [hw0]; go_simp
  have ks : w.heap.size < w0.heap.size := by rw [hw0]; simp
  have HX0 := hide hx0
  have hV0 := hide (hV.ext hx0)
  have hA0 := hide (hA.ext hx0)
  have hR0 := hide (hR.ext hx0)
  clear hx0 hV hA hR
  have H1 := hide h1
  have H2 := hide h2
  have H3 := hide h3
  clear h1 h2 h3
  go_enter Tryz.func52, Tryz.ntmps52
  go_wp2_with fail
  rw [← hw0]
  clear hw0
  refine (inRange_any _ _ _ _).mono ?_
  rintro e w' ⟨rfl, rfl⟩
  rw [H1.out]
  go_wp2_with fail
  refine (allInRange_any _ vars 0 (n - 1) _ hV0.out).mono ?_
  rintro e w' ⟨rfl, rfl⟩
  rw [H2.out]
  go_wp2_with fail
  refine (distinctS_any _ vars _ hV0.out).mono ?_
  rintro e w2 ⟨rfl, hx2⟩
  rw [H3.out]
  have b0 := (hx2.cells _ _ ks).trans k0
  have hz := Nat.lt_of_lt_of_le ks hx2.size
  have HX2 := hide hx2
  have _hA1 := hA0
  have _hR1 := hR0
  clear hx2 k0 k1 k2 k3 k4 _hA1 _hR1
  go_wp2
  go_ret
  exact Ret.mk rfl (HX0.out.trans HX2.out)
set_option maxRecDepth 100000 in
set_option maxHeartbeats 8000000 in
theorem vcs_n1 (kk : Int) (vv va vr : Value) (vars args : List Int) (b : Int) (rows : List (List Int)) (n : Int) (w : World) (hV : SInts w vv vars) (hA : SInts w va args) (hR : SRows w vr rows) (hn0 : 0 ≤ n) (hn1 : n ≤ 1000000000000000) (h1 : inR vars.length 1 n = false) :
    Calls Tryz.prog 52 #[.agg #[.int .i64 kk, vv, va, .int .i64 b, vr], .int .i64 n] w (Ret (.bool false) w) := by
  obtain ⟨Av, cv, rfl, -, hlv⟩ := hV.form
  obtain ⟨Aa, ca, rfl, -, hla⟩ := hA.form
  obtain ⟨Ar, cr, rfl, -, hlr⟩ := hR.form
  obtain ⟨w0, hw0⟩ : ∃ w0, w0 = w.alloc (.cells #[.int .i64 kk, .slice Av vars.length cv, .slice Aa args.length ca, .int .i64 b, .slice Ar rows.length cr] 67) := ⟨_, rfl⟩
  have hx0 : Ext w w0 := by rw [hw0]; exact (Ext.refl w).alloc _
  have k0 : w0.cell? ⟨w.heap.size, 0, none⟩ = some (.int .i64 kk) := by rw [hw0]; go_simp
  have k1 : w0.cell? ⟨w.heap.size, 1, none⟩ = some (.slice Av vars.length cv) := by rw [hw0]; go_simp
  have k2 : w0.cell? ⟨w.heap.size, 2, none⟩ = some (.slice Aa args.length ca) := by rw [hw0]; go_simp
  have k3 : w0.cell? ⟨w.heap.size, 3, none⟩ = some (.int .i64 b) := by rw [hw0]; go_simp
  have k4 : w0.cell? ⟨w.heap.size, 4, none⟩ = some (.slice Ar rows.length cr) := by rw [hw0]; go_simp
  have ks : w.heap.size < w0.heap.size := by rw [hw0]; simp
  have HX0 := hide hx0
  have hV0 := hide (hV.ext hx0)
  have hA0 := hide (hA.ext hx0)
  have hR0 := hide (hR.ext hx0)
  clear hx0 hV hA hR
  have H1 := hide h1
  clear h1 k0 k2 k3 k4
  have _hA1 := hA0
  have _hR1 := hR0
  have _hnn := And.intro hn0 hn1
  clear _hA1 _hR1 _hnn
  go_enter Tryz.func52, Tryz.ntmps52
  go_wp2_with fail
  rw [← hw0]
  clear hw0
  refine (inRange_any _ _ _ _).mono ?_
  rintro e w' ⟨rfl, rfl⟩
  rw [H1.out]
  go_wp2
  go_ret
  exact Ret.mk rfl HX0.out
set_option maxRecDepth 100000 in
set_option maxHeartbeats 8000000 in
theorem vcs_n2 (kk : Int) (vv va vr : Value) (vars args : List Int) (b : Int) (rows : List (List Int)) (n : Int) (w : World) (hV : SInts w vv vars) (hA : SInts w va args) (hR : SRows w vr rows) (hn0 : 0 ≤ n) (hn1 : n ≤ 1000000000000000) (h1 : inR vars.length 1 n = true) (h2 : allR vars 0 (n - 1) = false) :
    Calls Tryz.prog 52 #[.agg #[.int .i64 kk, vv, va, .int .i64 b, vr], .int .i64 n] w (Ret (.bool false) w) := by
  obtain ⟨Av, cv, rfl, -, hlv⟩ := hV.form
  obtain ⟨Aa, ca, rfl, -, hla⟩ := hA.form
  obtain ⟨Ar, cr, rfl, -, hlr⟩ := hR.form
  obtain ⟨w0, hw0⟩ : ∃ w0, w0 = w.alloc (.cells #[.int .i64 kk, .slice Av vars.length cv, .slice Aa args.length ca, .int .i64 b, .slice Ar rows.length cr] 67) := ⟨_, rfl⟩
  have hx0 : Ext w w0 := by rw [hw0]; exact (Ext.refl w).alloc _
  have k0 : w0.cell? ⟨w.heap.size, 0, none⟩ = some (.int .i64 kk) := by rw [hw0]; go_simp
  have k1 : w0.cell? ⟨w.heap.size, 1, none⟩ = some (.slice Av vars.length cv) := by rw [hw0]; go_simp
  have k2 : w0.cell? ⟨w.heap.size, 2, none⟩ = some (.slice Aa args.length ca) := by rw [hw0]; go_simp
  have k3 : w0.cell? ⟨w.heap.size, 3, none⟩ = some (.int .i64 b) := by rw [hw0]; go_simp
  have k4 : w0.cell? ⟨w.heap.size, 4, none⟩ = some (.slice Ar rows.length cr) := by rw [hw0]; go_simp
  have ks : w.heap.size < w0.heap.size := by rw [hw0]; simp
  have HX0 := hide hx0
  have hV0 := hide (hV.ext hx0)
  have hA0 := hide (hA.ext hx0)
  have hR0 := hide (hR.ext hx0)
  clear hx0 hV hA hR
  have H1 := hide h1
  have H2 := hide h2
  clear h1 h2 k0 k2 k3 k4
  have _hA1 := hA0
  have _hR1 := hR0
  have _hnn := And.intro hn0 hn1
  clear _hA1 _hR1 _hnn
  go_enter Tryz.func52, Tryz.ntmps52
  go_wp2_with fail
  rw [← hw0]
  clear hw0
  refine (inRange_any _ _ _ _).mono ?_
  rintro e w' ⟨rfl, rfl⟩
  rw [H1.out]
  go_wp2_with fail
  refine (allInRange_any _ vars 0 (n - 1) _ hV0.out).mono ?_
  rintro e w' ⟨rfl, rfl⟩
  rw [H2.out]
  go_wp2
  go_ret
  exact Ret.mk rfl HX0.out
set_option maxRecDepth 100000 in
set_option maxHeartbeats 8000000 in
theorem vcs_n3 (kk : Int) (vv va vr : Value) (vars args : List Int) (b : Int) (rows : List (List Int)) (n : Int) (w : World) (hV : SInts w vv vars) (hA : SInts w va args) (hR : SRows w vr rows) (hn0 : 0 ≤ n) (hn1 : n ≤ 1000000000000000) (h1 : inR vars.length 1 n = true) (h2 : allR vars 0 (n - 1) = true) (h3 : dst vars = false) :
    Calls Tryz.prog 52 #[.agg #[.int .i64 kk, vv, va, .int .i64 b, vr], .int .i64 n] w (Ret (.bool false) w) := by
  obtain ⟨Av, cv, rfl, -, hlv⟩ := hV.form
  obtain ⟨Aa, ca, rfl, -, hla⟩ := hA.form
  obtain ⟨Ar, cr, rfl, -, hlr⟩ := hR.form
  obtain ⟨w0, hw0⟩ : ∃ w0, w0 = w.alloc (.cells #[.int .i64 kk, .slice Av vars.length cv, .slice Aa args.length ca, .int .i64 b, .slice Ar rows.length cr] 67) := ⟨_, rfl⟩
  have hx0 : Ext w w0 := by rw [hw0]; exact (Ext.refl w).alloc _
  have k0 : w0.cell? ⟨w.heap.size, 0, none⟩ = some (.int .i64 kk) := by rw [hw0]; go_simp
  have k1 : w0.cell? ⟨w.heap.size, 1, none⟩ = some (.slice Av vars.length cv) := by rw [hw0]; go_simp
  have k2 : w0.cell? ⟨w.heap.size, 2, none⟩ = some (.slice Aa args.length ca) := by rw [hw0]; go_simp
  have k3 : w0.cell? ⟨w.heap.size, 3, none⟩ = some (.int .i64 b) := by rw [hw0]; go_simp
  have k4 : w0.cell? ⟨w.heap.size, 4, none⟩ = some (.slice Ar rows.length cr) := by rw [hw0]; go_simp
  have ks : w.heap.size < w0.heap.size := by rw [hw0]; simp
  have HX0 := hide hx0
  have hV0 := hide (hV.ext hx0)
  have hA0 := hide (hA.ext hx0)
  have hR0 := hide (hR.ext hx0)
  clear hx0 hV hA hR
  have H1 := hide h1
  have H2 := hide h2
  have H3 := hide h3
  clear h1 h2 h3 k0 k2 k3 k4
  have _hA1 := hA0
  have _hR1 := hR0
  have _hnn := And.intro hn0 hn1
  clear _hA1 _hR1 _hnn
  go_enter Tryz.func52, Tryz.ntmps52
  go_wp2_with fail
  rw [← hw0]
  clear hw0
  refine (inRange_any _ _ _ _).mono ?_
  rintro e w' ⟨rfl, rfl⟩
  rw [H1.out]
  go_wp2_with fail
  refine (allInRange_any _ vars 0 (n - 1) _ hV0.out).mono ?_
  rintro e w' ⟨rfl, rfl⟩
  rw [H2.out]
  go_wp2_with fail
  refine (distinctS_any _ vars _ hV0.out).mono ?_
  rintro e w2 ⟨rfl, hx2⟩
  rw [H3.out]
  have HX2 := hide (HX0.out.trans hx2)
  clear hx2
  go_wp2
  go_ret
  exact Ret.mk rfl HX2.out
theorem validConstraintS_any (c : Con) (vv va vr : Value) (n : Int) (w : World) (hV : SInts w vv c.vars) (hA : SInts w va c.args) (hR : SRows w vr c.rows) (hn0 : 0 ≤ n) (hn1 : n ≤ 1000000000000000) :
    Calls Tryz.prog 52 #[.agg #[.int .i64 c.kk, vv, va, .int .i64 c.bound, vr], .int .i64 n] w (Ret (.bool (vCs c n)) w) := by
  obtain ⟨kk, vars, args, b, rows⟩ := c
  simp only at hV hA hR ⊢
  cases h1 : inR vars.length 1 n with
  | false =>
    rw [show vCs ⟨kk, vars, args, b, rows⟩ n = false by simp only [vCs]; rw [h1]; rfl]
    exact vcs_n1 kk _ _ _ vars args b rows n w hV hA hR hn0 hn1 h1
  | true =>
  cases h2 : allR vars 0 (n - 1) with
  | false =>
    rw [show vCs ⟨kk, vars, args, b, rows⟩ n = false by simp only [vCs]; rw [h1, h2]; rfl]
    exact vcs_n2 kk _ _ _ vars args b rows n w hV hA hR hn0 hn1 h1 h2
  | true =>
  cases h3 : dst vars with
  | false =>
    rw [show vCs ⟨kk, vars, args, b, rows⟩ n = false by simp only [vCs]; rw [h1, h2, h3]; rfl]
    exact vcs_n3 kk _ _ _ vars args b rows n w hV hA hR hn0 hn1 h1 h2 h3
  | true =>
  rw [show vCs ⟨kk, vars, args, b, rows⟩ n = fitB kk vars args b rows by simp only [vCs]; rw [h1, h2, h3]; rfl]
  by_cases e1 : kk = 1
  · subst e1; exact vcs_1 _ _ _ vars args b rows n w hV hA hR hn0 hn1 h1 h2 h3
  by_cases e2 : kk = 2
  · subst e2; exact vcs_2 _ _ _ vars args b rows n w hV hA hR hn0 hn1 h1 h2 h3
  by_cases e3 : kk = 3
  · subst e3; exact vcs_3 _ _ _ vars args b rows n w hV hA hR hn0 hn1 h1 h2 h3
  by_cases e4 : kk = 4
  · subst e4; exact vcs_4 _ _ _ vars args b rows n w hV hA hR hn0 hn1 h1 h2 h3
  by_cases e5 : kk = 5
  · subst e5; exact vcs_5 _ _ _ vars args b rows n w hV hA hR hn0 hn1 h1 h2 h3
  by_cases e6 : kk = 6
  · subst e6; exact vcs_6 _ _ _ vars args b rows n w hV hA hR hn0 hn1 h1 h2 h3
  by_cases e7 : kk = 7
  · subst e7; exact vcs_7 _ _ _ vars args b rows n w hV hA hR hn0 hn1 h1 h2 h3
  by_cases e8 : kk = 8
  · subst e8; exact vcs_8 _ _ _ vars args b rows n w hV hA hR hn0 hn1 h1 h2 h3
  by_cases e9 : kk = 9
  · subst e9; exact vcs_9 _ _ _ vars args b rows n w hV hA hR hn0 hn1 h1 h2 h3
  rw [fitB_other vars args b rows e1 e2 e3 e4 e5 e6 e7 e8 e9]
  exact vcs_0 kk _ _ _ vars args b rows n w hV hA hR hn0 hn1 h1 h2 h3 (by simpa using e1) (by simpa using e2) (by simpa using e3) (by simpa using e4) (by simpa using e5) (by simpa using e6) (by simpa using e7) (by simpa using e8) (by simpa using e9)
end Go.Proofs.YtgpbmggfpbebmaaGreat
/- validModel of the reference. -/
namespace Go.Proofs.YtgpbmggfpbebmaaGreat
open Go.RowKit

theorem vMod_eq (ds : List Int) (cs : List Con) (h : allR ds 0 63 = true) (h2 : anyB (fun i => !vCs (con0 cs i) ds.length) cs.length = false) : vMod ds cs = (inR ds.length 1 4 && decide (cs.length ≤ 6)) := by
  unfold vMod
  rw [h]
  cases hn : inR (ds.length : Int) 1 4 with
  | false => rfl
  | true =>
    rw [show anyB (fun i => !vCon (con0 cs i) ds.length) cs.length = false from anyB_false.2 fun i hi => by
      have := anyB_false.1 h2 i hi
      rw [vCon_vCs, hn, Bool.true_and]; exact this]
    simp
theorem vMod_no1 {ds : List Int} {cs : List Con} (h : allR ds 0 63 = false) : vMod ds cs = false := by
  unfold vMod; rw [h]; simp
theorem vMod_no2 {ds : List Int} {cs : List Con} {k : Nat} (hk : k < cs.length) (h : vCs (con0 cs k) ds.length = false) : vMod ds cs = false := by
  unfold vMod
  rw [anyB_iff.2 ⟨k, hk, by rw [vCon_vCs, h, Bool.and_false]; rfl⟩]
  simp
set_option maxHeartbeats 1000000 in
theorem validDomS_any (d : Int) (w : World) :
    Calls Tryz.prog 51 #[.int .i64 d] w fun e w' => e = .returned (.bool (inR d 0 63)) ∧ w = w' := by
  go_enter Tryz.func51, Tryz.ntmps51
  go_wp2_with fail
  refine (inRange_any _ _ _ _).mono ?_
  rintro e w' ⟨rfl, rfl⟩
  go_wp2
  go_ret
  exact ⟨rfl, rfl⟩
set_option maxRecDepth 100000 in
set_option maxHeartbeats 4000000 in
theorem validModelS_any (v : Value) (ds : List Int) (cs : List Con) (w : World) (hM : SMod w v ds cs) :
    Calls Tryz.prog 20 #[v] w (Ret (.bool (vMod ds cs)) w) := by
  obtain ⟨ve, vc, rfl, hE, hC⟩ := hM
  obtain ⟨Ae, ce, rfl, -, hle⟩ := hE.form
  obtain ⟨Ac, cc, rfl, -, hlc⟩ := hC.form
  obtain ⟨w0, hw0⟩ : ∃ w0, w0 = w.alloc (.cells #[.slice Ae ds.length ce, .slice Ac cs.length cc] 26) := ⟨_, rfl⟩
  have hx0 : Ext w w0 := by rw [hw0]; exact (Ext.refl w).alloc _
  have k0 : w0.cell? ⟨w.heap.size, 0, none⟩ = some (.slice Ae ds.length ce) := by rw [hw0]; go_simp
  have k1 : w0.cell? ⟨w.heap.size, 1, none⟩ = some (.slice Ac cs.length cc) := by rw [hw0]; go_simp
  have ks : w.heap.size < w0.heap.size := by rw [hw0]; simp
  have HX0 := hide hx0
  have K0 := hide k0
  have K1 := hide k1
  have hE0 := hide (hE.ext hx0)
  have hC0 := hide (hC.ext hx0)
  clear hE hC hx0
  go_enter Tryz.func20, Tryz.ntmps20
  go_wp2
  rw [← hw0]
  clear hw0
  go_loop [3] (fun i => ∃ k : Nat, i = .int .i64 k ∧ k ≤ ds.length ∧ ∀ j, j < k → inR (at0 ds j) 0 63 = true) (fun i => ds.length - (intOf i).toNat)
  case atStart => exact ⟨0, rfl, Nat.zero_le _, fun j hj => by omega⟩
  case round =>
    obtain ⟨k, rfl, hk, hall⟩ := hrel
    have HALL := hide hall
    clear hall
    by_cases hlt : k < ds.length
    · have hkI : (k : Int) < ds.length := by omega
      obtain ⟨b, off, rfl, hbl, f1⟩ := hE0.out.at_ hlt
      cases hq : inR (at0 ds k) 0 63 with
      | true =>
        have HQ := hide hq
        clear hq
        go_wp2_with (go_at_call 51; refine (validDomS_any _ _).mono ?_; rintro e w' ⟨rfl, rfl⟩; rw [HQ.out])
        go_round
        case rel => exact ⟨k + 1, by go_num, by omega, fun j hj => by
          by_cases e : j = k
          · subst e; exact HQ.out
          · exact HALL.out j (by omega)⟩
        case measure => simp [intOf]; omega
      | false =>
        have HQ := hide hq
        have HV := hide (vMod_no1 (cs := cs) (allR_no hlt hq))
        clear hq
        go_wp2_with (go_at_call 51; refine (validDomS_any _ _).mono ?_; rintro e w' ⟨rfl, rfl⟩; rw [HQ.out])
        go_ret
        exact Ret.mk (ret_b HV.out.symm) HX0.out
    · obtain rfl : k = ds.length := by omega
      have hkI : ¬ ((ds.length : Int) < ds.length) := by omega
      have HA := hide (allR_of HALL.out)
      go_wp2
      go_loopw [4] (fun i wr => ∃ k : Nat, i = .int .i64 k ∧ k ≤ cs.length ∧ Ext w0 wr ∧ ∀ j, j < k → (!vCs (con0 cs j) ds.length) = false) (fun i _ => cs.length - (intOf i).toNat)
      case atStart => exact ⟨0, rfl, Nat.zero_le _, Ext.refl _, fun j hj => by omega⟩
      case round =>
        obtain ⟨k, rfl, hk, hx, hno⟩ := hrel
        have HX := hide hx
        have HNO := hide hno
        have k0 := (hx.cells _ _ ks).trans K0.out
        have k1 := (hx.cells _ _ ks).trans K1.out
        have ksr := Nat.lt_of_lt_of_le ks hx.size
        clear hno
        by_cases hlt : k < cs.length
        · have hkI : (k : Int) < cs.length := by omega
          obtain ⟨b, off, rfl, hbl, vv, va, vr, f1, f2, f3, f4, f5, s1, s2, s3⟩ := (hC0.out.ext hx).at_ hlt
          obtain ⟨Av, cv, rfl, -, -⟩ := s1.form
          obtain ⟨Aa, ca, rfl, -, -⟩ := s2.form
          obtain ⟨Ar, cr, rfl, -, -⟩ := s3.form
          have S1 := hide s1
          have S2 := hide s2
          have S3 := hide s3
          clear s1 s2 s3 hx
          cases hq : vCs (con0 cs k) ds.length with
          | true =>
            have HQ := hide hq
            clear hq
            go_wp2
            refine wp_region_ext (by kernel_rfl) (by kernel_rfl) ?_
            iterate 8 (apply quiet_val; (focus rfl); (focus (intro w' hw'; have hk' := hw'.cells; go_simp; all_goals exact rfl)); simp only [Act.put, List.setIfInBounds_toArray, List.set_cons_succ, List.set_cons_zero])
            apply quiet_call; (focus rfl); (focus (intro w' hw'; go_simp; all_goals (first | exact rfl | (apply And.intro <;> exact rfl))))
            · exact fun w' hw' => Ret.quiet (validConstraintS_any (con0 cs k) _ _ _ ds.length _ (S1.out.ext hw') (S2.out.ext hw') (S3.out.ext hw') (by omega) (by omega)) hw'
            (simp only [Act.put, List.setIfInBounds_toArray, List.set_cons_succ, List.set_cons_zero])
            (apply quiet_val; (focus rfl); (focus (intro w' hw'; have hk' := hw'.cells; go_simp; all_goals exact rfl)); simp only [Act.put, List.setIfInBounds_toArray, List.set_cons_succ, List.set_cons_zero])
            refine wpQuiet_nil ?_
            intro w2 hx2
            have HX2 := hide (HX.out.trans hx2)
            clear hx2
            rw [HQ.out]
            go_wp2
            go_roundw
            case rel => exact ⟨k + 1, by go_num, by omega, HX2.out, upto_succ HNO.out (by rw [HQ.out]; rfl)⟩
            case measure => simp [intOf]; omega
          | false =>
            have HQ := hide hq
            have HV := hide (vMod_no2 hlt hq)
            clear hq
            go_wp2
            refine wp_region_ext (by kernel_rfl) (by kernel_rfl) ?_
            iterate 8 (apply quiet_val; (focus rfl); (focus (intro w' hw'; have hk' := hw'.cells; go_simp; all_goals exact rfl)); simp only [Act.put, List.setIfInBounds_toArray, List.set_cons_succ, List.set_cons_zero])
            apply quiet_call; (focus rfl); (focus (intro w' hw'; go_simp; all_goals (first | exact rfl | (apply And.intro <;> exact rfl))))
            · exact fun w' hw' => Ret.quiet (validConstraintS_any (con0 cs k) _ _ _ ds.length _ (S1.out.ext hw') (S2.out.ext hw') (S3.out.ext hw') (by omega) (by omega)) hw'
            (simp only [Act.put, List.setIfInBounds_toArray, List.set_cons_succ, List.set_cons_zero])
            (apply quiet_val; (focus rfl); (focus (intro w' hw'; have hk' := hw'.cells; go_simp; all_goals exact rfl)); simp only [Act.put, List.setIfInBounds_toArray, List.set_cons_succ, List.set_cons_zero])
            refine wpQuiet_nil ?_
            intro w2 hx2
            have HX2 := hide ((HX0.out.trans HX.out).trans hx2)
            clear hx2
            rw [HQ.out]
            go_wp2
            go_ret
            exact Ret.mk (ret_b HV.out.symm) HX2.out
        · obtain rfl : k = cs.length := by omega
          have hkI : ¬ ((cs.length : Int) < cs.length) := by omega
          have HV := hide (vMod_eq ds cs HA.out (anyB_false.2 HNO.out))
          cases hq : inR (ds.length : Int) 1 4 with
          | false =>
            have HV2 := hide (show vMod ds cs = false by rw [HV.out, hq]; rfl)
            have HQ := hide hq
            clear hq
            go_wp2_with (go_at_call 53; refine (inRange_any _ _ _ _).mono ?_; rintro e w' ⟨rfl, rfl⟩; rw [HQ.out])
            go_ret
            exact Ret.mk (ret_b HV2.out.symm) (HX0.out.trans HX.out)
          | true =>
            have HQ := hide hq
            cases hq2 : decide ((cs.length : Int) ≤ 6) with
            | true =>
              have HV2 := hide (show vMod ds cs = true by rw [HV.out, hq, decide_eq_true (show cs.length ≤ 6 by have := of_decide_eq_true hq2; omega)]; rfl)
              have hq3 : (cs.length : Int) ≤ 6 := of_decide_eq_true hq2
              clear hq
              go_wp2_with (go_at_call 53; refine (inRange_any _ _ _ _).mono ?_; rintro e w' ⟨rfl, rfl⟩; rw [HQ.out])
              go_ret
              exact Ret.mk (ret_b HV2.out.symm) (HX0.out.trans HX.out)
            | false =>
              have HV2 := hide (show vMod ds cs = false by rw [HV.out, hq, decide_eq_false (show ¬ cs.length ≤ 6 by have := of_decide_eq_false hq2; omega)]; rfl)
              have hq3 : ¬ (cs.length : Int) ≤ 6 := of_decide_eq_false hq2
              clear hq
              go_wp2_with (go_at_call 53; refine (inRange_any _ _ _ _).mono ?_; rintro e w' ⟨rfl, rfl⟩; rw [HQ.out])
              go_ret
              exact Ret.mk (ret_b HV2.out.symm) (HX0.out.trans HX.out)
end Go.Proofs.YtgpbmggfpbebmaaGreat
/- Probing: the program's, and the reference's. -/
namespace Go.Proofs.YtgpbmggfpbebmaaGreat
open Go.RowKit
attribute [local go_sem] evalOf

theorem probD_len (ds : List Int) (v a : Nat) : (probD ds v a).length = ds.length := by simp [probD]
theorem OwnRes.len {xs : List Int} {w w' : World} {A : Option Addr} {n c : Nat} (h : OwnRes xs w (.returned (.slice A n c)) w') : n = xs.length := by
  obtain ⟨A2, c2, h⟩ := h.form
  injection h
set_option maxRecDepth 100000 in
set_option maxHeartbeats 4000000 in
theorem limitedI_any (vd : Value) (ds : List Int) (i a : Nat) (w : World) (hD : SInts w vd ds) (hd : DomL ds) (hi : i < ds.length) (ha : a < 6) :
    Calls Tryz.prog 79 #[vd, .int .i64 i, .int .i64 (2 ^ a)] w (OwnRes (probD ds i a) w) := by
  have HDM := hide hd
  obtain ⟨Ad, cd, rfl, -, hld⟩ := hD.form
  have hD0 := hide hD
  have hiI : (i : Int) < ds.length := by omega
  clear hD hd
  go_enter Tryz.func79, Tryz.ntmps79
  go_wp2_with fail
  refine (copied_any _ ds _ hD0.out).mono ?_
  rintro e w1 ⟨A1, c1, b1, m1, f1, rfl, hc1, hd1, hb1, ho1, hx1⟩
  obtain ⟨rfl, hr1, hm1, hf1⟩ := ho1 (by omega)
  have HR := hide hr1
  have HX1 := hide hx1
  have hdb := HDM.out i hi
  have fc := hr1.cell (i := i) (by omega)
  rw [hf1 i hi] at fc
  have fz := hr1.frozen i
  obtain ⟨d, hd⟩ : ∃ d, d = at0 ds i := ⟨_, rfl⟩
  rw [← hd] at fc hdb
  have kb := bits_and hdb.1 hdb.2 ha
  have HF1 := hide hf1
  have HDE := hide hd
  clear hx1 ho1 hr1 hf1 hd
  have hlen : (probD ds i a).length = ds.length := probD_len ds i a
  have HE := hide (show OwnRes (probD ds i a) w (.returned (.slice (some ⟨b1, 0, none⟩) ds.length c1)) (w1.setCell ⟨b1, i, none⟩ (.int .i64 (andV d a))) from
    ⟨some ⟨b1, 0, none⟩, c1, b1, m1, _, by rw [hlen], by rw [hlen]; exact hc1, by rw [hlen]; exact hd1, hb1, fun _ => ⟨rfl, HR.out.set i _, by rw [hlen]; exact hm1, fun j hj => by
      rw [hlen] at hj
      show (if j = i then _ else f1 j) = _
      rw [probD, at0_set _ _ _ _ hi]
      by_cases e : j = i
      · subst e; rw [if_pos rfl, if_pos rfl, ← HDE.out]
      · rw [if_neg e, if_neg (fun h => e h.symm)]; exact HF1.out j hj⟩, HX1.out.set (p := ⟨b1, i, none⟩) hb1 _⟩)
  go_wp2
  go_ret
  exact HE.out
/-- A slice of its own that reads as xs. -/
def RS.ow (D : List Nat) (xs : List Int) (B : World) : RS := ⟨D, fun _ v W => OwnRes xs B (.returned v) W, fun _ _ _ _ h hx => h.grow hx⟩
end Go.Proofs.YtgpbmggfpbebmaaGreat
/- Probe: the program's, and the reference's. -/
namespace Go.Proofs.YtgpbmggfpbebmaaGreat
open Go.RowKit

def prbOk (ds : List Int) (cs : List Con) (i a : Int) : Bool := vMod ds cs && (inR i 0 (ds.length - 1) && inR a 0 5)
def prbV (ds : List Int) (cs : List Con) (i a : Int) : List Int := if prbOk ds cs i a = true then probL cs ds i.toNat a.toNat else []
theorem prbOk_of {ds : List Int} {cs : List Con} {i a : Int} (h : prbOk ds cs i a = true) : ∃ n m : Nat, i = n ∧ a = m ∧ n < ds.length ∧ m < 6 ∧ GoodD cs ds.length ds ∧ ds.length ≤ 4 ∧ prbV ds cs i a = probL cs ds n m := by
  have h0 := h
  simp only [prbOk, Bool.and_eq_true, inR, decide_eq_true_eq] at h
  obtain ⟨h1, ⟨h2, h3⟩, h4, h5⟩ := h
  obtain ⟨hG, hp, h6⟩ := vMod_good h1
  refine ⟨i.toNat, a.toNat, by omega, by omega, by omega, by omega, hG, h6, ?_⟩
  rw [prbV, if_pos h0]
theorem prbV_no {ds : List Int} {cs : List Con} {i a : Int} (h : prbOk ds cs i a = false) : prbV ds cs i a = [] := by rw [prbV, h]; rfl
theorem prbV_i64 (ds : List Int) (cs : List Con) (i a : Int) : ∀ j, j < (prbV ds cs i a).length → I64 (at0 (prbV ds cs i a) j) := by
  intro j hj
  cases h : prbOk ds cs i a with
  | false => rw [prbV_no h] at hj; simp at hj
  | true =>
    obtain ⟨n, m, rfl, rfl, hn, hm, hG, h4, e⟩ := prbOk_of h
    rw [e] at hj ⊢
    exact (propL_R (hG.prob hn hm) h4).good.i64 j hj
theorem prbV_len (ds : List Int) (cs : List Con) (i a : Int) : (prbV ds cs i a).length ≤ 4 := by
  cases h : prbOk ds cs i a with
  | false => rw [prbV_no h]; simp
  | true =>
    obtain ⟨n, m, rfl, rfl, hn, hm, hG, h4, e⟩ := prbOk_of h
    rw [e, show (probL cs ds n m).length = ds.length from (propL_R (hG.prob hn hm) h4).good.1]
    exact h4
theorem valueOk_any (a : Int) (w : World) :
    Calls Tryz.prog 33 #[.int .i64 a] w fun e w' => e = .returned (.bool (inR a 0 5)) ∧ w = w' := by
  go_enter Tryz.func33, Tryz.ntmps33
  go_wp2_with fail
  refine (within_any _ _ _ _).mono ?_
  rintro e w' ⟨rfl, rfl⟩
  go_wp2
  go_ret
  exact ⟨rfl, rfl⟩
end Go.Proofs.YtgpbmggfpbebmaaGreat
/- Shaving: the program's walk. -/
namespace Go.Proofs.YtgpbmggfpbebmaaGreat
open Go.RowKit
attribute [local go_sem] evalOf

/-- Block b holds xs at its head. -/
def RowS (W : World) (b m : Nat) (xs : List Int) : Prop := ∃ f, W.rowIs b 3 m f ∧ xs.length ≤ m ∧ ∀ j, j < xs.length → f j = .int .i64 (at0 xs j)
theorem RowS.ext {W W' : World} {b m : Nat} {xs : List Int} (h : RowS W b m xs) (hx : Ext W W') : RowS W' b m xs := by
  obtain ⟨f, h1, h2, h3⟩ := h
  exact ⟨f, hx.row h1, h2, h3⟩
theorem RowS.keep {S : Nat → Prop} {W W' : World} {b m : Nat} {xs : List Int} (h : RowS W b m xs) (hk : Keep S W W') (hb : S b) : RowS W' b m xs := by
  obtain ⟨f, h1, h2, h3⟩ := h
  exact ⟨f, hk.row hb h1, h2, h3⟩
theorem RowS.set {W : World} {b m : Nat} {xs : List Int} (h : RowS W b m xs) (i : Nat) (x : Int) (hi : i < xs.length) : RowS (W.setCell ⟨b, i, none⟩ (.int .i64 x)) b m (xs.set i x) := by
  obtain ⟨f, h1, h2, h3⟩ := h
  refine ⟨_, h1.set i _, by rw [List.length_set]; exact h2, fun j hj => ?_⟩
  rw [List.length_set] at hj
  show (if j = i then _ else f j) = _
  rw [at0_set _ _ _ _ hi]
  by_cases e : j = i
  · subst e; rw [if_pos rfl, if_pos rfl]
  · rw [if_neg e, if_neg (fun h => e h.symm)]; exact h3 j hj
theorem RowS.sints {W : World} {b m c : Nat} {xs : List Int} (h : RowS W b m xs) (hc : xs.length ≤ c) (h8 : xs.length * 8 ≤ 140737488355328) (hb : ∀ i, i < xs.length → I64 (at0 xs i)) : SInts W (.slice (some ⟨b, 0, none⟩) xs.length c) xs := by
  obtain ⟨f, h1, h2, h3⟩ := h
  exact SInts.own (b := b) (m := m) (f := f) hc h8 (fun _ => ⟨rfl, h1, h2, h3⟩) hb
theorem RowS.own {w W : World} {b m c : Nat} {xs : List Int} (h : RowS W b m xs) (hc : xs.length ≤ c) (h8 : xs.length * 8 ≤ 140737488355328) (hb : w.heap.size ≤ b) (hx : Ext w W) : OwnRes xs w (.returned (.slice (some ⟨b, 0, none⟩) xs.length c)) W := by
  obtain ⟨f, h1, h2, h3⟩ := h
  exact ⟨_, c, b, m, f, rfl, hc, h8, hb, fun _ => ⟨rfl, h1, h2, h3⟩, hx⟩
theorem shvI_succ_yes {cs : List Con} {v : Nat} {l ds : List Int} {k a : Nat} (ha : at0 l k = a) (h : hasI (probL cs (shvI cs v l ds k) v a) 0 = true) : shvI cs v l ds (k + 1) = (shvI cs v l ds k).set v (delV (at0 (shvI cs v l ds k) v) a) := by
  rw [shvI, ha, Int.toNat_natCast, if_pos h]
theorem shvI_succ_no {cs : List Con} {v : Nat} {l ds : List Int} {k a : Nat} (ha : at0 l k = a) (h : hasI (probL cs (shvI cs v l ds k) v a) 0 = false) : shvI cs v l ds (k + 1) = shvI cs v l ds k := by
  rw [shvI, ha, Int.toNat_natCast, h, if_neg (by simp)]
theorem probL_R2 {cs : List Con} {n : Nat} {ds : List Int} (h : GoodD cs n ds) (h4 : n ≤ 4) {v a : Nat} (hv : v < n) (ha : a < 6) : PropR cs n (probD ds v a) (probL cs ds v a) := propL_R (h.prob hv ha) h4
theorem probL_first2 {cs : List Con} {n : Nat} {ds : List Int} (h : GoodD cs n ds) (h4 : n ≤ 4) (h0 : 0 < n) {v a : Nat} (hv : v < n) (ha : a < 6) : (at0 (probL cs ds v a) 0 == 0) = hasI (probL cs ds v a) 0 := propL_first (h.prob hv ha) h4 h0
def shvV (ds : List Int) (cs : List Con) : List Int := if vMod ds cs = true then shaveL cs ds else []
theorem shaveL_good {cs : List Con} {n : Nat} {ds : List Int} (h : GoodD cs n ds) (h4 : n ≤ 4) : GoodD cs n (shaveL cs ds) := by
  have hsum : sumL ds < 300 := by have := (sumL_bd ds h.2.1).2; have := h.1; omega
  obtain ⟨i, hg, hc⟩ := fixL_orbit (shvP_ok (cs := cs) h4) 300 ds h hsum
  rcases hc with ⟨-, hy⟩ | ⟨-, -, hy⟩
  · unfold shaveL; rw [hy]; exact h.zer
  · unfold shaveL; rw [hy]; exact hg
theorem shvV_i64 (ds : List Int) (cs : List Con) : ∀ j, j < (shvV ds cs).length → I64 (at0 (shvV ds cs) j) := by
  intro j hj
  unfold shvV at hj ⊢
  split at hj
  · rename_i h
    obtain ⟨hG, hp, h4⟩ := vMod_good h
    rw [if_pos h]
    exact (shaveL_good hG h4).i64 j hj
  · simp at hj
theorem shvV_len (ds : List Int) (cs : List Con) : (shvV ds cs).length ≤ 4 := by
  unfold shvV
  split
  · rename_i h
    obtain ⟨hG, hp, h4⟩ := vMod_good h
    rw [(shaveL_good hG h4).1]
    exact h4
  · simp
end Go.Proofs.YtgpbmggfpbebmaaGreat
