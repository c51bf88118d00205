/- validConstraint of the reference: kind by kind. -/
import Derived.Test.YtalgilgfoekioaaGreatDoorSpZ
import Derived.Test.YtalgilgfoekioaaGreatDoorFitK
import Derived.Test.YtalgilgfoekioaaGreatDoorPrpZ
namespace Go.Proofs.YtalgilgfoekioaaGreatDoor
open Go.RowKit

/-- A constraint is valid for n variables: as the reference has it. -/
def vCs (c : Con) (n : Int) : Bool := inR c.vars.length 1 n && (allR c.vars 0 (n - 1) && (dst c.vars && fitB c.kk c.vars c.args c.bound c.rows))
theorem vCon_vCs (c : Con) (n : Int) : vCon c n = (inR n 1 4 && vCs c n) := rfl
set_option maxRecDepth 100000 in
set_option maxHeartbeats 8000000 in
theorem vcs_1 (vv va vr : Value) (vars args : List Int) (b : Int) (rows : List (List Int)) (n : Int) (w : World) (hV : SInts w vv vars) (hA : SInts w va args) (hR : SRows w vr rows) (hn0 : 0 ≤ n) (hn1 : n ≤ 1000000000000000) (h1 : inR vars.length 1 n = true) (h2 : allR vars 0 (n - 1) = true) (h3 : dst vars = true) :
    Calls Tryz.prog 38 #[.agg #[.int .i64 1, vv, va, .int .i64 b, vr], .int .i64 n] w (Ret (.bool (fitB 1 vars args b rows)) w) := by
  obtain ⟨Av, cv, rfl, -, hlv⟩ := hV.form
  obtain ⟨Aa, ca, rfl, -, hla⟩ := hA.form
  obtain ⟨Ar, cr, rfl, -, hlr⟩ := hR.form
  obtain ⟨w0, hw0⟩ : ∃ w0, w0 = w.alloc (.cells #[.int .i64 1, .slice Av vars.length cv, .slice Aa args.length ca, .int .i64 b, .slice Ar rows.length cr] 60) := ⟨_, rfl⟩
  have hx0 : Ext w w0 := by rw [hw0]; exact (Ext.refl w).alloc _
  have k0 : w0.cell? ⟨w.heap.size, 0, none⟩ = some (.int .i64 1) := by rw [hw0]; go_simp
  have k1 : w0.cell? ⟨w.heap.size, 1, none⟩ = some (.slice Av vars.length cv) := by rw [hw0]; go_simp
  have k2 : w0.cell? ⟨w.heap.size, 2, none⟩ = some (.slice Aa args.length ca) := by rw [hw0]; go_simp
  have k3 : w0.cell? ⟨w.heap.size, 3, none⟩ = some (.int .i64 b) := by rw [hw0]; go_simp
  have k4 : w0.cell? ⟨w.heap.size, 4, none⟩ = some (.slice Ar rows.length cr) := by rw [hw0]; go_simp
  have ks : w.heap.size < w0.heap.size := by rw [hw0]; simp
  have HX0 := hide hx0
  have hV0 := hide (hV.ext hx0)
  have hA0 := hide (hA.ext hx0)
  have hR0 := hide (hR.ext hx0)
  clear hx0 hV hA hR
  have H1 := hide h1
  have H2 := hide h2
  have H3 := hide h3
  have HF := hide (show fitB 1 vars args b rows = (((args.length : Int) == vars.length) && (allR args (-9) 9 && (inR b (-999) 999 && ((rows.length : Int) == 0)))) from by rw [show fitB 1 vars args b rows = (argsB args vars.length (-9) 9 && (inR b (-999) 999 && ((rows.length : Int) == 0))) from rfl, argsB, Bool.and_assoc])
  clear h1 h2 h3
  go_enter Tryz.func38, Tryz.ntmps38
  go_wp2_with fail
  rw [← hw0]
  clear hw0
  refine (inRange_any _ _ _ _).mono ?_
  rintro e w' ⟨rfl, rfl⟩
  rw [H1.out]
  go_wp2_with fail
  refine (allInRange_any _ vars 0 (n - 1) _ hV0.out).mono ?_
  rintro e w' ⟨rfl, rfl⟩
  rw [H2.out]
  go_wp2_with fail
  refine (distinctS_any _ vars _ hV0.out).mono ?_
  rintro e w2 ⟨rfl, hx2⟩
  rw [H3.out]
  have b0 := (hx2.cells _ _ ks).trans k0
  have b1 := (hx2.cells _ _ ks).trans k1
  have b2 := (hx2.cells _ _ ks).trans k2
  have b3 := (hx2.cells _ _ ks).trans k3
  have b4 := (hx2.cells _ _ ks).trans k4
  have hz := Nat.lt_of_lt_of_le ks hx2.size
  have HX2 := hide hx2
  clear hx2 k0 k1 k2 k3 k4
  cases hq : ((args.length : Int) == vars.length) with
  | false =>
    have HQ4 := hide (show fitB 1 vars args b rows = false by rw [HF.out, hq]; rfl)
    go_wp2_with fail
    go_ret
    exact Ret.mk (ret_b HQ4.out.symm) (HX0.out.trans HX2.out)
  | true =>
    have HQ4 := hide (show fitB 1 vars args b rows = (allR args (-9) 9 && (inR b (-999) 999 && ((rows.length : Int) == 0))) by rw [HF.out, hq]; rfl)
    go_wp2_with fail
    refine (allInRange_any _ args (-9) 9 _ (hA0.out.ext HX2.out)).mono ?_
    rintro e w' ⟨rfl, rfl⟩
    cases hq : allR args (-9) 9 with
    | false =>
      have HQ3 := hide (show fitB 1 vars args b rows = false by rw [HQ4.out, hq]; rfl)
      clear hq
      go_wp2_with fail
      go_ret
      exact Ret.mk (ret_b HQ3.out.symm) (HX0.out.trans HX2.out)
    | true =>
      have HQ3 := hide (show fitB 1 vars args b rows = (inR b (-999) 999 && ((rows.length : Int) == 0)) by rw [HQ4.out, hq]; rfl)
      clear hq
      go_wp2_with fail
      refine (inRange_any _ _ _ _).mono ?_
      rintro e w' ⟨rfl, rfl⟩
      cases hq : inR b (-999) 999 with
      | false =>
        have HQ2 := hide (show fitB 1 vars args b rows = false by rw [HQ3.out, hq]; rfl)
        clear hq
        go_wp2_with fail
        go_ret
        exact Ret.mk (ret_b HQ2.out.symm) (HX0.out.trans HX2.out)
      | true =>
        have HQ2 := hide (show fitB 1 vars args b rows = ((rows.length : Int) == 0) by rw [HQ3.out, hq]; rfl)
        clear hq
        go_wp2_with fail
        go_ret
        exact Ret.mk (ret_b HQ2.out.symm) (HX0.out.trans HX2.out)
set_option maxRecDepth 100000 in
set_option maxHeartbeats 8000000 in
theorem vcs_2 (vv va vr : Value) (vars args : List Int) (b : Int) (rows : List (List Int)) (n : Int) (w : World) (hV : SInts w vv vars) (hA : SInts w va args) (hR : SRows w vr rows) (hn0 : 0 ≤ n) (hn1 : n ≤ 1000000000000000) (h1 : inR vars.length 1 n = true) (h2 : allR vars 0 (n - 1) = true) (h3 : dst vars = true) :
    Calls Tryz.prog 38 #[.agg #[.int .i64 2, vv, va, .int .i64 b, vr], .int .i64 n] w (Ret (.bool (fitB 2 vars args b rows)) w) := by
  obtain ⟨Av, cv, rfl, -, hlv⟩ := hV.form
  obtain ⟨Aa, ca, rfl, -, hla⟩ := hA.form
  obtain ⟨Ar, cr, rfl, -, hlr⟩ := hR.form
  obtain ⟨w0, hw0⟩ : ∃ w0, w0 = w.alloc (.cells #[.int .i64 2, .slice Av vars.length cv, .slice Aa args.length ca, .int .i64 b, .slice Ar rows.length cr] 60) := ⟨_, rfl⟩
  have hx0 : Ext w w0 := by rw [hw0]; exact (Ext.refl w).alloc _
  have k0 : w0.cell? ⟨w.heap.size, 0, none⟩ = some (.int .i64 2) := by rw [hw0]; go_simp
  have k1 : w0.cell? ⟨w.heap.size, 1, none⟩ = some (.slice Av vars.length cv) := by rw [hw0]; go_simp
  have k2 : w0.cell? ⟨w.heap.size, 2, none⟩ = some (.slice Aa args.length ca) := by rw [hw0]; go_simp
  have k3 : w0.cell? ⟨w.heap.size, 3, none⟩ = some (.int .i64 b) := by rw [hw0]; go_simp
  have k4 : w0.cell? ⟨w.heap.size, 4, none⟩ = some (.slice Ar rows.length cr) := by rw [hw0]; go_simp
  have ks : w.heap.size < w0.heap.size := by rw [hw0]; simp
  have HX0 := hide hx0
  have hV0 := hide (hV.ext hx0)
  have hA0 := hide (hA.ext hx0)
  have hR0 := hide (hR.ext hx0)
  clear hx0 hV hA hR
  have H1 := hide h1
  have H2 := hide h2
  have H3 := hide h3
  have HF := hide (show fitB 2 vars args b rows = (((vars.length : Int) == 2) && (((args.length : Int) == 1) && (allR args (-9) 9 && ((b == 0) && ((rows.length : Int) == 0))))) from by rw [show fitB 2 vars args b rows = (((vars.length : Int) == 2) && (argsB args 1 (-9) 9 && ((b == 0) && ((rows.length : Int) == 0)))) from rfl, argsB, Bool.and_assoc])
  clear h1 h2 h3
  go_enter Tryz.func38, Tryz.ntmps38
  go_wp2_with fail
  rw [← hw0]
  clear hw0
  refine (inRange_any _ _ _ _).mono ?_
  rintro e w' ⟨rfl, rfl⟩
  rw [H1.out]
  go_wp2_with fail
  refine (allInRange_any _ vars 0 (n - 1) _ hV0.out).mono ?_
  rintro e w' ⟨rfl, rfl⟩
  rw [H2.out]
  go_wp2_with fail
  refine (distinctS_any _ vars _ hV0.out).mono ?_
  rintro e w2 ⟨rfl, hx2⟩
  rw [H3.out]
  have b0 := (hx2.cells _ _ ks).trans k0
  have b1 := (hx2.cells _ _ ks).trans k1
  have b2 := (hx2.cells _ _ ks).trans k2
  have b3 := (hx2.cells _ _ ks).trans k3
  have b4 := (hx2.cells _ _ ks).trans k4
  have hz := Nat.lt_of_lt_of_le ks hx2.size
  have HX2 := hide hx2
  clear hx2 k0 k1 k2 k3 k4
  cases hq : ((vars.length : Int) == 2) with
  | false =>
    have HQ5 := hide (show fitB 2 vars args b rows = false by rw [HF.out, hq]; rfl)
    go_wp2_with fail
    go_ret
    exact Ret.mk (ret_b HQ5.out.symm) (HX0.out.trans HX2.out)
  | true =>
    have HQ5 := hide (show fitB 2 vars args b rows = (((args.length : Int) == 1) && (allR args (-9) 9 && ((b == 0) && ((rows.length : Int) == 0)))) by rw [HF.out, hq]; rfl)
    cases hq : ((args.length : Int) == 1) with
    | false =>
      have HQ4 := hide (show fitB 2 vars args b rows = false by rw [HQ5.out, hq]; rfl)
      go_wp2_with fail
      go_ret
      exact Ret.mk (ret_b HQ4.out.symm) (HX0.out.trans HX2.out)
    | true =>
      have HQ4 := hide (show fitB 2 vars args b rows = (allR args (-9) 9 && ((b == 0) && ((rows.length : Int) == 0))) by rw [HQ5.out, hq]; rfl)
      go_wp2_with fail
      refine (allInRange_any _ args (-9) 9 _ (hA0.out.ext HX2.out)).mono ?_
      rintro e w' ⟨rfl, rfl⟩
      cases hq : allR args (-9) 9 with
      | false =>
        have HQ3 := hide (show fitB 2 vars args b rows = false by rw [HQ4.out, hq]; rfl)
        clear hq
        go_wp2_with fail
        go_ret
        exact Ret.mk (ret_b HQ3.out.symm) (HX0.out.trans HX2.out)
      | true =>
        have HQ3 := hide (show fitB 2 vars args b rows = ((b == 0) && ((rows.length : Int) == 0)) by rw [HQ4.out, hq]; rfl)
        clear hq
        cases hq : (b == 0) with
        | false =>
          have HQ2 := hide (show fitB 2 vars args b rows = false by rw [HQ3.out, hq]; rfl)
          go_wp2_with fail
          go_ret
          exact Ret.mk (ret_b HQ2.out.symm) (HX0.out.trans HX2.out)
        | true =>
          have HQ2 := hide (show fitB 2 vars args b rows = ((rows.length : Int) == 0) by rw [HQ3.out, hq]; rfl)
          go_wp2_with fail
          go_ret
          exact Ret.mk (ret_b HQ2.out.symm) (HX0.out.trans HX2.out)
set_option maxRecDepth 100000 in
set_option maxHeartbeats 8000000 in
theorem vcs_3 (vv va vr : Value) (vars args : List Int) (b : Int) (rows : List (List Int)) (n : Int) (w : World) (hV : SInts w vv vars) (hA : SInts w va args) (hR : SRows w vr rows) (hn0 : 0 ≤ n) (hn1 : n ≤ 1000000000000000) (h1 : inR vars.length 1 n = true) (h2 : allR vars 0 (n - 1) = true) (h3 : dst vars = true) :
    Calls Tryz.prog 38 #[.agg #[.int .i64 3, vv, va, .int .i64 b, vr], .int .i64 n] w (Ret (.bool (fitB 3 vars args b rows)) w) := by
  obtain ⟨Av, cv, rfl, -, hlv⟩ := hV.form
  obtain ⟨Aa, ca, rfl, -, hla⟩ := hA.form
  obtain ⟨Ar, cr, rfl, -, hlr⟩ := hR.form
  obtain ⟨w0, hw0⟩ : ∃ w0, w0 = w.alloc (.cells #[.int .i64 3, .slice Av vars.length cv, .slice Aa args.length ca, .int .i64 b, .slice Ar rows.length cr] 60) := ⟨_, rfl⟩
  have hx0 : Ext w w0 := by rw [hw0]; exact (Ext.refl w).alloc _
  have k0 : w0.cell? ⟨w.heap.size, 0, none⟩ = some (.int .i64 3) := by rw [hw0]; go_simp
  have k1 : w0.cell? ⟨w.heap.size, 1, none⟩ = some (.slice Av vars.length cv) := by rw [hw0]; go_simp
  have k2 : w0.cell? ⟨w.heap.size, 2, none⟩ = some (.slice Aa args.length ca) := by rw [hw0]; go_simp
  have k3 : w0.cell? ⟨w.heap.size, 3, none⟩ = some (.int .i64 b) := by rw [hw0]; go_simp
  have k4 : w0.cell? ⟨w.heap.size, 4, none⟩ = some (.slice Ar rows.length cr) := by rw [hw0]; go_simp
  have ks : w.heap.size < w0.heap.size := by rw [hw0]; simp
  have HX0 := hide hx0
  have hV0 := hide (hV.ext hx0)
  have hA0 := hide (hA.ext hx0)
  have hR0 := hide (hR.ext hx0)
  clear hx0 hV hA hR
  have H1 := hide h1
  have H2 := hide h2
  have H3 := hide h3
  have HF := hide (show fitB 3 vars args b rows = (((args.length : Int) == 0) && ((b == 0) && ((rows.length : Int) == 0))) from rfl)
  clear h1 h2 h3
  go_enter Tryz.func38, Tryz.ntmps38
  go_wp2_with fail
  rw [← hw0]
  clear hw0
  refine (inRange_any _ _ _ _).mono ?_
  rintro e w' ⟨rfl, rfl⟩
  rw [H1.out]
  go_wp2_with fail
  refine (allInRange_any _ vars 0 (n - 1) _ hV0.out).mono ?_
  rintro e w' ⟨rfl, rfl⟩
  rw [H2.out]
  go_wp2_with fail
  refine (distinctS_any _ vars _ hV0.out).mono ?_
  rintro e w2 ⟨rfl, hx2⟩
  rw [H3.out]
  have b0 := (hx2.cells _ _ ks).trans k0
  have b1 := (hx2.cells _ _ ks).trans k1
  have b2 := (hx2.cells _ _ ks).trans k2
  have b3 := (hx2.cells _ _ ks).trans k3
  have b4 := (hx2.cells _ _ ks).trans k4
  have hz := Nat.lt_of_lt_of_le ks hx2.size
  have HX2 := hide hx2
  clear hx2 k0 k1 k2 k3 k4
  cases hq : ((args.length : Int) == 0) with
  | false =>
    have HQ3 := hide (show fitB 3 vars args b rows = false by rw [HF.out, hq]; rfl)
    go_wp2_with fail
    go_ret
    exact Ret.mk (ret_b HQ3.out.symm) (HX0.out.trans HX2.out)
  | true =>
    have HQ3 := hide (show fitB 3 vars args b rows = ((b == 0) && ((rows.length : Int) == 0)) by rw [HF.out, hq]; rfl)
    cases hq : (b == 0) with
    | false =>
      have HQ2 := hide (show fitB 3 vars args b rows = false by rw [HQ3.out, hq]; rfl)
      go_wp2_with fail
      go_ret
      exact Ret.mk (ret_b HQ2.out.symm) (HX0.out.trans HX2.out)
    | true =>
      have HQ2 := hide (show fitB 3 vars args b rows = ((rows.length : Int) == 0) by rw [HQ3.out, hq]; rfl)
      go_wp2_with fail
      go_ret
      exact Ret.mk (ret_b HQ2.out.symm) (HX0.out.trans HX2.out)
set_option maxRecDepth 100000 in
set_option maxHeartbeats 8000000 in
theorem vcs_9 (vv va vr : Value) (vars args : List Int) (b : Int) (rows : List (List Int)) (n : Int) (w : World) (hV : SInts w vv vars) (hA : SInts w va args) (hR : SRows w vr rows) (hn0 : 0 ≤ n) (hn1 : n ≤ 1000000000000000) (h1 : inR vars.length 1 n = true) (h2 : allR vars 0 (n - 1) = true) (h3 : dst vars = true) :
    Calls Tryz.prog 38 #[.agg #[.int .i64 9, vv, va, .int .i64 b, vr], .int .i64 n] w (Ret (.bool (fitB 9 vars args b rows)) w) := by
  obtain ⟨Av, cv, rfl, -, hlv⟩ := hV.form
  obtain ⟨Aa, ca, rfl, -, hla⟩ := hA.form
  obtain ⟨Ar, cr, rfl, -, hlr⟩ := hR.form
  obtain ⟨w0, hw0⟩ : ∃ w0, w0 = w.alloc (.cells #[.int .i64 9, .slice Av vars.length cv, .slice Aa args.length ca, .int .i64 b, .slice Ar rows.length cr] 60) := ⟨_, rfl⟩
  have hx0 : Ext w w0 := by rw [hw0]; exact (Ext.refl w).alloc _
  have k0 : w0.cell? ⟨w.heap.size, 0, none⟩ = some (.int .i64 9) := by rw [hw0]; go_simp
  have k1 : w0.cell? ⟨w.heap.size, 1, none⟩ = some (.slice Av vars.length cv) := by rw [hw0]; go_simp
  have k2 : w0.cell? ⟨w.heap.size, 2, none⟩ = some (.slice Aa args.length ca) := by rw [hw0]; go_simp
  have k3 : w0.cell? ⟨w.heap.size, 3, none⟩ = some (.int .i64 b) := by rw [hw0]; go_simp
  have k4 : w0.cell? ⟨w.heap.size, 4, none⟩ = some (.slice Ar rows.length cr) := by rw [hw0]; go_simp
  have ks : w.heap.size < w0.heap.size := by rw [hw0]; simp
  have HX0 := hide hx0
  have hV0 := hide (hV.ext hx0)
  have hA0 := hide (hA.ext hx0)
  have hR0 := hide (hR.ext hx0)
  clear hx0 hV hA hR
  have H1 := hide h1
  have H2 := hide h2
  have H3 := hide h3
  have HF := hide (show fitB 9 vars args b rows = (((args.length : Int) == 0) && ((b == 0) && ((rows.length : Int) == 0))) from rfl)
  clear h1 h2 h3
  go_enter Tryz.func38, Tryz.ntmps38
  go_wp2_with fail
  rw [← hw0]
  clear hw0
  refine (inRange_any _ _ _ _).mono ?_
  rintro e w' ⟨rfl, rfl⟩
  rw [H1.out]
  go_wp2_with fail
  refine (allInRange_any _ vars 0 (n - 1) _ hV0.out).mono ?_
  rintro e w' ⟨rfl, rfl⟩
  rw [H2.out]
  go_wp2_with fail
  refine (distinctS_any _ vars _ hV0.out).mono ?_
  rintro e w2 ⟨rfl, hx2⟩
  rw [H3.out]
  have b0 := (hx2.cells _ _ ks).trans k0
  have b1 := (hx2.cells _ _ ks).trans k1
  have b2 := (hx2.cells _ _ ks).trans k2
  have b3 := (hx2.cells _ _ ks).trans k3
  have b4 := (hx2.cells _ _ ks).trans k4
  have hz := Nat.lt_of_lt_of_le ks hx2.size
  have HX2 := hide hx2
  clear hx2 k0 k1 k2 k3 k4
  cases hq : ((args.length : Int) == 0) with
  | false =>
    have HQ3 := hide (show fitB 9 vars args b rows = false by rw [HF.out, hq]; rfl)
    go_wp2_with fail
    go_ret
    exact Ret.mk (ret_b HQ3.out.symm) (HX0.out.trans HX2.out)
  | true =>
    have HQ3 := hide (show fitB 9 vars args b rows = ((b == 0) && ((rows.length : Int) == 0)) by rw [HF.out, hq]; rfl)
    cases hq : (b == 0) with
    | false =>
      have HQ2 := hide (show fitB 9 vars args b rows = false by rw [HQ3.out, hq]; rfl)
      go_wp2_with fail
      go_ret
      exact Ret.mk (ret_b HQ2.out.symm) (HX0.out.trans HX2.out)
    | true =>
      have HQ2 := hide (show fitB 9 vars args b rows = ((rows.length : Int) == 0) by rw [HQ3.out, hq]; rfl)
      go_wp2_with fail
      go_ret
      exact Ret.mk (ret_b HQ2.out.symm) (HX0.out.trans HX2.out)
set_option maxRecDepth 100000 in
set_option maxHeartbeats 8000000 in
theorem vcs_4 (vv va vr : Value) (vars args : List Int) (b : Int) (rows : List (List Int)) (n : Int) (w : World) (hV : SInts w vv vars) (hA : SInts w va args) (hR : SRows w vr rows) (hn0 : 0 ≤ n) (hn1 : n ≤ 1000000000000000) (h1 : inR vars.length 1 n = true) (h2 : allR vars 0 (n - 1) = true) (h3 : dst vars = true) :
    Calls Tryz.prog 38 #[.agg #[.int .i64 4, vv, va, .int .i64 b, vr], .int .i64 n] w (Ret (.bool (fitB 4 vars args b rows)) w) := by
  obtain ⟨Av, cv, rfl, -, hlv⟩ := hV.form
  obtain ⟨Aa, ca, rfl, -, hla⟩ := hA.form
  obtain ⟨Ar, cr, rfl, -, hlr⟩ := hR.form
  obtain ⟨w0, hw0⟩ : ∃ w0, w0 = w.alloc (.cells #[.int .i64 4, .slice Av vars.length cv, .slice Aa args.length ca, .int .i64 b, .slice Ar rows.length cr] 60) := ⟨_, rfl⟩
  have hx0 : Ext w w0 := by rw [hw0]; exact (Ext.refl w).alloc _
  have k0 : w0.cell? ⟨w.heap.size, 0, none⟩ = some (.int .i64 4) := by rw [hw0]; go_simp
  have k1 : w0.cell? ⟨w.heap.size, 1, none⟩ = some (.slice Av vars.length cv) := by rw [hw0]; go_simp
  have k2 : w0.cell? ⟨w.heap.size, 2, none⟩ = some (.slice Aa args.length ca) := by rw [hw0]; go_simp
  have k3 : w0.cell? ⟨w.heap.size, 3, none⟩ = some (.int .i64 b) := by rw [hw0]; go_simp
  have k4 : w0.cell? ⟨w.heap.size, 4, none⟩ = some (.slice Ar rows.length cr) := by rw [hw0]; go_simp
  have ks : w.heap.size < w0.heap.size := by rw [hw0]; simp
  have HX0 := hide hx0
  have hV0 := hide (hV.ext hx0)
  have hA0 := hide (hA.ext hx0)
  have hR0 := hide (hR.ext hx0)
  clear hx0 hV hA hR
  have H1 := hide h1
  have H2 := hide h2
  have H3 := hide h3
  have HF := hide (show fitB 4 vars args b rows = (((vars.length : Int) == 2) && (inR args.length 1 6 && (allR args 0 5 && ((b == 0) && ((rows.length : Int) == 0))))) from rfl)
  clear h1 h2 h3
  go_enter Tryz.func38, Tryz.ntmps38
  go_wp2_with fail
  rw [← hw0]
  clear hw0
  refine (inRange_any _ _ _ _).mono ?_
  rintro e w' ⟨rfl, rfl⟩
  rw [H1.out]
  go_wp2_with fail
  refine (allInRange_any _ vars 0 (n - 1) _ hV0.out).mono ?_
  rintro e w' ⟨rfl, rfl⟩
  rw [H2.out]
  go_wp2_with fail
  refine (distinctS_any _ vars _ hV0.out).mono ?_
  rintro e w2 ⟨rfl, hx2⟩
  rw [H3.out]
  have b0 := (hx2.cells _ _ ks).trans k0
  have b1 := (hx2.cells _ _ ks).trans k1
  have b2 := (hx2.cells _ _ ks).trans k2
  have b3 := (hx2.cells _ _ ks).trans k3
  have b4 := (hx2.cells _ _ ks).trans k4
  have hz := Nat.lt_of_lt_of_le ks hx2.size
  have HX2 := hide hx2
  clear hx2 k0 k1 k2 k3 k4
  cases hq : ((vars.length : Int) == 2) with
  | false =>
    have HQ5 := hide (show fitB 4 vars args b rows = false by rw [HF.out, hq]; rfl)
    go_wp2_with fail
    go_ret
    exact Ret.mk (ret_b HQ5.out.symm) (HX0.out.trans HX2.out)
  | true =>
    have HQ5 := hide (show fitB 4 vars args b rows = (inR args.length 1 6 && (allR args 0 5 && ((b == 0) && ((rows.length : Int) == 0)))) by rw [HF.out, hq]; rfl)
    go_wp2_with fail
    refine (inRange_any _ _ _ _).mono ?_
    rintro e w' ⟨rfl, rfl⟩
    cases hq : inR args.length 1 6 with
    | false =>
      have HQ4 := hide (show fitB 4 vars args b rows = false by rw [HQ5.out, hq]; rfl)
      clear hq
      go_wp2_with fail
      go_ret
      exact Ret.mk (ret_b HQ4.out.symm) (HX0.out.trans HX2.out)
    | true =>
      have HQ4 := hide (show fitB 4 vars args b rows = (allR args 0 5 && ((b == 0) && ((rows.length : Int) == 0))) by rw [HQ5.out, hq]; rfl)
      clear hq
      go_wp2_with fail
      refine (allInRange_any _ args 0 5 _ (hA0.out.ext HX2.out)).mono ?_
      rintro e w' ⟨rfl, rfl⟩
      cases hq : allR args 0 5 with
      | false =>
        have HQ3 := hide (show fitB 4 vars args b rows = false by rw [HQ4.out, hq]; rfl)
        clear hq
        go_wp2_with fail
        go_ret
        exact Ret.mk (ret_b HQ3.out.symm) (HX0.out.trans HX2.out)
      | true =>
        have HQ3 := hide (show fitB 4 vars args b rows = ((b == 0) && ((rows.length : Int) == 0)) by rw [HQ4.out, hq]; rfl)
        clear hq
        cases hq : (b == 0) with
        | false =>
          have HQ2 := hide (show fitB 4 vars args b rows = false by rw [HQ3.out, hq]; rfl)
          go_wp2_with fail
          go_ret
          exact Ret.mk (ret_b HQ2.out.symm) (HX0.out.trans HX2.out)
        | true =>
          have HQ2 := hide (show fitB 4 vars args b rows = ((rows.length : Int) == 0) by rw [HQ3.out, hq]; rfl)
          go_wp2_with fail
          go_ret
          exact Ret.mk (ret_b HQ2.out.symm) (HX0.out.trans HX2.out)
set_option maxRecDepth 100000 in
set_option maxHeartbeats 8000000 in
theorem vcs_5 (vv va vr : Value) (vars args : List Int) (b : Int) (rows : List (List Int)) (n : Int) (w : World) (hV : SInts w vv vars) (hA : SInts w va args) (hR : SRows w vr rows) (hn0 : 0 ≤ n) (hn1 : n ≤ 1000000000000000) (h1 : inR vars.length 1 n = true) (h2 : allR vars 0 (n - 1) = true) (h3 : dst vars = true) :
    Calls Tryz.prog 38 #[.agg #[.int .i64 5, vv, va, .int .i64 b, vr], .int .i64 n] w (Ret (.bool (fitB 5 vars args b rows)) w) := by
  obtain ⟨Av, cv, rfl, -, hlv⟩ := hV.form
  obtain ⟨Aa, ca, rfl, -, hla⟩ := hA.form
  obtain ⟨Ar, cr, rfl, -, hlr⟩ := hR.form
  obtain ⟨w0, hw0⟩ : ∃ w0, w0 = w.alloc (.cells #[.int .i64 5, .slice Av vars.length cv, .slice Aa args.length ca, .int .i64 b, .slice Ar rows.length cr] 60) := ⟨_, rfl⟩
  have hx0 : Ext w w0 := by rw [hw0]; exact (Ext.refl w).alloc _
  have k0 : w0.cell? ⟨w.heap.size, 0, none⟩ = some (.int .i64 5) := by rw [hw0]; go_simp
  have k1 : w0.cell? ⟨w.heap.size, 1, none⟩ = some (.slice Av vars.length cv) := by rw [hw0]; go_simp
  have k2 : w0.cell? ⟨w.heap.size, 2, none⟩ = some (.slice Aa args.length ca) := by rw [hw0]; go_simp
  have k3 : w0.cell? ⟨w.heap.size, 3, none⟩ = some (.int .i64 b) := by rw [hw0]; go_simp
  have k4 : w0.cell? ⟨w.heap.size, 4, none⟩ = some (.slice Ar rows.length cr) := by rw [hw0]; go_simp
  have ks : w.heap.size < w0.heap.size := by rw [hw0]; simp
  have HX0 := hide hx0
  have hV0 := hide (hV.ext hx0)
  have hA0 := hide (hA.ext hx0)
  have hR0 := hide (hR.ext hx0)
  clear hx0 hV hA hR
  have H1 := hide h1
  have H2 := hide h2
  have H3 := hide h3
  have HF := hide (show fitB 5 vars args b rows = (((args.length : Int) == 0) && ((b == 0) && vRows rows vars.length 0 5)) from rfl)
  clear h1 h2 h3
  go_enter Tryz.func38, Tryz.ntmps38
  go_wp2_with fail
  rw [← hw0]
  clear hw0
  refine (inRange_any _ _ _ _).mono ?_
  rintro e w' ⟨rfl, rfl⟩
  rw [H1.out]
  go_wp2_with fail
  refine (allInRange_any _ vars 0 (n - 1) _ hV0.out).mono ?_
  rintro e w' ⟨rfl, rfl⟩
  rw [H2.out]
  go_wp2_with fail
  refine (distinctS_any _ vars _ hV0.out).mono ?_
  rintro e w2 ⟨rfl, hx2⟩
  rw [H3.out]
  have b0 := (hx2.cells _ _ ks).trans k0
  have b1 := (hx2.cells _ _ ks).trans k1
  have b2 := (hx2.cells _ _ ks).trans k2
  have b3 := (hx2.cells _ _ ks).trans k3
  have b4 := (hx2.cells _ _ ks).trans k4
  have hz := Nat.lt_of_lt_of_le ks hx2.size
  have HX2 := hide hx2
  clear hx2 k0 k1 k2 k3 k4
  cases hq : ((args.length : Int) == 0) with
  | false =>
    have HQ3 := hide (show fitB 5 vars args b rows = false by rw [HF.out, hq]; rfl)
    go_wp2_with fail
    go_ret
    exact Ret.mk (ret_b HQ3.out.symm) (HX0.out.trans HX2.out)
  | true =>
    have HQ3 := hide (show fitB 5 vars args b rows = ((b == 0) && vRows rows vars.length 0 5) by rw [HF.out, hq]; rfl)
    cases hq : (b == 0) with
    | false =>
      have HQ2 := hide (show fitB 5 vars args b rows = false by rw [HQ3.out, hq]; rfl)
      go_wp2_with fail
      go_ret
      exact Ret.mk (ret_b HQ2.out.symm) (HX0.out.trans HX2.out)
    | true =>
      have HQ2 := hide (show fitB 5 vars args b rows = vRows rows vars.length 0 5 by rw [HQ3.out, hq]; rfl)
      go_wp2_with fail
      refine (validRows_any _ rows vars.length 0 5 _ (hR0.out.ext HX2.out)).mono ?_
      rintro e w' ⟨rfl, rfl⟩
      go_wp2
      go_ret
      exact Ret.mk (ret_b HQ2.out.symm) (HX0.out.trans HX2.out)
set_option maxRecDepth 100000 in
set_option maxHeartbeats 8000000 in
theorem vcs_6 (vv va vr : Value) (vars args : List Int) (b : Int) (rows : List (List Int)) (n : Int) (w : World) (hV : SInts w vv vars) (hA : SInts w va args) (hR : SRows w vr rows) (hn0 : 0 ≤ n) (hn1 : n ≤ 1000000000000000) (h1 : inR vars.length 1 n = true) (h2 : allR vars 0 (n - 1) = true) (h3 : dst vars = true) :
    Calls Tryz.prog 38 #[.agg #[.int .i64 6, vv, va, .int .i64 b, vr], .int .i64 n] w (Ret (.bool (fitB 6 vars args b rows)) w) := by
  obtain ⟨Av, cv, rfl, -, hlv⟩ := hV.form
  obtain ⟨Aa, ca, rfl, -, hla⟩ := hA.form
  obtain ⟨Ar, cr, rfl, -, hlr⟩ := hR.form
  obtain ⟨w0, hw0⟩ : ∃ w0, w0 = w.alloc (.cells #[.int .i64 6, .slice Av vars.length cv, .slice Aa args.length ca, .int .i64 b, .slice Ar rows.length cr] 60) := ⟨_, rfl⟩
  have hx0 : Ext w w0 := by rw [hw0]; exact (Ext.refl w).alloc _
  have k0 : w0.cell? ⟨w.heap.size, 0, none⟩ = some (.int .i64 6) := by rw [hw0]; go_simp
  have k1 : w0.cell? ⟨w.heap.size, 1, none⟩ = some (.slice Av vars.length cv) := by rw [hw0]; go_simp
  have k2 : w0.cell? ⟨w.heap.size, 2, none⟩ = some (.slice Aa args.length ca) := by rw [hw0]; go_simp
  have k3 : w0.cell? ⟨w.heap.size, 3, none⟩ = some (.int .i64 b) := by rw [hw0]; go_simp
  have k4 : w0.cell? ⟨w.heap.size, 4, none⟩ = some (.slice Ar rows.length cr) := by rw [hw0]; go_simp
  have ks : w.heap.size < w0.heap.size := by rw [hw0]; simp
  have HX0 := hide hx0
  have hV0 := hide (hV.ext hx0)
  have hA0 := hide (hA.ext hx0)
  have hR0 := hide (hR.ext hx0)
  clear hx0 hV hA hR
  have H1 := hide h1
  have H2 := hide h2
  have H3 := hide h3
  have HF := hide (show fitB 6 vars args b rows = (((args.length : Int) == 1) && (allR args 0 5 && (inR b 0 4 && ((rows.length : Int) == 0)))) from by rw [show fitB 6 vars args b rows = (argsB args 1 0 5 && (inR b 0 4 && ((rows.length : Int) == 0))) from rfl, argsB, Bool.and_assoc])
  clear h1 h2 h3
  go_enter Tryz.func38, Tryz.ntmps38
  go_wp2_with fail
  rw [← hw0]
  clear hw0
  refine (inRange_any _ _ _ _).mono ?_
  rintro e w' ⟨rfl, rfl⟩
  rw [H1.out]
  go_wp2_with fail
  refine (allInRange_any _ vars 0 (n - 1) _ hV0.out).mono ?_
  rintro e w' ⟨rfl, rfl⟩
  rw [H2.out]
  go_wp2_with fail
  refine (distinctS_any _ vars _ hV0.out).mono ?_
  rintro e w2 ⟨rfl, hx2⟩
  rw [H3.out]
  have b0 := (hx2.cells _ _ ks).trans k0
  have b1 := (hx2.cells _ _ ks).trans k1
  have b2 := (hx2.cells _ _ ks).trans k2
  have b3 := (hx2.cells _ _ ks).trans k3
  have b4 := (hx2.cells _ _ ks).trans k4
  have hz := Nat.lt_of_lt_of_le ks hx2.size
  have HX2 := hide hx2
  clear hx2 k0 k1 k2 k3 k4
  cases hq : ((args.length : Int) == 1) with
  | false =>
    have HQ4 := hide (show fitB 6 vars args b rows = false by rw [HF.out, hq]; rfl)
    go_wp2_with fail
    go_ret
    exact Ret.mk (ret_b HQ4.out.symm) (HX0.out.trans HX2.out)
  | true =>
    have HQ4 := hide (show fitB 6 vars args b rows = (allR args 0 5 && (inR b 0 4 && ((rows.length : Int) == 0))) by rw [HF.out, hq]; rfl)
    go_wp2_with fail
    refine (allInRange_any _ args 0 5 _ (hA0.out.ext HX2.out)).mono ?_
    rintro e w' ⟨rfl, rfl⟩
    cases hq : allR args 0 5 with
    | false =>
      have HQ3 := hide (show fitB 6 vars args b rows = false by rw [HQ4.out, hq]; rfl)
      clear hq
      go_wp2_with fail
      go_ret
      exact Ret.mk (ret_b HQ3.out.symm) (HX0.out.trans HX2.out)
    | true =>
      have HQ3 := hide (show fitB 6 vars args b rows = (inR b 0 4 && ((rows.length : Int) == 0)) by rw [HQ4.out, hq]; rfl)
      clear hq
      go_wp2_with fail
      refine (inRange_any _ _ _ _).mono ?_
      rintro e w' ⟨rfl, rfl⟩
      cases hq : inR b 0 4 with
      | false =>
        have HQ2 := hide (show fitB 6 vars args b rows = false by rw [HQ3.out, hq]; rfl)
        clear hq
        go_wp2_with fail
        go_ret
        exact Ret.mk (ret_b HQ2.out.symm) (HX0.out.trans HX2.out)
      | true =>
        have HQ2 := hide (show fitB 6 vars args b rows = ((rows.length : Int) == 0) by rw [HQ3.out, hq]; rfl)
        clear hq
        go_wp2_with fail
        go_ret
        exact Ret.mk (ret_b HQ2.out.symm) (HX0.out.trans HX2.out)
set_option maxRecDepth 100000 in
set_option maxHeartbeats 8000000 in
theorem vcs_7 (vv va vr : Value) (vars args : List Int) (b : Int) (rows : List (List Int)) (n : Int) (w : World) (hV : SInts w vv vars) (hA : SInts w va args) (hR : SRows w vr rows) (hn0 : 0 ≤ n) (hn1 : n ≤ 1000000000000000) (h1 : inR vars.length 1 n = true) (h2 : allR vars 0 (n - 1) = true) (h3 : dst vars = true) :
    Calls Tryz.prog 38 #[.agg #[.int .i64 7, vv, va, .int .i64 b, vr], .int .i64 n] w (Ret (.bool (fitB 7 vars args b rows)) w) := by
  obtain ⟨Av, cv, rfl, -, hlv⟩ := hV.form
  obtain ⟨Aa, ca, rfl, -, hla⟩ := hA.form
  obtain ⟨Ar, cr, rfl, -, hlr⟩ := hR.form
  obtain ⟨w0, hw0⟩ : ∃ w0, w0 = w.alloc (.cells #[.int .i64 7, .slice Av vars.length cv, .slice Aa args.length ca, .int .i64 b, .slice Ar rows.length cr] 60) := ⟨_, rfl⟩
  have hx0 : Ext w w0 := by rw [hw0]; exact (Ext.refl w).alloc _
  have k0 : w0.cell? ⟨w.heap.size, 0, none⟩ = some (.int .i64 7) := by rw [hw0]; go_simp
  have k1 : w0.cell? ⟨w.heap.size, 1, none⟩ = some (.slice Av vars.length cv) := by rw [hw0]; go_simp
  have k2 : w0.cell? ⟨w.heap.size, 2, none⟩ = some (.slice Aa args.length ca) := by rw [hw0]; go_simp
  have k3 : w0.cell? ⟨w.heap.size, 3, none⟩ = some (.int .i64 b) := by rw [hw0]; go_simp
  have k4 : w0.cell? ⟨w.heap.size, 4, none⟩ = some (.slice Ar rows.length cr) := by rw [hw0]; go_simp
  have ks : w.heap.size < w0.heap.size := by rw [hw0]; simp
  have HX0 := hide hx0
  have hV0 := hide (hV.ext hx0)
  have hA0 := hide (hA.ext hx0)
  have hR0 := hide (hR.ext hx0)
  clear hx0 hV hA hR
  have H1 := hide h1
  have H2 := hide h2
  have H3 := hide h3
  have HF := hide (show fitB 7 vars args b rows = (((args.length : Int) == 2 * vars.length) && (allR args 0 9 && (inR b 0 9 && ((rows.length : Int) == 0)))) from by rw [show fitB 7 vars args b rows = (argsB args (2 * vars.length) 0 9 && (inR b 0 9 && ((rows.length : Int) == 0))) from rfl, argsB, Bool.and_assoc])
  clear h1 h2 h3
  go_enter Tryz.func38, Tryz.ntmps38
  go_wp2_with fail
  rw [← hw0]
  clear hw0
  refine (inRange_any _ _ _ _).mono ?_
  rintro e w' ⟨rfl, rfl⟩
  rw [H1.out]
  go_wp2_with fail
  refine (allInRange_any _ vars 0 (n - 1) _ hV0.out).mono ?_
  rintro e w' ⟨rfl, rfl⟩
  rw [H2.out]
  go_wp2_with fail
  refine (distinctS_any _ vars _ hV0.out).mono ?_
  rintro e w2 ⟨rfl, hx2⟩
  rw [H3.out]
  have b0 := (hx2.cells _ _ ks).trans k0
  have b1 := (hx2.cells _ _ ks).trans k1
  have b2 := (hx2.cells _ _ ks).trans k2
  have b3 := (hx2.cells _ _ ks).trans k3
  have b4 := (hx2.cells _ _ ks).trans k4
  have hz := Nat.lt_of_lt_of_le ks hx2.size
  have HX2 := hide hx2
  clear hx2 k0 k1 k2 k3 k4
  cases hq : ((args.length : Int) == 2 * vars.length) with
  | false =>
    have HQ4 := hide (show fitB 7 vars args b rows = false by rw [HF.out, hq]; rfl)
    go_wp2_with fail
    go_ret
    exact Ret.mk (ret_b HQ4.out.symm) (HX0.out.trans HX2.out)
  | true =>
    have HQ4 := hide (show fitB 7 vars args b rows = (allR args 0 9 && (inR b 0 9 && ((rows.length : Int) == 0))) by rw [HF.out, hq]; rfl)
    go_wp2_with fail
    refine (allInRange_any _ args 0 9 _ (hA0.out.ext HX2.out)).mono ?_
    rintro e w' ⟨rfl, rfl⟩
    cases hq : allR args 0 9 with
    | false =>
      have HQ3 := hide (show fitB 7 vars args b rows = false by rw [HQ4.out, hq]; rfl)
      clear hq
      go_wp2_with fail
      go_ret
      exact Ret.mk (ret_b HQ3.out.symm) (HX0.out.trans HX2.out)
    | true =>
      have HQ3 := hide (show fitB 7 vars args b rows = (inR b 0 9 && ((rows.length : Int) == 0)) by rw [HQ4.out, hq]; rfl)
      clear hq
      go_wp2_with fail
      refine (inRange_any _ _ _ _).mono ?_
      rintro e w' ⟨rfl, rfl⟩
      cases hq : inR b 0 9 with
      | false =>
        have HQ2 := hide (show fitB 7 vars args b rows = false by rw [HQ3.out, hq]; rfl)
        clear hq
        go_wp2_with fail
        go_ret
        exact Ret.mk (ret_b HQ2.out.symm) (HX0.out.trans HX2.out)
      | true =>
        have HQ2 := hide (show fitB 7 vars args b rows = ((rows.length : Int) == 0) by rw [HQ3.out, hq]; rfl)
        clear hq
        go_wp2_with fail
        go_ret
        exact Ret.mk (ret_b HQ2.out.symm) (HX0.out.trans HX2.out)
set_option maxRecDepth 100000 in
set_option maxHeartbeats 8000000 in
theorem vcs_8 (vv va vr : Value) (vars args : List Int) (b : Int) (rows : List (List Int)) (n : Int) (w : World) (hV : SInts w vv vars) (hA : SInts w va args) (hR : SRows w vr rows) (hn0 : 0 ≤ n) (hn1 : n ≤ 1000000000000000) (h1 : inR vars.length 1 n = true) (h2 : allR vars 0 (n - 1) = true) (h3 : dst vars = true) :
    Calls Tryz.prog 38 #[.agg #[.int .i64 8, vv, va, .int .i64 b, vr], .int .i64 n] w (Ret (.bool (fitB 8 vars args b rows)) w) := by
  obtain ⟨Av, cv, rfl, -, hlv⟩ := hV.form
  obtain ⟨Aa, ca, rfl, -, hla⟩ := hA.form
  obtain ⟨Ar, cr, rfl, -, hlr⟩ := hR.form
  obtain ⟨w0, hw0⟩ : ∃ w0, w0 = w.alloc (.cells #[.int .i64 8, .slice Av vars.length cv, .slice Aa args.length ca, .int .i64 b, .slice Ar rows.length cr] 60) := ⟨_, rfl⟩
  have hx0 : Ext w w0 := by rw [hw0]; exact (Ext.refl w).alloc _
  have k0 : w0.cell? ⟨w.heap.size, 0, none⟩ = some (.int .i64 8) := by rw [hw0]; go_simp
  have k1 : w0.cell? ⟨w.heap.size, 1, none⟩ = some (.slice Av vars.length cv) := by rw [hw0]; go_simp
  have k2 : w0.cell? ⟨w.heap.size, 2, none⟩ = some (.slice Aa args.length ca) := by rw [hw0]; go_simp
  have k3 : w0.cell? ⟨w.heap.size, 3, none⟩ = some (.int .i64 b) := by rw [hw0]; go_simp
  have k4 : w0.cell? ⟨w.heap.size, 4, none⟩ = some (.slice Ar rows.length cr) := by rw [hw0]; go_simp
  have ks : w.heap.size < w0.heap.size := by rw [hw0]; simp
  have HX0 := hide hx0
  have hV0 := hide (hV.ext hx0)
  have hA0 := hide (hA.ext hx0)
  have hR0 := hide (hR.ext hx0)
  clear hx0 hV hA hR
  have H1 := hide h1
  have H2 := hide h2
  have H3 := hide h3
  have HF := hide (show fitB 8 vars args b rows = (vRows rows 6 (-1) (rows.length - 1) && (allR args 0 (rows.length - 1) && (dst args && (b == 0)))) from by rw [show fitB 8 vars args b rows = (vRows rows 6 (-1) (rows.length - 1) && (dst args && (allR args 0 (rows.length - 1) && (b == 0)))) from rfl, Bool.and_left_comm (dst args)])
  clear h1 h2 h3
  go_enter Tryz.func38, Tryz.ntmps38
  go_wp2_with fail
  rw [← hw0]
  clear hw0
  refine (inRange_any _ _ _ _).mono ?_
  rintro e w' ⟨rfl, rfl⟩
  rw [H1.out]
  go_wp2_with fail
  refine (allInRange_any _ vars 0 (n - 1) _ hV0.out).mono ?_
  rintro e w' ⟨rfl, rfl⟩
  rw [H2.out]
  go_wp2_with fail
  refine (distinctS_any _ vars _ hV0.out).mono ?_
  rintro e w2 ⟨rfl, hx2⟩
  rw [H3.out]
  have b0 := (hx2.cells _ _ ks).trans k0
  have b1 := (hx2.cells _ _ ks).trans k1
  have b2 := (hx2.cells _ _ ks).trans k2
  have b3 := (hx2.cells _ _ ks).trans k3
  have b4 := (hx2.cells _ _ ks).trans k4
  have hz := Nat.lt_of_lt_of_le ks hx2.size
  have HX2 := hide hx2
  clear hx2 k0 k1 k2 k3 k4
  go_wp2_with fail
  refine (validRows_any _ rows 6 (-1) (rows.length - 1) _ (hR0.out.ext HX2.out)).mono ?_
  rintro e w' ⟨rfl, rfl⟩
  cases hq : vRows rows 6 (-1) (rows.length - 1) with
  | false =>
    have HQ4 := hide (show fitB 8 vars args b rows = false by rw [HF.out, hq]; rfl)
    clear hq
    go_wp2_with fail
    go_ret
    exact Ret.mk (ret_b HQ4.out.symm) (HX0.out.trans HX2.out)
  | true =>
    have HQ4 := hide (show fitB 8 vars args b rows = (allR args 0 (rows.length - 1) && (dst args && (b == 0))) by rw [HF.out, hq]; rfl)
    clear hq
    go_wp2_with fail
    refine (allInRange_any _ args 0 (rows.length - 1) _ (hA0.out.ext HX2.out)).mono ?_
    rintro e w' ⟨rfl, rfl⟩
    cases hq : allR args 0 (rows.length - 1) with
    | false =>
      have HQ3 := hide (show fitB 8 vars args b rows = false by rw [HQ4.out, hq]; rfl)
      clear hq
      go_wp2_with fail
      go_ret
      exact Ret.mk (ret_b HQ3.out.symm) (HX0.out.trans HX2.out)
    | true =>
      have HQ3 := hide (show fitB 8 vars args b rows = (dst args && (b == 0)) by rw [HQ4.out, hq]; rfl)
      clear hq
      go_wp2_with fail
      refine (distinctS_any _ args _ (hA0.out.ext HX2.out)).mono ?_
      rintro e w3 ⟨rfl, hx3⟩
      have b2 := (hx3.cells _ _ hz).trans b2
      have b3 := (hx3.cells _ _ hz).trans b3
      have b4 := (hx3.cells _ _ hz).trans b4
      have hz := Nat.lt_of_lt_of_le hz hx3.size
      have HX3 := hide (HX2.out.trans hx3)
      clear hx3
      cases hq : dst args with
      | false =>
        have HQ2 := hide (show fitB 8 vars args b rows = false by rw [HQ3.out, hq]; rfl)
        clear hq
        go_wp2_with fail
        go_ret
        exact Ret.mk (ret_b HQ2.out.symm) (HX0.out.trans HX3.out)
      | true =>
        have HQ2 := hide (show fitB 8 vars args b rows = (b == 0) by rw [HQ3.out, hq]; rfl)
        clear hq
        go_wp2_with fail
        go_ret
        exact Ret.mk (ret_b HQ2.out.symm) (HX0.out.trans HX3.out)
set_option maxRecDepth 100000 in
set_option maxHeartbeats 8000000 in
theorem vcs_0 (kk : Int) (vv va vr : Value) (vars args : List Int) (b : Int) (rows : List (List Int)) (n : Int) (w : World) (hV : SInts w vv vars) (hA : SInts w va args) (hR : SRows w vr rows) (hn0 : 0 ≤ n) (hn1 : n ≤ 1000000000000000) (h1 : inR vars.length 1 n = true) (h2 : allR vars 0 (n - 1) = true) (h3 : dst vars = true)
    (g1 : (kk == 1) = false) (g2 : (kk == 2) = false) (g3 : (kk == 3) = false) (g4 : (kk == 4) = false) (g5 : (kk == 5) = false) (g6 : (kk == 6) = false) (g7 : (kk == 7) = false) (g8 : (kk == 8) = false) (g9 : (kk == 9) = false) :
    Calls Tryz.prog 38 #[.agg #[.int .i64 kk, vv, va, .int .i64 b, vr], .int .i64 n] w (Ret (.bool false) w) := by
  obtain ⟨Av, cv, rfl, -, hlv⟩ := hV.form
  obtain ⟨Aa, ca, rfl, -, hla⟩ := hA.form
  obtain ⟨Ar, cr, rfl, -, hlr⟩ := hR.form
  obtain ⟨w0, hw0⟩ : ∃ w0, w0 = w.alloc (.cells #[.int .i64 kk, .slice Av vars.length cv, .slice Aa args.length ca, .int .i64 b, .slice Ar rows.length cr] 60) := ⟨_, rfl⟩
  have hx0 : Ext w w0 := by rw [hw0]; exact (Ext.refl w).alloc _
  have k0 : w0.cell? ⟨w.heap.size, 0, none⟩ = some (.int .i64 kk) := by rw [hw0]; go_simp
  have k1 : w0.cell? ⟨w.heap.size, 1, none⟩ = some (.slice Av vars.length cv) := by rw [hw0]; go_simp
  have k2 : w0.cell? ⟨w.heap.size, 2, none⟩ = some (.slice Aa args.length ca) := by rw [hw0]; go_simp
  have k3 : w0.cell? ⟨w.heap.size, 3, none⟩ = some (.int .i64 b) := by rw [hw0]; go_simp
  have k4 : w0.cell? ⟨w.heap.size, 4, none⟩ = some (.slice Ar rows.length cr) := by rw [hw0]; go_simp
  have ks : w.heap.size < w0.heap.size := by rw [hw0]; simp
  have HX0 := hide hx0
  have hV0 := hide (hV.ext hx0)
  have hA0 := hide (hA.ext hx0)
  have hR0 := hide (hR.ext hx0)
  clear hx0 hV hA hR
  have H1 := hide h1
  have H2 := hide h2
  have H3 := hide h3
  clear h1 h2 h3
  go_enter Tryz.func38, Tryz.ntmps38
  go_wp2_with fail
  rw [← hw0]
  clear hw0
  refine (inRange_any _ _ _ _).mono ?_
  rintro e w' ⟨rfl, rfl⟩
  rw [H1.out]
  go_wp2_with fail
  refine (allInRange_any _ vars 0 (n - 1) _ hV0.out).mono ?_
  rintro e w' ⟨rfl, rfl⟩
  rw [H2.out]
  go_wp2_with fail
  refine (distinctS_any _ vars _ hV0.out).mono ?_
  rintro e w2 ⟨rfl, hx2⟩
  rw [H3.out]
  have b0 := (hx2.cells _ _ ks).trans k0
  have hz := Nat.lt_of_lt_of_le ks hx2.size
  have HX2 := hide hx2
  have _hA1 := hA0
  have _hR1 := hR0
  clear hx2 k0 k1 k2 k3 k4 _hA1 _hR1
  go_wp2
  go_ret
  exact Ret.mk rfl (HX0.out.trans HX2.out)
set_option maxRecDepth 100000 in
set_option maxHeartbeats 8000000 in
theorem vcs_n1 (kk : Int) (vv va vr : Value) (vars args : List Int) (b : Int) (rows : List (List Int)) (n : Int) (w : World) (hV : SInts w vv vars) (hA : SInts w va args) (hR : SRows w vr rows) (hn0 : 0 ≤ n) (hn1 : n ≤ 1000000000000000) (h1 : inR vars.length 1 n = false) :
    Calls Tryz.prog 38 #[.agg #[.int .i64 kk, vv, va, .int .i64 b, vr], .int .i64 n] w (Ret (.bool false) w) := by
  obtain ⟨Av, cv, rfl, -, hlv⟩ := hV.form
  obtain ⟨Aa, ca, rfl, -, hla⟩ := hA.form
  obtain ⟨Ar, cr, rfl, -, hlr⟩ := hR.form
  obtain ⟨w0, hw0⟩ : ∃ w0, w0 = w.alloc (.cells #[.int .i64 kk, .slice Av vars.length cv, .slice Aa args.length ca, .int .i64 b, .slice Ar rows.length cr] 60) := ⟨_, rfl⟩
  have hx0 : Ext w w0 := by rw [hw0]; exact (Ext.refl w).alloc _
  have k0 : w0.cell? ⟨w.heap.size, 0, none⟩ = some (.int .i64 kk) := by rw [hw0]; go_simp
  have k1 : w0.cell? ⟨w.heap.size, 1, none⟩ = some (.slice Av vars.length cv) := by rw [hw0]; go_simp
  have k2 : w0.cell? ⟨w.heap.size, 2, none⟩ = some (.slice Aa args.length ca) := by rw [hw0]; go_simp
  have k3 : w0.cell? ⟨w.heap.size, 3, none⟩ = some (.int .i64 b) := by rw [hw0]; go_simp
  have k4 : w0.cell? ⟨w.heap.size, 4, none⟩ = some (.slice Ar rows.length cr) := by rw [hw0]; go_simp
  have ks : w.heap.size < w0.heap.size := by rw [hw0]; simp
  have HX0 := hide hx0
  have hV0 := hide (hV.ext hx0)
  have hA0 := hide (hA.ext hx0)
  have hR0 := hide (hR.ext hx0)
  clear hx0 hV hA hR
  have H1 := hide h1
  clear h1 k0 k2 k3 k4
  have _hA1 := hA0
  have _hR1 := hR0
  have _hnn := And.intro hn0 hn1
  clear _hA1 _hR1 _hnn
  go_enter Tryz.func38, Tryz.ntmps38
  go_wp2_with fail
  rw [← hw0]
  clear hw0
  refine (inRange_any _ _ _ _).mono ?_
  rintro e w' ⟨rfl, rfl⟩
  rw [H1.out]
  go_wp2
  go_ret
  exact Ret.mk rfl HX0.out
set_option maxRecDepth 100000 in
set_option maxHeartbeats 8000000 in
theorem vcs_n2 (kk : Int) (vv va vr : Value) (vars args : List Int) (b : Int) (rows : List (List Int)) (n : Int) (w : World) (hV : SInts w vv vars) (hA : SInts w va args) (hR : SRows w vr rows) (hn0 : 0 ≤ n) (hn1 : n ≤ 1000000000000000) (h1 : inR vars.length 1 n = true) (h2 : allR vars 0 (n - 1) = false) :
    Calls Tryz.prog 38 #[.agg #[.int .i64 kk, vv, va, .int .i64 b, vr], .int .i64 n] w (Ret (.bool false) w) := by
  obtain ⟨Av, cv, rfl, -, hlv⟩ := hV.form
  obtain ⟨Aa, ca, rfl, -, hla⟩ := hA.form
  obtain ⟨Ar, cr, rfl, -, hlr⟩ := hR.form
  obtain ⟨w0, hw0⟩ : ∃ w0, w0 = w.alloc (.cells #[.int .i64 kk, .slice Av vars.length cv, .slice Aa args.length ca, .int .i64 b, .slice Ar rows.length cr] 60) := ⟨_, rfl⟩
  have hx0 : Ext w w0 := by rw [hw0]; exact (Ext.refl w).alloc _
  have k0 : w0.cell? ⟨w.heap.size, 0, none⟩ = some (.int .i64 kk) := by rw [hw0]; go_simp
  have k1 : w0.cell? ⟨w.heap.size, 1, none⟩ = some (.slice Av vars.length cv) := by rw [hw0]; go_simp
  have k2 : w0.cell? ⟨w.heap.size, 2, none⟩ = some (.slice Aa args.length ca) := by rw [hw0]; go_simp
  have k3 : w0.cell? ⟨w.heap.size, 3, none⟩ = some (.int .i64 b) := by rw [hw0]; go_simp
  have k4 : w0.cell? ⟨w.heap.size, 4, none⟩ = some (.slice Ar rows.length cr) := by rw [hw0]; go_simp
  have ks : w.heap.size < w0.heap.size := by rw [hw0]; simp
  have HX0 := hide hx0
  have hV0 := hide (hV.ext hx0)
  have hA0 := hide (hA.ext hx0)
  have hR0 := hide (hR.ext hx0)
  clear hx0 hV hA hR
  have H1 := hide h1
  have H2 := hide h2
  clear h1 h2 k0 k2 k3 k4
  have _hA1 := hA0
  have _hR1 := hR0
  have _hnn := And.intro hn0 hn1
  clear _hA1 _hR1 _hnn
  go_enter Tryz.func38, Tryz.ntmps38
  go_wp2_with fail
  rw [← hw0]
  clear hw0
  refine (inRange_any _ _ _ _).mono ?_
  rintro e w' ⟨rfl, rfl⟩
  rw [H1.out]
  go_wp2_with fail
  refine (allInRange_any _ vars 0 (n - 1) _ hV0.out).mono ?_
  rintro e w' ⟨rfl, rfl⟩
  rw [H2.out]
  go_wp2
  go_ret
  exact Ret.mk rfl HX0.out
set_option maxRecDepth 100000 in
set_option maxHeartbeats 8000000 in
theorem vcs_n3 (kk : Int) (vv va vr : Value) (vars args : List Int) (b : Int) (rows : List (List Int)) (n : Int) (w : World) (hV : SInts w vv vars) (hA : SInts w va args) (hR : SRows w vr rows) (hn0 : 0 ≤ n) (hn1 : n ≤ 1000000000000000) (h1 : inR vars.length 1 n = true) (h2 : allR vars 0 (n - 1) = true) (h3 : dst vars = false) :
    Calls Tryz.prog 38 #[.agg #[.int .i64 kk, vv, va, .int .i64 b, vr], .int .i64 n] w (Ret (.bool false) w) := by
  obtain ⟨Av, cv, rfl, -, hlv⟩ := hV.form
  obtain ⟨Aa, ca, rfl, -, hla⟩ := hA.form
  obtain ⟨Ar, cr, rfl, -, hlr⟩ := hR.form
  obtain ⟨w0, hw0⟩ : ∃ w0, w0 = w.alloc (.cells #[.int .i64 kk, .slice Av vars.length cv, .slice Aa args.length ca, .int .i64 b, .slice Ar rows.length cr] 60) := ⟨_, rfl⟩
  have hx0 : Ext w w0 := by rw [hw0]; exact (Ext.refl w).alloc _
  have k0 : w0.cell? ⟨w.heap.size, 0, none⟩ = some (.int .i64 kk) := by rw [hw0]; go_simp
  have k1 : w0.cell? ⟨w.heap.size, 1, none⟩ = some (.slice Av vars.length cv) := by rw [hw0]; go_simp
  have k2 : w0.cell? ⟨w.heap.size, 2, none⟩ = some (.slice Aa args.length ca) := by rw [hw0]; go_simp
  have k3 : w0.cell? ⟨w.heap.size, 3, none⟩ = some (.int .i64 b) := by rw [hw0]; go_simp
  have k4 : w0.cell? ⟨w.heap.size, 4, none⟩ = some (.slice Ar rows.length cr) := by rw [hw0]; go_simp
  have ks : w.heap.size < w0.heap.size := by rw [hw0]; simp
  have HX0 := hide hx0
  have hV0 := hide (hV.ext hx0)
  have hA0 := hide (hA.ext hx0)
  have hR0 := hide (hR.ext hx0)
  clear hx0 hV hA hR
  have H1 := hide h1
  have H2 := hide h2
  have H3 := hide h3
  clear h1 h2 h3 k0 k2 k3 k4
  have _hA1 := hA0
  have _hR1 := hR0
  have _hnn := And.intro hn0 hn1
  clear _hA1 _hR1 _hnn
  go_enter Tryz.func38, Tryz.ntmps38
  go_wp2_with fail
  rw [← hw0]
  clear hw0
  refine (inRange_any _ _ _ _).mono ?_
  rintro e w' ⟨rfl, rfl⟩
  rw [H1.out]
  go_wp2_with fail
  refine (allInRange_any _ vars 0 (n - 1) _ hV0.out).mono ?_
  rintro e w' ⟨rfl, rfl⟩
  rw [H2.out]
  go_wp2_with fail
  refine (distinctS_any _ vars _ hV0.out).mono ?_
  rintro e w2 ⟨rfl, hx2⟩
  rw [H3.out]
  have HX2 := hide (HX0.out.trans hx2)
  clear hx2
  go_wp2
  go_ret
  exact Ret.mk rfl HX2.out
theorem validConstraintS_any (c : Con) (vv va vr : Value) (n : Int) (w : World) (hV : SInts w vv c.vars) (hA : SInts w va c.args) (hR : SRows w vr c.rows) (hn0 : 0 ≤ n) (hn1 : n ≤ 1000000000000000) :
    Calls Tryz.prog 38 #[.agg #[.int .i64 c.kk, vv, va, .int .i64 c.bound, vr], .int .i64 n] w (Ret (.bool (vCs c n)) w) := by
  obtain ⟨kk, vars, args, b, rows⟩ := c
  simp only at hV hA hR ⊢
  cases h1 : inR vars.length 1 n with
  | false =>
    rw [show vCs ⟨kk, vars, args, b, rows⟩ n = false by simp only [vCs]; rw [h1]; rfl]
    exact vcs_n1 kk _ _ _ vars args b rows n w hV hA hR hn0 hn1 h1
  | true =>
  cases h2 : allR vars 0 (n - 1) with
  | false =>
    rw [show vCs ⟨kk, vars, args, b, rows⟩ n = false by simp only [vCs]; rw [h1, h2]; rfl]
    exact vcs_n2 kk _ _ _ vars args b rows n w hV hA hR hn0 hn1 h1 h2
  | true =>
  cases h3 : dst vars with
  | false =>
    rw [show vCs ⟨kk, vars, args, b, rows⟩ n = false by simp only [vCs]; rw [h1, h2, h3]; rfl]
    exact vcs_n3 kk _ _ _ vars args b rows n w hV hA hR hn0 hn1 h1 h2 h3
  | true =>
  rw [show vCs ⟨kk, vars, args, b, rows⟩ n = fitB kk vars args b rows by simp only [vCs]; rw [h1, h2, h3]; rfl]
  by_cases e1 : kk = 1
  · subst e1; exact vcs_1 _ _ _ vars args b rows n w hV hA hR hn0 hn1 h1 h2 h3
  by_cases e2 : kk = 2
  · subst e2; exact vcs_2 _ _ _ vars args b rows n w hV hA hR hn0 hn1 h1 h2 h3
  by_cases e3 : kk = 3
  · subst e3; exact vcs_3 _ _ _ vars args b rows n w hV hA hR hn0 hn1 h1 h2 h3
  by_cases e4 : kk = 4
  · subst e4; exact vcs_4 _ _ _ vars args b rows n w hV hA hR hn0 hn1 h1 h2 h3
  by_cases e5 : kk = 5
  · subst e5; exact vcs_5 _ _ _ vars args b rows n w hV hA hR hn0 hn1 h1 h2 h3
  by_cases e6 : kk = 6
  · subst e6; exact vcs_6 _ _ _ vars args b rows n w hV hA hR hn0 hn1 h1 h2 h3
  by_cases e7 : kk = 7
  · subst e7; exact vcs_7 _ _ _ vars args b rows n w hV hA hR hn0 hn1 h1 h2 h3
  by_cases e8 : kk = 8
  · subst e8; exact vcs_8 _ _ _ vars args b rows n w hV hA hR hn0 hn1 h1 h2 h3
  by_cases e9 : kk = 9
  · subst e9; exact vcs_9 _ _ _ vars args b rows n w hV hA hR hn0 hn1 h1 h2 h3
  rw [fitB_other vars args b rows e1 e2 e3 e4 e5 e6 e7 e8 e9]
  exact vcs_0 kk _ _ _ vars args b rows n w hV hA hR hn0 hn1 h1 h2 h3 (by simpa using e1) (by simpa using e2) (by simpa using e3) (by simpa using e4) (by simpa using e5) (by simpa using e6) (by simpa using e7) (by simpa using e8) (by simpa using e9)
end Go.Proofs.YtalgilgfoekioaaGreatDoor
/- validModel of the reference. -/
namespace Go.Proofs.YtalgilgfoekioaaGreatDoor
open Go.RowKit

theorem vMod_eq (ds : List Int) (cs : List Con) (h : allR ds 0 63 = true) (h2 : anyB (fun i => !vCs (con0 cs i) ds.length) cs.length = false) : vMod ds cs = (inR ds.length 1 4 && decide (cs.length ≤ 6)) := by
  unfold vMod
  rw [h]
  cases hn : inR (ds.length : Int) 1 4 with
  | false => rfl
  | true =>
    rw [show anyB (fun i => !vCon (con0 cs i) ds.length) cs.length = false from anyB_false.2 fun i hi => by
      have := anyB_false.1 h2 i hi
      rw [vCon_vCs, hn, Bool.true_and]; exact this]
    simp
theorem vMod_no1 {ds : List Int} {cs : List Con} (h : allR ds 0 63 = false) : vMod ds cs = false := by
  unfold vMod; rw [h]; simp
theorem vMod_no2 {ds : List Int} {cs : List Con} {k : Nat} (hk : k < cs.length) (h : vCs (con0 cs k) ds.length = false) : vMod ds cs = false := by
  unfold vMod
  rw [anyB_iff.2 ⟨k, hk, by rw [vCon_vCs, h, Bool.and_false]; rfl⟩]
  simp
set_option maxHeartbeats 1000000 in
theorem validDomS_any (d : Int) (w : World) :
    Calls Tryz.prog 37 #[.int .i64 d] w fun e w' => e = .returned (.bool (inR d 0 63)) ∧ w = w' := by
  go_enter Tryz.func37, Tryz.ntmps37
  go_wp2_with fail
  refine (inRange_any _ _ _ _).mono ?_
  rintro e w' ⟨rfl, rfl⟩
  go_wp2
  go_ret
  exact ⟨rfl, rfl⟩
set_option maxRecDepth 100000 in
set_option maxHeartbeats 4000000 in
theorem validModelS_any (v : Value) (ds : List Int) (cs : List Con) (w : World) (hM : SMod w v ds cs) :
    Calls Tryz.prog 16 #[v] w (Ret (.bool (vMod ds cs)) w) := by
  obtain ⟨ve, vc, rfl, hE, hC⟩ := hM
  obtain ⟨Ae, ce, rfl, -, hle⟩ := hE.form
  obtain ⟨Ac, cc, rfl, -, hlc⟩ := hC.form
  obtain ⟨w0, hw0⟩ : ∃ w0, w0 = w.alloc (.cells #[.slice Ae ds.length ce, .slice Ac cs.length cc] 26) := ⟨_, rfl⟩
  have hx0 : Ext w w0 := by rw [hw0]; exact (Ext.refl w).alloc _
  have k0 : w0.cell? ⟨w.heap.size, 0, none⟩ = some (.slice Ae ds.length ce) := by rw [hw0]; go_simp
  have k1 : w0.cell? ⟨w.heap.size, 1, none⟩ = some (.slice Ac cs.length cc) := by rw [hw0]; go_simp
  have ks : w.heap.size < w0.heap.size := by rw [hw0]; simp
  have HX0 := hide hx0
  have K0 := hide k0
  have K1 := hide k1
  have hE0 := hide (hE.ext hx0)
  have hC0 := hide (hC.ext hx0)
  clear hE hC hx0
  go_enter Tryz.func16, Tryz.ntmps16
  go_wp2
  rw [← hw0]
  clear hw0
  go_loop [3] (fun i => ∃ k : Nat, i = .int .i64 k ∧ k ≤ ds.length ∧ ∀ j, j < k → inR (at0 ds j) 0 63 = true) (fun i => ds.length - (intOf i).toNat)
  case atStart => exact ⟨0, rfl, Nat.zero_le _, fun j hj => by omega⟩
  case round =>
    obtain ⟨k, rfl, hk, hall⟩ := hrel
    have HALL := hide hall
    clear hall
    by_cases hlt : k < ds.length
    · have hkI : (k : Int) < ds.length := by omega
      obtain ⟨b, off, rfl, hbl, f1⟩ := hE0.out.at_ hlt
      cases hq : inR (at0 ds k) 0 63 with
      | true =>
        have HQ := hide hq
        clear hq
        go_wp2_with (go_at_call 37; refine (validDomS_any _ _).mono ?_; rintro e w' ⟨rfl, rfl⟩; rw [HQ.out])
        go_round
        case rel => exact ⟨k + 1, by go_num, by omega, fun j hj => by
          by_cases e : j = k
          · subst e; exact HQ.out
          · exact HALL.out j (by omega)⟩
        case measure => simp [intOf]; omega
      | false =>
        have HQ := hide hq
        have HV := hide (vMod_no1 (cs := cs) (allR_no hlt hq))
        clear hq
        go_wp2_with (go_at_call 37; refine (validDomS_any _ _).mono ?_; rintro e w' ⟨rfl, rfl⟩; rw [HQ.out])
        go_ret
        exact Ret.mk (ret_b HV.out.symm) HX0.out
    · obtain rfl : k = ds.length := by omega
      have hkI : ¬ ((ds.length : Int) < ds.length) := by omega
      have HA := hide (allR_of HALL.out)
      go_wp2
      go_loopw [4] (fun i wr => ∃ k : Nat, i = .int .i64 k ∧ k ≤ cs.length ∧ Ext w0 wr ∧ ∀ j, j < k → (!vCs (con0 cs j) ds.length) = false) (fun i _ => cs.length - (intOf i).toNat)
      case atStart => exact ⟨0, rfl, Nat.zero_le _, Ext.refl _, fun j hj => by omega⟩
      case round =>
        obtain ⟨k, rfl, hk, hx, hno⟩ := hrel
        have HX := hide hx
        have HNO := hide hno
        have k0 := (hx.cells _ _ ks).trans K0.out
        have k1 := (hx.cells _ _ ks).trans K1.out
        have ksr := Nat.lt_of_lt_of_le ks hx.size
        clear hno
        by_cases hlt : k < cs.length
        · have hkI : (k : Int) < cs.length := by omega
          obtain ⟨b, off, rfl, hbl, vv, va, vr, f1, f2, f3, f4, f5, s1, s2, s3⟩ := (hC0.out.ext hx).at_ hlt
          obtain ⟨Av, cv, rfl, -, -⟩ := s1.form
          obtain ⟨Aa, ca, rfl, -, -⟩ := s2.form
          obtain ⟨Ar, cr, rfl, -, -⟩ := s3.form
          have S1 := hide s1
          have S2 := hide s2
          have S3 := hide s3
          clear s1 s2 s3 hx
          cases hq : vCs (con0 cs k) ds.length with
          | true =>
            have HQ := hide hq
            clear hq
            go_wp2
            refine wp_region_ext (by kernel_rfl) (by kernel_rfl) ?_
            iterate 8 (apply quiet_val; (focus rfl); (focus (intro w' hw'; have hk' := hw'.cells; go_simp; all_goals exact rfl)); simp only [Act.put, List.setIfInBounds_toArray, List.set_cons_succ, List.set_cons_zero])
            apply quiet_call; (focus rfl); (focus (intro w' hw'; go_simp; all_goals (first | exact rfl | (apply And.intro <;> exact rfl))))
            · exact fun w' hw' => Ret.quiet (validConstraintS_any (con0 cs k) _ _ _ ds.length _ (S1.out.ext hw') (S2.out.ext hw') (S3.out.ext hw') (by omega) (by omega)) hw'
            (simp only [Act.put, List.setIfInBounds_toArray, List.set_cons_succ, List.set_cons_zero])
            (apply quiet_val; (focus rfl); (focus (intro w' hw'; have hk' := hw'.cells; go_simp; all_goals exact rfl)); simp only [Act.put, List.setIfInBounds_toArray, List.set_cons_succ, List.set_cons_zero])
            refine wpQuiet_nil ?_
            intro w2 hx2
            have HX2 := hide (HX.out.trans hx2)
            clear hx2
            rw [HQ.out]
            go_wp2
            go_roundw
            case rel => exact ⟨k + 1, by go_num, by omega, HX2.out, upto_succ HNO.out (by rw [HQ.out]; rfl)⟩
            case measure => simp [intOf]; omega
          | false =>
            have HQ := hide hq
            have HV := hide (vMod_no2 hlt hq)
            clear hq
            go_wp2
            refine wp_region_ext (by kernel_rfl) (by kernel_rfl) ?_
            iterate 8 (apply quiet_val; (focus rfl); (focus (intro w' hw'; have hk' := hw'.cells; go_simp; all_goals exact rfl)); simp only [Act.put, List.setIfInBounds_toArray, List.set_cons_succ, List.set_cons_zero])
            apply quiet_call; (focus rfl); (focus (intro w' hw'; go_simp; all_goals (first | exact rfl | (apply And.intro <;> exact rfl))))
            · exact fun w' hw' => Ret.quiet (validConstraintS_any (con0 cs k) _ _ _ ds.length _ (S1.out.ext hw') (S2.out.ext hw') (S3.out.ext hw') (by omega) (by omega)) hw'
            (simp only [Act.put, List.setIfInBounds_toArray, List.set_cons_succ, List.set_cons_zero])
            (apply quiet_val; (focus rfl); (focus (intro w' hw'; have hk' := hw'.cells; go_simp; all_goals exact rfl)); simp only [Act.put, List.setIfInBounds_toArray, List.set_cons_succ, List.set_cons_zero])
            refine wpQuiet_nil ?_
            intro w2 hx2
            have HX2 := hide ((HX0.out.trans HX.out).trans hx2)
            clear hx2
            rw [HQ.out]
            go_wp2
            go_ret
            exact Ret.mk (ret_b HV.out.symm) HX2.out
        · obtain rfl : k = cs.length := by omega
          have hkI : ¬ ((cs.length : Int) < cs.length) := by omega
          have HV := hide (vMod_eq ds cs HA.out (anyB_false.2 HNO.out))
          cases hq : inR (ds.length : Int) 1 4 with
          | false =>
            have HV2 := hide (show vMod ds cs = false by rw [HV.out, hq]; rfl)
            have HQ := hide hq
            clear hq
            go_wp2_with (go_at_call 39; refine (inRange_any _ _ _ _).mono ?_; rintro e w' ⟨rfl, rfl⟩; rw [HQ.out])
            go_ret
            exact Ret.mk (ret_b HV2.out.symm) (HX0.out.trans HX.out)
          | true =>
            have HQ := hide hq
            cases hq2 : decide ((cs.length : Int) ≤ 6) with
            | true =>
              have HV2 := hide (show vMod ds cs = true by rw [HV.out, hq, decide_eq_true (show cs.length ≤ 6 by have := of_decide_eq_true hq2; omega)]; rfl)
              have hq3 : (cs.length : Int) ≤ 6 := of_decide_eq_true hq2
              clear hq
              go_wp2_with (go_at_call 39; refine (inRange_any _ _ _ _).mono ?_; rintro e w' ⟨rfl, rfl⟩; rw [HQ.out])
              go_ret
              exact Ret.mk (ret_b HV2.out.symm) (HX0.out.trans HX.out)
            | false =>
              have HV2 := hide (show vMod ds cs = false by rw [HV.out, hq, decide_eq_false (show ¬ cs.length ≤ 6 by have := of_decide_eq_false hq2; omega)]; rfl)
              have hq3 : ¬ (cs.length : Int) ≤ 6 := of_decide_eq_false hq2
              clear hq
              go_wp2_with (go_at_call 39; refine (inRange_any _ _ _ _).mono ?_; rintro e w' ⟨rfl, rfl⟩; rw [HQ.out])
              go_ret
              exact Ret.mk (ret_b HV2.out.symm) (HX0.out.trans HX.out)
end Go.Proofs.YtalgilgfoekioaaGreatDoor
/- Probing: the program's, and the reference's. -/
namespace Go.Proofs.YtalgilgfoekioaaGreatDoor
open Go.RowKit
attribute [local go_sem] evalOf

theorem probD_len (ds : List Int) (v a : Nat) : (probD ds v a).length = ds.length := by simp [probD]
theorem OwnRes.len {xs : List Int} {w w' : World} {A : Option Addr} {n c : Nat} (h : OwnRes xs w (.returned (.slice A n c)) w') : n = xs.length := by
  obtain ⟨A2, c2, h⟩ := h.form
  injection h
set_option maxRecDepth 100000 in
set_option maxHeartbeats 4000000 in
theorem probeS_any (v vd : Value) (D ds : List Int) (cs : List Con) (i a : Nat) (w : World) (hM : SMod w v D cs) (hD : SInts w vd ds) (hG : GoodD cs ds.length ds) (hi : i < ds.length) (ha : a < 6) (h4 : ds.length ≤ 4) :
    Calls Tryz.prog 72 #[v, vd, .int .i64 i, .int .i64 a] w (OwnRes (probL cs ds i a) w) := by
  obtain ⟨ve, vc, rfl, hE, hC⟩ := hM
  have HG := hide hG
  obtain ⟨Ae, ce, rfl, -, hle⟩ := hE.form
  obtain ⟨Ac, cc, rfl, -, hlc⟩ := hC.form
  obtain ⟨Ad, cd, rfl, -, hld⟩ := hD.form
  obtain ⟨w0, hw0⟩ : ∃ w0, w0 = w.alloc (.cells #[.slice Ae D.length ce, .slice Ac cs.length cc] 26) := ⟨_, rfl⟩
  have hx0 : Ext w w0 := by rw [hw0]; exact (Ext.refl w).alloc _
  have k0 : w0.cell? ⟨w.heap.size, 0, none⟩ = some (.slice Ae D.length ce) := by rw [hw0]; go_simp
  have k1 : w0.cell? ⟨w.heap.size, 1, none⟩ = some (.slice Ac cs.length cc) := by rw [hw0]; go_simp
  have ks : w.heap.size < w0.heap.size := by rw [hw0]; simp
  have HX0 := hide hx0
  have hEw := hide hE
  have hCw := hide hC
  have hD0 := hide (hD.ext hx0)
  have hiI : (i : Int) < ds.length := by omega
  clear hE hC hD hG hx0
  go_enter Tryz.func72, Tryz.ntmps72
  go_wp2_with fail
  rw [← hw0]
  clear hw0
  refine (copyInts_any _ ds _ hD0.out (by omega)).mono ?_
  rintro e w1 ⟨A1, c1, b1, m1, f1, rfl, hc1, hd1, hb1, ho1, hx1⟩
  obtain ⟨rfl, hr1, hm1, hf1⟩ := ho1 (by omega)
  have HR := hide hr1
  have HX1 := hide (HX0.out.trans hx1)
  have k0 := (hx1.cells _ _ ks).trans k0
  have k1 := (hx1.cells _ _ ks).trans k1
  have ks := Nat.lt_of_lt_of_le ks hx1.size
  have hdb := HG.out.2.1 i hi
  have fc := hr1.cell (i := i) (by omega)
  rw [hf1 i hi] at fc
  have fz := hr1.frozen i
  have hbl := hr1.lt
  obtain ⟨d, hd⟩ : ∃ d, d = at0 ds i := ⟨_, rfl⟩
  rw [← hd] at fc hdb
  have hpw := pow_bd ha
  have kp : IntKind.i64.wrap (2 ^ a) = 2 ^ a := IntWalk.i64_in _ (by omega)
  have kb := bits_and hdb.1 hdb.2 ha
  have HF1 := hide hf1
  have HDE := hide hd
  have hsb : w.heap.size ≠ b1 := by have : w0.heap.size ≤ b1 := hb1; have : w.heap.size < w0.heap.size := by rw [← show w0.heap.size = w0.heap.size from rfl]; have := HX0.out.size; omega
                                    omega
  clear hx1 ho1 hr1 hf1 hd
  go_wp2_with fail
  refine wp_region_ext_tail 10 (by kernel_rfl) (by kernel_rfl) ?_
  simp only [List.take_succ_cons, List.take_zero, List.drop_succ_cons, List.drop_zero]
  iterate 10 (apply quiet_val; (focus rfl); (focus (intro w' hw'; have hk' := hw'.cells; go_simp; all_goals exact rfl)); simp only [Act.put, List.setIfInBounds_toArray, List.set_cons_succ, List.set_cons_zero])
  refine wpQuiet_nil ?_
  intro w2 hx2
  have HX2 := hide hx2
  have fz := (hx2.frz _ _ hbl).trans fz
  have fc := (hx2.cells _ _ hbl).trans fc
  have k0 := (hx2.cells _ _ ks).trans k0
  have k1 := (hx2.cells _ _ ks).trans k1
  have ks := Nat.lt_of_lt_of_le ks hx2.size
  clear hx2
  try simp only [kp, kb]
  go_wp2_with fail
  obtain ⟨u, hu⟩ : ∃ u, u = w2.setCell ⟨b1, i, none⟩ (.int .i64 (andV d a)) := ⟨_, rfl⟩
  have HU := hide (show Ext w u by rw [hu]; exact (HX1.out.trans HX2.out).set (p := ⟨b1, i, none⟩) (by show w.heap.size ≤ b1; have := HX0.out.size; omega) _)
  have HRU := hide (show u.rowIs b1 3 m1 _ by rw [hu]; exact (HX2.out.row HR.out).set i _)
  have hlen : (probD ds i a).length = ds.length := probD_len ds i a
  have hPG : GoodD cs (probD ds i a).length (probD ds i a) := by rw [hlen]; exact HG.out.prob hi ha
  have HSP := hide (show SInts u (.slice (some ⟨b1, 0, none⟩) ds.length c1) (probD ds i a) by
    have := SInts.own (xs := probD ds i a) (A := some ⟨b1, 0, none⟩) (c := c1) (b := b1) (m := m1) (by rw [hlen]; exact hc1) (by rw [hlen]; exact hd1) (fun _ => ⟨rfl, HRU.out, by rw [hlen]; exact hm1, fun j hj => by
      rw [hlen] at hj
      show (if j = i then _ else f1 j) = _
      rw [probD, at0_set _ _ _ _ hi]
      by_cases e : j = i
      · subst e; rw [if_pos rfl, if_pos rfl, ← HDE.out]
      · rw [if_neg e, if_neg (fun h => e h.symm)]; exact HF1.out j hj⟩) hPG.i64
    rwa [hlen] at this)
  rw [← hu]
  clear hu
  refine (fixpointS_any _ _ D (probD ds i a) cs _ ⟨_, _, rfl, hEw.out.ext HU.out, hCw.out.ext HU.out⟩ HSP.out hPG (by rw [hlen]; exact h4) (by rw [hlen]; omega)).mono ?_
  rintro e w3 hres
  have HRES := hide (show OwnRes (probL cs ds i a) w e w3 from OwnRes.from hres HU.out)
  obtain ⟨A3, c3, b3, m3, f3, rfl, -⟩ := hres
  obtain ⟨L, hL⟩ : ∃ L, L = (propL cs (probD ds i a)).length := ⟨_, rfl⟩
  rw [← hL] at HRES ⊢
  clear hL
  go_wp2
  go_ret
  exact HRES.out
set_option maxRecDepth 100000 in
set_option maxHeartbeats 4000000 in
theorem limitedI_any (vd : Value) (ds : List Int) (i a : Nat) (w : World) (hD : SInts w vd ds) (hd : DomL ds) (hi : i < ds.length) (ha : a < 6) :
    Calls Tryz.prog 68 #[vd, .int .i64 i, .int .i64 (2 ^ a)] w (OwnRes (probD ds i a) w) := by
  have HDM := hide hd
  obtain ⟨Ad, cd, rfl, -, hld⟩ := hD.form
  have hD0 := hide hD
  have hiI : (i : Int) < ds.length := by omega
  clear hD hd
  go_enter Tryz.func68, Tryz.ntmps68
  go_wp2_with fail
  refine (copied_any _ ds _ hD0.out).mono ?_
  rintro e w1 ⟨A1, c1, b1, m1, f1, rfl, hc1, hd1, hb1, ho1, hx1⟩
  obtain ⟨rfl, hr1, hm1, hf1⟩ := ho1 (by omega)
  have HR := hide hr1
  have HX1 := hide hx1
  have hdb := HDM.out i hi
  have fc := hr1.cell (i := i) (by omega)
  rw [hf1 i hi] at fc
  have fz := hr1.frozen i
  obtain ⟨d, hd⟩ : ∃ d, d = at0 ds i := ⟨_, rfl⟩
  rw [← hd] at fc hdb
  have kb := bits_and hdb.1 hdb.2 ha
  have HF1 := hide hf1
  have HDE := hide hd
  clear hx1 ho1 hr1 hf1 hd
  have hlen : (probD ds i a).length = ds.length := probD_len ds i a
  have HE := hide (show OwnRes (probD ds i a) w (.returned (.slice (some ⟨b1, 0, none⟩) ds.length c1)) (w1.setCell ⟨b1, i, none⟩ (.int .i64 (andV d a))) from
    ⟨some ⟨b1, 0, none⟩, c1, b1, m1, _, by rw [hlen], by rw [hlen]; exact hc1, by rw [hlen]; exact hd1, hb1, fun _ => ⟨rfl, HR.out.set i _, by rw [hlen]; exact hm1, fun j hj => by
      rw [hlen] at hj
      show (if j = i then _ else f1 j) = _
      rw [probD, at0_set _ _ _ _ hi]
      by_cases e : j = i
      · subst e; rw [if_pos rfl, if_pos rfl, ← HDE.out]
      · rw [if_neg e, if_neg (fun h => e h.symm)]; exact HF1.out j hj⟩, HX1.out.set (p := ⟨b1, i, none⟩) hb1 _⟩)
  go_wp2
  go_ret
  exact HE.out
/-- A slice of its own that reads as xs. -/
def RS.ow (D : List Nat) (xs : List Int) (B : World) : RS := ⟨D, fun _ v W => OwnRes xs B (.returned v) W, fun _ _ _ _ h hx => h.grow hx⟩
set_option maxRecDepth 100000 in
set_option maxHeartbeats 4000000 in
theorem probeI_any (v vd : Value) (D ds : List Int) (cs : List Con) (i a : Nat) (w : World) (hM : SMod w v D cs) (hD : SInts w vd ds) (hG : GoodD cs ds.length ds) (hi : i < ds.length) (ha : a < 6) (h4 : ds.length ≤ 4) :
    Calls Tryz.prog 36 #[v, vd, .int .i64 i, .int .i64 a] w (OwnRes (probL cs ds i a) w) := by
  have hM0 := hide hM
  obtain ⟨ve, vc, rfl, hE, hC⟩ := hM
  have HG := hide hG
  obtain ⟨Ae, ce, rfl, -, hle⟩ := hE.form
  obtain ⟨Ac, cc, rfl, -, hlc⟩ := hC.form
  obtain ⟨Ad, cd, rfl, -, hld⟩ := hD.form
  obtain ⟨w0, hw0⟩ : ∃ w0, w0 = w.alloc (.cells #[.slice Ae D.length ce, .slice Ac cs.length cc] 26) := ⟨_, rfl⟩
  have hx0 : Ext w w0 := by rw [hw0]; exact (Ext.refl w).alloc _
  have k0 : w0.cell? ⟨w.heap.size, 0, none⟩ = some (.slice Ae D.length ce) := by rw [hw0]; go_simp
  have k1 : w0.cell? ⟨w.heap.size, 1, none⟩ = some (.slice Ac cs.length cc) := by rw [hw0]; go_simp
  have ks : w.heap.size < w0.heap.size := by rw [hw0]; simp
  have HX0 := hide hx0
  have hD0 := hide hD
  have hlen : (probD ds i a).length = ds.length := probD_len ds i a
  have hPG : GoodD cs (probD ds i a).length (probD ds i a) := by rw [hlen]; exact hG.prob hi ha
  have HPG := hide hPG
  have hpw := pow_bd ha
  have kp : IntKind.i64.wrap (2 ^ a) = 2 ^ a := IntWalk.i64_in _ (by omega)
  clear hE hC hD hG hx0 hPG
  go_enter Tryz.func36, Tryz.ntmps36
  go_wp2
  rw [← hw0]
  clear hw0
  refine wp_region_relT (n := 7) (ts := [7]) (sp := [RS.q [] (fun _ => .agg #[.slice Ae D.length ce, .slice Ac cs.length cc]), RS.q [] (fun _ => .slice Ad ds.length cd), RS.q [] (fun _ => .int .i64 i), RS.q [] (fun _ => .int .i64 a), RS.q [3] (fun _ => .int .i64 (2 ^ a)), RS.ow [1, 2, 4] (probD ds i a) w0, RS.ow [0, 5] (probL cs ds i a) w0])
    (fun W => Ext w0 W) (by kernel_rfl) (relOK (D := [[], [], [], [], [3], [1, 2, 4], [0, 5]]) rfl (by kernel_rfl) rfl) (by kernel_rfl) (fun W W' h hx => h.trans hx) (Ext.refl w0).drew ?steps ?ends
  case steps =>
    refine ⟨?_, ?_, ?_, ?_, ?_, ?_, ?_, trivial⟩
    · intro V τ W hC hf ht h0
      have s4 : τ 4 = .pointer (some ⟨w.heap.size, 0, none⟩) := h0 4 (by kernel_rfl)
      have k0 := (hC.cells _ _ ks).trans k0
      have k1 := (hC.cells _ _ ks).trans k1
      refine Does.val (w' := W) (v := .agg #[.slice Ae D.length ce, .slice Ac cs.length cc]) ?_ ⟨Ext.refl W, rfl⟩
      go_simp
    · intro V τ W hC hf ht h0
      have s1 : τ 1 = .slice Ad ds.length cd := h0 1 (by kernel_rfl)
      refine Does.val (w' := W) (v := .slice Ad ds.length cd) ?_ ⟨Ext.refl W, rfl⟩
      go_simp
    · intro V τ W hC hf ht h0
      have s2 : τ 2 = .int .i64 i := h0 2 (by kernel_rfl)
      refine Does.val (w' := W) (v := .int .i64 i) ?_ ⟨Ext.refl W, rfl⟩
      go_simp
    · intro V τ W hC hf ht h0
      have s3 : τ 3 = .int .i64 a := h0 3 (by kernel_rfl)
      refine Does.val (w' := W) (v := .int .i64 a) ?_ ⟨Ext.refl W, rfl⟩
      go_simp
    · intro V τ W hC hf ht h0
      have f3 : V 3 = .int .i64 a := hf 3 (by simp [RS.at_, RS.q])
      have s12 := (ht 3 (by simp [RS.at_, RS.q]) 12 rfl).trans f3
      refine Does.val (w' := W) (v := .int .i64 (2 ^ a)) ?_ ⟨Ext.refl W, rfl⟩
      go_simp
    · intro V τ W hC hf ht h0
      have f1 : V 1 = .slice Ad ds.length cd := hf 1 (by simp [RS.at_, RS.ow])
      have f2 : V 2 = .int .i64 i := hf 2 (by simp [RS.at_, RS.ow])
      have f4 : V 4 = .int .i64 (2 ^ a) := hf 4 (by simp [RS.at_, RS.ow])
      have s10 := (ht 1 (by simp [RS.at_, RS.ow]) 10 rfl).trans f1
      have s11 := (ht 2 (by simp [RS.at_, RS.ow]) 11 rfl).trans f2
      have s13 := (ht 4 (by simp [RS.at_, RS.ow]) 13 rfl).trans f4
      refine Does.call (w' := W) (f := 68) (args := #[.slice Ad ds.length cd, .int .i64 i, .int .i64 (2 ^ a)]) (by go_simp; all_goals (first | exact rfl | (apply And.intro <;> exact rfl))) ?_
      refine (limitedI_any _ ds i a _ (hD0.out.ext (HX0.out.trans hC)) HG.out.2.1 hi ha).mono ?_
      rintro e wa hres
      have hr2 := OwnRes.from hres hC
      obtain ⟨A3, c3, b3, m3, f3, rfl, -, -, -, -, hxa⟩ := hres
      exact ⟨_, rfl, hxa, hr2⟩
    · intro V τ W hC hf ht h0
      have f0 : V 0 = .agg #[.slice Ae D.length ce, .slice Ac cs.length cc] := hf 0 (by simp [RS.at_, RS.ow])
      have f5 : OwnRes (probD ds i a) w0 (.returned (V 5)) W := hf 5 (by simp [RS.at_, RS.ow])
      have s9 := (ht 0 (by simp [RS.at_, RS.ow]) 9 rfl).trans f0
      have s14 : τ 14 = V 5 := ht 5 (by simp [RS.at_, RS.ow]) 14 rfl
      have hS5 := f5.ints HPG.out.i64
      refine Does.call (w' := W) (f := 21) (args := #[.agg #[.slice Ae D.length ce, .slice Ac cs.length cc], V 5]) (by go_simp; all_goals (first | exact rfl | (apply And.intro <;> exact rfl))) ?_
      refine (propagate_any _ _ D (probD ds i a) cs _ (hM0.out.ext (HX0.out.trans hC)) hS5 HPG.out (by rw [hlen]; exact h4) (by rw [hlen]; omega)).mono ?_
      rintro e wa hres
      have hr2 := OwnRes.from hres hC
      obtain ⟨A3, c3, b3, m3, f3, rfl, -, -, -, -, hxa⟩ := hres
      exact ⟨_, rfl, hxa, hr2⟩
  case ends =>
    intro V W hC hf
    have hres : OwnRes (probL cs ds i a) w0 (.returned (V 6)) W := hf 6 (by omega)
    have HRES := hide (OwnRes.from hres HX0.out)
    obtain ⟨A3, c3, f6⟩ := hres.form
    have f0 : V 0 = .agg #[.slice Ae D.length ce, .slice Ac cs.length cc] := hf 0 (by omega)
    have f1 : V 1 = .slice Ad ds.length cd := hf 1 (by omega)
    have f2 : V 2 = .int .i64 i := hf 2 (by omega)
    have f3 : V 3 = .int .i64 a := hf 3 (by omega)
    have f4 : V 4 = .int .i64 (2 ^ a) := hf 4 (by omega)
    obtain ⟨A5, c5, f5⟩ := (show OwnRes (probD ds i a) w0 (.returned (V 5)) W from hf 5 (by omega)).form
    obtain ⟨L, hL⟩ : ∃ L, L = (probL cs ds i a).length := ⟨_, rfl⟩
    rw [f6, ← hL] at HRES
    rw [← hL] at f6
    clear hf hres hL
    simp only [List.take_succ_cons, List.take_zero, putAll, Act.put, List.setIfInBounds_toArray, List.set_cons_succ, List.set_cons_zero, Nat.reduceAdd, f0, f1, f2, f3, f4, f5, f6]
    simp only [nths, nth1]
    clear f0 f1 f2 f3 f4 f5 f6
    go_wp2
    go_ret
    exact HRES.out
end Go.Proofs.YtalgilgfoekioaaGreatDoor
/- Probe: the program's, and the reference's. -/
namespace Go.Proofs.YtalgilgfoekioaaGreatDoor
open Go.RowKit

def prbOk (ds : List Int) (cs : List Con) (i a : Int) : Bool := vMod ds cs && (inR i 0 (ds.length - 1) && inR a 0 5)
def prbV (ds : List Int) (cs : List Con) (i a : Int) : List Int := if prbOk ds cs i a = true then probL cs ds i.toNat a.toNat else []
theorem prbOk_of {ds : List Int} {cs : List Con} {i a : Int} (h : prbOk ds cs i a = true) : ∃ n m : Nat, i = n ∧ a = m ∧ n < ds.length ∧ m < 6 ∧ GoodD cs ds.length ds ∧ ds.length ≤ 4 ∧ prbV ds cs i a = probL cs ds n m := by
  have h0 := h
  simp only [prbOk, Bool.and_eq_true, inR, decide_eq_true_eq] at h
  obtain ⟨h1, ⟨h2, h3⟩, h4, h5⟩ := h
  obtain ⟨hG, hp, h6⟩ := vMod_good h1
  refine ⟨i.toNat, a.toNat, by omega, by omega, by omega, by omega, hG, h6, ?_⟩
  rw [prbV, if_pos h0]
theorem prbV_no {ds : List Int} {cs : List Con} {i a : Int} (h : prbOk ds cs i a = false) : prbV ds cs i a = [] := by rw [prbV, h]; rfl
theorem prbV_i64 (ds : List Int) (cs : List Con) (i a : Int) : ∀ j, j < (prbV ds cs i a).length → I64 (at0 (prbV ds cs i a) j) := by
  intro j hj
  cases h : prbOk ds cs i a with
  | false => rw [prbV_no h] at hj; simp at hj
  | true =>
    obtain ⟨n, m, rfl, rfl, hn, hm, hG, h4, e⟩ := prbOk_of h
    rw [e] at hj ⊢
    exact (propL_R (hG.prob hn hm) h4).good.i64 j hj
theorem prbV_len (ds : List Int) (cs : List Con) (i a : Int) : (prbV ds cs i a).length ≤ 4 := by
  cases h : prbOk ds cs i a with
  | false => rw [prbV_no h]; simp
  | true =>
    obtain ⟨n, m, rfl, rfl, hn, hm, hG, h4, e⟩ := prbOk_of h
    rw [e, show (probL cs ds n m).length = ds.length from (propL_R (hG.prob hn hm) h4).good.1]
    exact h4
end Go.Proofs.YtalgilgfoekioaaGreatDoor
/- Shaving: the program's walk. -/
namespace Go.Proofs.YtalgilgfoekioaaGreatDoor
open Go.RowKit
attribute [local go_sem] evalOf

/-- Block b holds xs at its head. -/
def RowS (W : World) (b m : Nat) (xs : List Int) : Prop := ∃ f, W.rowIs b 3 m f ∧ xs.length ≤ m ∧ ∀ j, j < xs.length → f j = .int .i64 (at0 xs j)
theorem RowS.ext {W W' : World} {b m : Nat} {xs : List Int} (h : RowS W b m xs) (hx : Ext W W') : RowS W' b m xs := by
  obtain ⟨f, h1, h2, h3⟩ := h
  exact ⟨f, hx.row h1, h2, h3⟩
theorem RowS.keep {S : Nat → Prop} {W W' : World} {b m : Nat} {xs : List Int} (h : RowS W b m xs) (hk : Keep S W W') (hb : S b) : RowS W' b m xs := by
  obtain ⟨f, h1, h2, h3⟩ := h
  exact ⟨f, hk.row hb h1, h2, h3⟩
theorem RowS.set {W : World} {b m : Nat} {xs : List Int} (h : RowS W b m xs) (i : Nat) (x : Int) (hi : i < xs.length) : RowS (W.setCell ⟨b, i, none⟩ (.int .i64 x)) b m (xs.set i x) := by
  obtain ⟨f, h1, h2, h3⟩ := h
  refine ⟨_, h1.set i _, by rw [List.length_set]; exact h2, fun j hj => ?_⟩
  rw [List.length_set] at hj
  show (if j = i then _ else f j) = _
  rw [at0_set _ _ _ _ hi]
  by_cases e : j = i
  · subst e; rw [if_pos rfl, if_pos rfl]
  · rw [if_neg e, if_neg (fun h => e h.symm)]; exact h3 j hj
theorem RowS.sints {W : World} {b m c : Nat} {xs : List Int} (h : RowS W b m xs) (hc : xs.length ≤ c) (h8 : xs.length * 8 ≤ 140737488355328) (hb : ∀ i, i < xs.length → I64 (at0 xs i)) : SInts W (.slice (some ⟨b, 0, none⟩) xs.length c) xs := by
  obtain ⟨f, h1, h2, h3⟩ := h
  exact SInts.own (b := b) (m := m) (f := f) hc h8 (fun _ => ⟨rfl, h1, h2, h3⟩) hb
theorem RowS.own {w W : World} {b m c : Nat} {xs : List Int} (h : RowS W b m xs) (hc : xs.length ≤ c) (h8 : xs.length * 8 ≤ 140737488355328) (hb : w.heap.size ≤ b) (hx : Ext w W) : OwnRes xs w (.returned (.slice (some ⟨b, 0, none⟩) xs.length c)) W := by
  obtain ⟨f, h1, h2, h3⟩ := h
  exact ⟨_, c, b, m, f, rfl, hc, h8, hb, fun _ => ⟨rfl, h1, h2, h3⟩, hx⟩
theorem shvI_succ_yes {cs : List Con} {v : Nat} {l ds : List Int} {k a : Nat} (ha : at0 l k = a) (h : hasI (probL cs (shvI cs v l ds k) v a) 0 = true) : shvI cs v l ds (k + 1) = (shvI cs v l ds k).set v (delV (at0 (shvI cs v l ds k) v) a) := by
  rw [shvI, ha, Int.toNat_natCast, if_pos h]
theorem shvI_succ_no {cs : List Con} {v : Nat} {l ds : List Int} {k a : Nat} (ha : at0 l k = a) (h : hasI (probL cs (shvI cs v l ds k) v a) 0 = false) : shvI cs v l ds (k + 1) = shvI cs v l ds k := by
  rw [shvI, ha, Int.toNat_natCast, h, if_neg (by simp)]
theorem probL_R2 {cs : List Con} {n : Nat} {ds : List Int} (h : GoodD cs n ds) (h4 : n ≤ 4) {v a : Nat} (hv : v < n) (ha : a < 6) : PropR cs n (probD ds v a) (probL cs ds v a) := propL_R (h.prob hv ha) h4
theorem probL_first2 {cs : List Con} {n : Nat} {ds : List Int} (h : GoodD cs n ds) (h4 : n ≤ 4) (h0 : 0 < n) {v a : Nat} (hv : v < n) (ha : a < 6) : (at0 (probL cs ds v a) 0 == 0) = hasI (probL cs ds v a) 0 := propL_first (h.prob hv ha) h4 h0
set_option maxRecDepth 100000 in
set_option maxHeartbeats 8000000 in
theorem shave1_any (Ae Ac : Option Addr) (ce cc bm : Nat) (v' : Value) (ds now : List Int) (cs : List Con) (w : World) (hm0 : w.cell? ⟨bm, 0, none⟩ = some (.slice Ae ds.length ce)) (hm1 : w.cell? ⟨bm, 1, none⟩ = some (.slice Ac cs.length cc)) (hbm : bm < w.heap.size)
    (hM : SMod w (.agg #[.slice Ae ds.length ce, .slice Ac cs.length cc]) ds cs) (hS : SInts w v' now) (hG : GoodD cs now.length now) (h4 : now.length ≤ 4) (h1 : 0 < now.length) :
    Calls Tryz.prog 34 #[v', .pointer (some ⟨bm, 0, none⟩)] w (OwnRes (shvP cs now) w) := by
  have hM0 := hide hM
  have hS0 := hide hS
  have M0 := hide hm0
  have M1 := hide hm1
  obtain ⟨n, hn⟩ : ∃ n, n = now.length := ⟨_, rfl⟩
  rw [← hn] at hG h4 h1
  have HN := hide hn
  have HPR := hide (propL_R hG h4)
  have HG2 := hide (show GoodD cs now.length now by rw [← hn]; exact hG)
  obtain ⟨An, cn, rfl, -, hln⟩ := hS.form
  clear hM hS hG hn
  go_enter Tryz.func34, Tryz.ntmps34
  go_wp2_with fail
  refine (propagate_any _ _ ds now cs _ hM0.out hS0.out HG2.out (by rw [← HN.out]; exact h4) (by rw [← HN.out]; exact h1)).mono ?_
  rintro e w1 ⟨A1, c1, b1, m1, f1, rfl, hc1, hd1, hb1, ho1, hx1⟩
  obtain ⟨p, hp⟩ : ∃ p, p = propL cs now := ⟨_, rfl⟩
  have HP := hide hp
  rw [← hp] at hc1 hd1 ho1 HPR ⊢
  have hpl : p.length = n := HPR.out.good.1
  rw [hpl] at hc1 hd1
  obtain ⟨rfl, hr1, hm1', hf1⟩ := ho1 (by omega)
  have HRS := hide (show RowS w1 b1 m1 p from ⟨f1, hr1, hm1', hf1⟩)
  have HX1 := hide hx1
  have hb1l := hr1.lt
  rw [hpl]
  clear hp ho1 hr1 hf1 hx1 hm0 hm1
  go_wp2
  go_loopw [12] (fun i wr => ∃ k : Nat, i = .int .i64 k ∧ k ≤ n ∧ Ext w wr ∧ b1 < wr.heap.size ∧ RowS wr b1 m1 (shvK cs p k)) (fun i _ => n - (intOf i).toNat)
  case atStart => exact ⟨0, rfl, Nat.zero_le _, HX1.out, hb1l, HRS.out⟩
  case round =>
    obtain ⟨k, rfl, hk, hx, hbw, hrow⟩ := hrel
    have HX := hide hx
    have HROW := hide hrow
    obtain ⟨q, hq⟩ : ∃ q, q = shvK cs p k := ⟨_, rfl⟩
    have HQ := hide hq
    have HGQ := hide (show GoodD cs n q by rw [hq]; exact (shvK_ok HPR.out.good k hk).1)
    rw [← hq] at HROW
    clear hx hrow hq
    by_cases hlt : k < n
    · have hkI : (k : Int) < n := by omega
      have hql : q.length = n := HGQ.out.1
      obtain ⟨f, hr, hm', hf⟩ := HROW.out
      have fk := hr.cell (i := k) (by omega)
      rw [hf k (by omega)] at fk
      have hdb := HGQ.out.2.1 k (by omega)
      obtain ⟨d, hd⟩ : ∃ d, d = at0 q k := ⟨_, rfl⟩
      rw [← hd] at fk hdb
      have HD := hide hd
      have hdl := domL_len d
      clear hr hf hd hql
      go_wp2_with fail
      refine (valuesOf_any d _ hdb.1 (by omega)).mono ?_
      rintro e w2 ⟨A2, c2, b2, m2, f2, rfl, hc2, hd2, hb2, ho2, hx2⟩
      have HO2 := hide ho2
      have HX2 := hide (HX.out.trans hx2)
      have HROW2 := hide (HROW.out.ext hx2)
      have hb2w : b1 < w2.heap.size := Nat.lt_of_lt_of_le hbw hx2.size
      have hb12 : b2 ≠ b1 := by omega
      clear ho2 hx2 fk
      go_wp2_with fail
      go_loopw [21] (fun i wr2 => ∃ t : Nat, i = .int .i64 t ∧ t ≤ (domL d).length ∧ Ext w wr2 ∧ RowS wr2 b1 m1 (shvI cs k (domL d) q t) ∧ Keep (fun j => j ≠ b1) w2 wr2) (fun i _ => (domL d).length - (intOf i).toNat)
      case atStart => exact ⟨0, rfl, Nat.zero_le _, HX2.out, HROW2.out, Keep.refl _ _⟩
      case round =>
        obtain ⟨t, rfl, ht, hxt, hrt, hkt⟩ := hrel
        have HXT := hide hxt
        have HKT := hide hkt
        obtain ⟨r, hr⟩ : ∃ r, r = shvI cs k (domL d) q t := ⟨_, rfl⟩
        have HRR := hide hr
        have HGR := hide (show GoodD cs n r by rw [hr]; exact (shvI_ok HGQ.out hlt d t ht).1)
        rw [← hr] at hrt
        have HRT := hide hrt
        clear hr hrt
        by_cases htl : t < (domL d).length
        · have htI : (t : Int) < (domL d).length := by omega
          obtain ⟨rfl, hr2, hm2', hf2⟩ := HO2.out (by omega)
          obtain ⟨a, ha, ha6⟩ := domL_val d htl
          have fa := (hkt.row hb12 hr2).cell (i := t) (by omega)
          rw [hf2 t htl, ha] at fa
          have hb2t := (hkt.row hb12 hr2).lt
          have HA := hide ha
          have hrl : r.length = n := HGR.out.1
          have HSR := hide (show SInts _ (.slice (some ⟨b1, 0, none⟩) n c1) r by
            have := HRT.out.sints (c := c1) (by omega) (by omega) HGR.out.i64
            rwa [hrl] at this)
          have g0 := (hxt.cells _ _ hbm).trans M0.out
          have g1 := (hxt.cells _ _ hbm).trans M1.out
          have HF := hide (probL_first2 HGR.out h4 h1 hlt ha6)
          have HPL := hide (probL_R2 HGR.out h4 hlt ha6).good.1
          have HRG := hide (show GoodD cs r.length r by rw [hrl]; exact HGR.out)
          clear hxt hkt hr2 hf2 ha
          go_wp2_with fail
          refine (probeI_any _ _ ds r cs k a _ (hM0.out.ext HXT.out) HSR.out HRG.out (by rw [hrl]; exact hlt) ha6 (by rw [hrl]; exact h4)).mono ?_
          rintro e w3 ⟨A3, c3, b3, m3, f3, rfl, hc3, hd3, hb3, ho3, hx3⟩
          have hl3 := HPL.out
          obtain ⟨rfl, hr3, hm3', hf3⟩ := ho3 (by omega)
          have fc := hr3.cell (i := 0) (by omega)
          rw [hf3 0 (by omega)] at fc
          obtain ⟨z, hz⟩ : ∃ z, z = at0 (probL cs r k a) 0 := ⟨_, rfl⟩
          have HF2 := hide (show (z == 0) = hasI (probL cs r k a) 0 by rw [hz]; exact HF.out)
          rw [← hz] at fc
          have HX3 := hide (HXT.out.trans hx3)
          have HRT3 := hide (HRT.out.ext hx3)
          have HKT3 := hide (HKT.out.ext hx3)
          have fa := (hx3.cells _ _ hb2t).trans fa
          rw [hl3]
          clear hz hr3 hf3 ho3 hl3 hx3 g0 g1
          cases hzz : (z == 0) with
          | false =>
            have HNX := hide (shvI_succ_no (cs := cs) (v := k) (l := domL d) (ds := q) (k := t) HA.out (by rw [← HRR.out, ← HF2.out]; exact hzz))
            go_wp2
            go_roundw
            case rel => exact ⟨t + 1, by go_num, by omega, HX3.out, by rw [HNX.out, ← HRR.out]; exact HRT3.out, HKT3.out⟩
            case measure => simp [intOf]; omega
          | true =>
            have HNX := hide (shvI_succ_yes (cs := cs) (v := k) (l := domL d) (ds := q) (k := t) HA.out (by rw [← HRR.out, ← HF2.out]; exact hzz))
            obtain ⟨f5, hr5, hm5, hf5⟩ := HRT3.out
            have fk := hr5.cell (i := k) (by omega)
            rw [hf5 k (by omega)] at fk
            have fz := hr5.frozen k
            have hbl := hr5.lt
            have hyb := HGR.out.2.1 k (by omega)
            obtain ⟨y, hy⟩ : ∃ y, y = at0 r k := ⟨_, rfl⟩
            rw [← hy] at fk hyb
            have HY := hide hy
            have hpw := pow_bd ha6
            have kp : IntKind.i64.wrap (2 ^ a) = 2 ^ a := IntWalk.i64_in _ (by omega)
            have kb := bits_andNot hyb.1 hyb.2 ha6
            have hkr : k < r.length := by omega
            clear hr5 hf5 hy
            go_wp2
            refine wp_region_ext_tail 8 (by kernel_rfl) (by kernel_rfl) ?_
            simp only [List.take_succ_cons, List.take_zero, List.drop_succ_cons, List.drop_zero]
            iterate 8 (apply quiet_val; (focus rfl); (focus (intro w' hw'; have hk' := hw'.cells; go_simp; all_goals exact rfl)); simp only [Act.put, List.setIfInBounds_toArray, List.set_cons_succ, List.set_cons_zero])
            refine wpQuiet_nil ?_
            intro w5 hx5
            have HX5 := hide (HX3.out.trans hx5)
            have HRT5 := hide (HRT3.out.ext hx5)
            have HKT5 := hide (HKT3.out.ext hx5)
            have fz := (hx5.frz _ _ hbl).trans fz
            have fk := (hx5.cells _ _ hbl).trans fk
            clear hx5 fa fc
            try simp only [kp, kb]
            go_wp2
            go_roundw
            case rel => exact ⟨t + 1, by go_num, by omega, HX5.out.set (p := ⟨b1, k, none⟩) hb1 _, by rw [HNX.out, ← HRR.out, ← HY.out]; exact HRT5.out.set k _ hkr, HKT5.out.set (fun _ hh => hh rfl) _⟩
            case measure => simp [intOf]; omega
        · obtain rfl : t = (domL d).length := by omega
          have htI : ¬ (((domL d).length : Int) < (domL d).length) := by omega
          have HNX := hide (show shvK cs p (k + 1) = r by rw [shvK, ← HQ.out, ← HD.out, HRR.out])
          have hbt := Nat.lt_of_lt_of_le hb2w HKT.out.size
          go_wp2
          go_roundw
          case rel => exact ⟨k + 1, by go_num, by omega, HXT.out, hbt, by rw [HNX.out]; exact HRT.out⟩
          case measure => simp [intOf]; omega
    · obtain rfl : k = n := by omega
      have hkI : ¬ ((k : Int) < k) := by omega
      have HE := hide (show OwnRes (shvP cs now) w (.returned (.slice (some ⟨b1, 0, none⟩) k c1)) wr by
        have hql : q.length = k := HGQ.out.1
        have e : shvP cs now = q := by rw [HQ.out, shvP, shvL, ← HP.out, hpl]
        rw [e]
        have := HROW.out.own (w := w) (c := c1) (by omega) (by omega) hb1 HX.out
        rwa [hql] at this)
      go_wp2
      go_ret
      exact HE.out
set_option maxRecDepth 100000 in
set_option maxHeartbeats 8000000 in
theorem shaveI_any (v : Value) (ds : List Int) (cs : List Con) (w : World) (hM : SMod w v ds cs) (hG : GoodD cs ds.length ds) (h4 : ds.length ≤ 4) (h1 : 0 < ds.length) :
    Calls Tryz.prog 15 #[v] w (OwnRes (shaveL cs ds) w) := by
  have hM0 := hide hM
  obtain ⟨ve, vc, rfl, hE, hC⟩ := hM
  have HG := hide hG
  obtain ⟨Ae, ce, rfl, -, hle⟩ := hE.form
  obtain ⟨Ac, cc, rfl, -, hlc⟩ := hC.form
  obtain ⟨w0, hw0⟩ : ∃ w0, w0 = w.alloc (.cells #[.slice Ae ds.length ce, .slice Ac cs.length cc] 26) := ⟨_, rfl⟩
  have hx0 : Ext w w0 := by rw [hw0]; exact (Ext.refl w).alloc _
  have k0 : w0.cell? ⟨w.heap.size, 0, none⟩ = some (.slice Ae ds.length ce) := by rw [hw0]; go_simp
  have k1 : w0.cell? ⟨w.heap.size, 1, none⟩ = some (.slice Ac cs.length cc) := by rw [hw0]; go_simp
  have ks : w.heap.size < w0.heap.size := by rw [hw0]; simp
  have HX0 := hide hx0
  have K0 := hide k0
  have K1 := hide k1
  have hE0 := hide (hE.ext hx0)
  clear hE hC hx0 hG
  go_enter Tryz.func15, Tryz.ntmps15
  go_wp2_with fail
  rw [← hw0]
  clear hw0
  refine (fixpointC_any _ ds 34 #[.pointer (some ⟨w.heap.size, 0, none⟩)] (shvP cs) (GoodD cs ds.length) _ hE0.out HG.out (shvP_ok h4) h4 h1 (fun args W => callFunc_body Tryz.func34 (by kernel_rfl) (by kernel_rfl) args W)
    (hide fun now v' W hW hS hgn => (shave1_any Ae Ac ce cc w.heap.size v' ds now cs W ((hW.cells _ _ ks).trans K0.out) ((hW.cells _ _ ks).trans K1.out) (Nat.lt_of_lt_of_le ks hW.size) (hM0.out.ext (HX0.out.trans hW)) hS (by rw [hgn.1]; exact hgn) (by rw [hgn.1]; exact h4) (by rw [hgn.1]; exact h1)).mono (fun _ _ h => .inl h))).mono ?_
  rintro e w2 hres
  have HRES := hide (show OwnRes (shaveL cs ds) w e w2 from OwnRes.from hres HX0.out)
  obtain ⟨A3, c3, b3, m3, f3, rfl, -⟩ := hres
  obtain ⟨L, hL⟩ : ∃ L, L = (fixL (shvP cs) 300 ds).length := ⟨_, rfl⟩
  rw [← hL]
  have HRES := hide (show OwnRes (shaveL cs ds) w (.returned (.slice A3 L c3)) w2 by rw [hL]; exact HRES.out)
  clear hL
  go_wp2
  go_ret
  exact HRES.out
def shvV (ds : List Int) (cs : List Con) : List Int := if vMod ds cs = true then shaveL cs ds else []
theorem shaveL_good {cs : List Con} {n : Nat} {ds : List Int} (h : GoodD cs n ds) (h4 : n ≤ 4) : GoodD cs n (shaveL cs ds) := by
  have hsum : sumL ds < 300 := by have := (sumL_bd ds h.2.1).2; have := h.1; omega
  obtain ⟨i, hg, hc⟩ := fixL_orbit (shvP_ok (cs := cs) h4) 300 ds h hsum
  rcases hc with ⟨-, hy⟩ | ⟨-, -, hy⟩
  · unfold shaveL; rw [hy]; exact h.zer
  · unfold shaveL; rw [hy]; exact hg
theorem shvV_i64 (ds : List Int) (cs : List Con) : ∀ j, j < (shvV ds cs).length → I64 (at0 (shvV ds cs) j) := by
  intro j hj
  unfold shvV at hj ⊢
  split at hj
  · rename_i h
    obtain ⟨hG, hp, h4⟩ := vMod_good h
    rw [if_pos h]
    exact (shaveL_good hG h4).i64 j hj
  · simp at hj
theorem shvV_len (ds : List Int) (cs : List Con) : (shvV ds cs).length ≤ 4 := by
  unfold shvV
  split
  · rename_i h
    obtain ⟨hG, hp, h4⟩ := vMod_good h
    rw [(shaveL_good hG h4).1]
    exact h4
  · simp
end Go.Proofs.YtalgilgfoekioaaGreatDoor
