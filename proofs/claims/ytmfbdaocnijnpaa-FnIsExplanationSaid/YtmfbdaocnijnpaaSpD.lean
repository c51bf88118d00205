/- validConstraint of the reference: kind by kind. -/
import Derived.Test.YtmfbdaocnijnpaaSpZ
import Derived.Test.YtmfbdaocnijnpaaFitK
import Derived.Test.YtmfbdaocnijnpaaPrpZ
namespace Go.Proofs.Ytmfbdaocnijnpaa
open Go.RowKit

/-- A constraint is valid for n variables: as the reference has it. -/
def vCs (c : Con) (n : Int) : Bool := inR c.vars.length 1 n && (allR c.vars 0 (n - 1) && (dst c.vars && fitB c.kk c.vars c.args c.bound c.rows))
theorem vCon_vCs (c : Con) (n : Int) : vCon c n = (inR n 1 4 && vCs c n) := rfl
set_option maxRecDepth 100000 in
set_option maxHeartbeats 8000000 in
theorem vcs_1 (vv va vr : Value) (vars args : List Int) (b : Int) (rows : List (List Int)) (n : Int) (w : World) (hV : SInts w vv vars) (hA : SInts w va args) (hR : SRows w vr rows) (hn0 : 0 ≤ n) (hn1 : n ≤ 1000000000000000) (h1 : inR vars.length 1 n = true) (h2 : allR vars 0 (n - 1) = true) (h3 : dst vars = true) :
    Calls Try.prog 26 #[.agg #[.int .i64 1, vv, va, .int .i64 b, vr], .int .i64 n] w (Ret (.bool (fitB 1 vars args b rows)) w) := by
  obtain ⟨Av, cv, rfl, -, hlv⟩ := hV.form
  obtain ⟨Aa, ca, rfl, -, hla⟩ := hA.form
  obtain ⟨Ar, cr, rfl, -, hlr⟩ := hR.form
  obtain ⟨w0, hw0⟩ : ∃ w0, w0 = w.alloc (.cells #[.int .i64 1, .slice Av vars.length cv, .slice Aa args.length ca, .int .i64 b, .slice Ar rows.length cr] 26) := ⟨_, rfl⟩
  have hx0 : Ext w w0 := by rw [hw0]; exact (Ext.refl w).alloc _
  have k0 : w0.cell? ⟨w.heap.size, 0, none⟩ = some (.int .i64 1) := by rw [hw0]; go_simp
  have k1 : w0.cell? ⟨w.heap.size, 1, none⟩ = some (.slice Av vars.length cv) := by rw [hw0]; go_simp
  have k2 : w0.cell? ⟨w.heap.size, 2, none⟩ = some (.slice Aa args.length ca) := by rw [hw0]; go_simp
  have k3 : w0.cell? ⟨w.heap.size, 3, none⟩ = some (.int .i64 b) := by rw [hw0]; go_simp
  have k4 : w0.cell? ⟨w.heap.size, 4, none⟩ = some (.slice Ar rows.length cr) := by rw [hw0]; go_simp
  have ks : w.heap.size < w0.heap.size := by rw [hw0]; simp
  have HX0 := hide hx0
  have hV0 := hide (hV.ext hx0)
  have hA0 := hide (hA.ext hx0)
  have hR0 := hide (hR.ext hx0)
  clear hx0 hV hA hR
  have H1 := hide h1
  have H2 := hide h2
  have H3 := hide h3
  have HF := hide (show fitB 1 vars args b rows = (((args.length : Int) == vars.length) && (allR args (-9) 9 && (inR b (-999) 999 && ((rows.length : Int) == 0)))) from by rw [show fitB 1 vars args b rows = (argsB args vars.length (-9) 9 && (inR b (-999) 999 && ((rows.length : Int) == 0))) from rfl, argsB, Bool.and_assoc])
  clear h1 h2 h3
  go_enter Try.func26, Try.ntmps26
  go_wp2_with fail
  rw [← hw0]
  clear hw0
  refine (inRange_any _ _ _ _).mono ?_
  rintro e w' ⟨rfl, rfl⟩
  rw [H1.out]
  go_wp2_with fail
  refine (allInRange_any _ vars 0 (n - 1) _ hV0.out).mono ?_
  rintro e w' ⟨rfl, rfl⟩
  rw [H2.out]
  go_wp2_with fail
  refine (distinctS_any _ vars _ hV0.out).mono ?_
  rintro e w2 ⟨rfl, hx2⟩
  rw [H3.out]
  have b0 := (hx2.cells _ _ ks).trans k0
  have b1 := (hx2.cells _ _ ks).trans k1
  have b2 := (hx2.cells _ _ ks).trans k2
  have b3 := (hx2.cells _ _ ks).trans k3
  have b4 := (hx2.cells _ _ ks).trans k4
  have hz := Nat.lt_of_lt_of_le ks hx2.size
  have HX2 := hide hx2
  clear hx2 k0 k1 k2 k3 k4
  cases hq : ((args.length : Int) == vars.length) with
  | false =>
    have HQ4 := hide (show fitB 1 vars args b rows = false by rw [HF.out, hq]; rfl)
    go_wp2_with fail
    go_ret
    exact Ret.mk (ret_b HQ4.out.symm) (HX0.out.trans HX2.out)
  | true =>
    have HQ4 := hide (show fitB 1 vars args b rows = (allR args (-9) 9 && (inR b (-999) 999 && ((rows.length : Int) == 0))) by rw [HF.out, hq]; rfl)
    go_wp2_with fail
    refine (allInRange_any _ args (-9) 9 _ (hA0.out.ext HX2.out)).mono ?_
    rintro e w' ⟨rfl, rfl⟩
    cases hq : allR args (-9) 9 with
    | false =>
      have HQ3 := hide (show fitB 1 vars args b rows = false by rw [HQ4.out, hq]; rfl)
      clear hq
      go_wp2_with fail
      go_ret
      exact Ret.mk (ret_b HQ3.out.symm) (HX0.out.trans HX2.out)
    | true =>
      have HQ3 := hide (show fitB 1 vars args b rows = (inR b (-999) 999 && ((rows.length : Int) == 0)) by rw [HQ4.out, hq]; rfl)
      clear hq
      go_wp2_with fail
      refine (inRange_any _ _ _ _).mono ?_
      rintro e w' ⟨rfl, rfl⟩
      cases hq : inR b (-999) 999 with
      | false =>
        have HQ2 := hide (show fitB 1 vars args b rows = false by rw [HQ3.out, hq]; rfl)
        clear hq
        go_wp2_with fail
        go_ret
        exact Ret.mk (ret_b HQ2.out.symm) (HX0.out.trans HX2.out)
      | true =>
        have HQ2 := hide (show fitB 1 vars args b rows = ((rows.length : Int) == 0) by rw [HQ3.out, hq]; rfl)
        clear hq
        go_wp2_with fail
        go_ret
        exact Ret.mk (ret_b HQ2.out.symm) (HX0.out.trans HX2.out)
set_option maxRecDepth 100000 in
set_option maxHeartbeats 8000000 in
theorem vcs_2 (vv va vr : Value) (vars args : List Int) (b : Int) (rows : List (List Int)) (n : Int) (w : World) (hV : SInts w vv vars) (hA : SInts w va args) (hR : SRows w vr rows) (hn0 : 0 ≤ n) (hn1 : n ≤ 1000000000000000) (h1 : inR vars.length 1 n = true) (h2 : allR vars 0 (n - 1) = true) (h3 : dst vars = true) :
    Calls Try.prog 26 #[.agg #[.int .i64 2, vv, va, .int .i64 b, vr], .int .i64 n] w (Ret (.bool (fitB 2 vars args b rows)) w) := by
  obtain ⟨Av, cv, rfl, -, hlv⟩ := hV.form
  obtain ⟨Aa, ca, rfl, -, hla⟩ := hA.form
  obtain ⟨Ar, cr, rfl, -, hlr⟩ := hR.form
  obtain ⟨w0, hw0⟩ : ∃ w0, w0 = w.alloc (.cells #[.int .i64 2, .slice Av vars.length cv, .slice Aa args.length ca, .int .i64 b, .slice Ar rows.length cr] 26) := ⟨_, rfl⟩
  have hx0 : Ext w w0 := by rw [hw0]; exact (Ext.refl w).alloc _
  have k0 : w0.cell? ⟨w.heap.size, 0, none⟩ = some (.int .i64 2) := by rw [hw0]; go_simp
  have k1 : w0.cell? ⟨w.heap.size, 1, none⟩ = some (.slice Av vars.length cv) := by rw [hw0]; go_simp
  have k2 : w0.cell? ⟨w.heap.size, 2, none⟩ = some (.slice Aa args.length ca) := by rw [hw0]; go_simp
  have k3 : w0.cell? ⟨w.heap.size, 3, none⟩ = some (.int .i64 b) := by rw [hw0]; go_simp
  have k4 : w0.cell? ⟨w.heap.size, 4, none⟩ = some (.slice Ar rows.length cr) := by rw [hw0]; go_simp
  have ks : w.heap.size < w0.heap.size := by rw [hw0]; simp
  have HX0 := hide hx0
  have hV0 := hide (hV.ext hx0)
  have hA0 := hide (hA.ext hx0)
  have hR0 := hide (hR.ext hx0)
  clear hx0 hV hA hR
  have H1 := hide h1
  have H2 := hide h2
  have H3 := hide h3
  have HF := hide (show fitB 2 vars args b rows = (((vars.length : Int) == 2) && (((args.length : Int) == 1) && (allR args (-9) 9 && ((b == 0) && ((rows.length : Int) == 0))))) from by rw [show fitB 2 vars args b rows = (((vars.length : Int) == 2) && (argsB args 1 (-9) 9 && ((b == 0) && ((rows.length : Int) == 0)))) from rfl, argsB, Bool.and_assoc])
  clear h1 h2 h3
  go_enter Try.func26, Try.ntmps26
  go_wp2_with fail
  rw [← hw0]
  clear hw0
  refine (inRange_any _ _ _ _).mono ?_
  rintro e w' ⟨rfl, rfl⟩
  rw [H1.out]
  go_wp2_with fail
  refine (allInRange_any _ vars 0 (n - 1) _ hV0.out).mono ?_
  rintro e w' ⟨rfl, rfl⟩
  rw [H2.out]
  go_wp2_with fail
  refine (distinctS_any _ vars _ hV0.out).mono ?_
  rintro e w2 ⟨rfl, hx2⟩
  rw [H3.out]
  have b0 := (hx2.cells _ _ ks).trans k0
  have b1 := (hx2.cells _ _ ks).trans k1
  have b2 := (hx2.cells _ _ ks).trans k2
  have b3 := (hx2.cells _ _ ks).trans k3
  have b4 := (hx2.cells _ _ ks).trans k4
  have hz := Nat.lt_of_lt_of_le ks hx2.size
  have HX2 := hide hx2
  clear hx2 k0 k1 k2 k3 k4
  cases hq : ((vars.length : Int) == 2) with
  | false =>
    have HQ5 := hide (show fitB 2 vars args b rows = false by rw [HF.out, hq]; rfl)
    go_wp2_with fail
    go_ret
    exact Ret.mk (ret_b HQ5.out.symm) (HX0.out.trans HX2.out)
  | true =>
    have HQ5 := hide (show fitB 2 vars args b rows = (((args.length : Int) == 1) && (allR args (-9) 9 && ((b == 0) && ((rows.length : Int) == 0)))) by rw [HF.out, hq]; rfl)
    cases hq : ((args.length : Int) == 1) with
    | false =>
      have HQ4 := hide (show fitB 2 vars args b rows = false by rw [HQ5.out, hq]; rfl)
      go_wp2_with fail
      go_ret
      exact Ret.mk (ret_b HQ4.out.symm) (HX0.out.trans HX2.out)
    | true =>
      have HQ4 := hide (show fitB 2 vars args b rows = (allR args (-9) 9 && ((b == 0) && ((rows.length : Int) == 0))) by rw [HQ5.out, hq]; rfl)
      go_wp2_with fail
      refine (allInRange_any _ args (-9) 9 _ (hA0.out.ext HX2.out)).mono ?_
      rintro e w' ⟨rfl, rfl⟩
      cases hq : allR args (-9) 9 with
      | false =>
        have HQ3 := hide (show fitB 2 vars args b rows = false by rw [HQ4.out, hq]; rfl)
        clear hq
        go_wp2_with fail
        go_ret
        exact Ret.mk (ret_b HQ3.out.symm) (HX0.out.trans HX2.out)
      | true =>
        have HQ3 := hide (show fitB 2 vars args b rows = ((b == 0) && ((rows.length : Int) == 0)) by rw [HQ4.out, hq]; rfl)
        clear hq
        cases hq : (b == 0) with
        | false =>
          have HQ2 := hide (show fitB 2 vars args b rows = false by rw [HQ3.out, hq]; rfl)
          go_wp2_with fail
          go_ret
          exact Ret.mk (ret_b HQ2.out.symm) (HX0.out.trans HX2.out)
        | true =>
          have HQ2 := hide (show fitB 2 vars args b rows = ((rows.length : Int) == 0) by rw [HQ3.out, hq]; rfl)
          go_wp2_with fail
          go_ret
          exact Ret.mk (ret_b HQ2.out.symm) (HX0.out.trans HX2.out)
set_option maxRecDepth 100000 in
set_option maxHeartbeats 8000000 in
theorem vcs_3 (vv va vr : Value) (vars args : List Int) (b : Int) (rows : List (List Int)) (n : Int) (w : World) (hV : SInts w vv vars) (hA : SInts w va args) (hR : SRows w vr rows) (hn0 : 0 ≤ n) (hn1 : n ≤ 1000000000000000) (h1 : inR vars.length 1 n = true) (h2 : allR vars 0 (n - 1) = true) (h3 : dst vars = true) :
    Calls Try.prog 26 #[.agg #[.int .i64 3, vv, va, .int .i64 b, vr], .int .i64 n] w (Ret (.bool (fitB 3 vars args b rows)) w) := by
  obtain ⟨Av, cv, rfl, -, hlv⟩ := hV.form
  obtain ⟨Aa, ca, rfl, -, hla⟩ := hA.form
  obtain ⟨Ar, cr, rfl, -, hlr⟩ := hR.form
  obtain ⟨w0, hw0⟩ : ∃ w0, w0 = w.alloc (.cells #[.int .i64 3, .slice Av vars.length cv, .slice Aa args.length ca, .int .i64 b, .slice Ar rows.length cr] 26) := ⟨_, rfl⟩
  have hx0 : Ext w w0 := by rw [hw0]; exact (Ext.refl w).alloc _
  have k0 : w0.cell? ⟨w.heap.size, 0, none⟩ = some (.int .i64 3) := by rw [hw0]; go_simp
  have k1 : w0.cell? ⟨w.heap.size, 1, none⟩ = some (.slice Av vars.length cv) := by rw [hw0]; go_simp
  have k2 : w0.cell? ⟨w.heap.size, 2, none⟩ = some (.slice Aa args.length ca) := by rw [hw0]; go_simp
  have k3 : w0.cell? ⟨w.heap.size, 3, none⟩ = some (.int .i64 b) := by rw [hw0]; go_simp
  have k4 : w0.cell? ⟨w.heap.size, 4, none⟩ = some (.slice Ar rows.length cr) := by rw [hw0]; go_simp
  have ks : w.heap.size < w0.heap.size := by rw [hw0]; simp
  have HX0 := hide hx0
  have hV0 := hide (hV.ext hx0)
  have hA0 := hide (hA.ext hx0)
  have hR0 := hide (hR.ext hx0)
  clear hx0 hV hA hR
  have H1 := hide h1
  have H2 := hide h2
  have H3 := hide h3
  have HF := hide (show fitB 3 vars args b rows = (((args.length : Int) == 0) && ((b == 0) && ((rows.length : Int) == 0))) from rfl)
  clear h1 h2 h3
  go_enter Try.func26, Try.ntmps26
  go_wp2_with fail
  rw [← hw0]
  clear hw0
  refine (inRange_any _ _ _ _).mono ?_
  rintro e w' ⟨rfl, rfl⟩
  rw [H1.out]
  go_wp2_with fail
  refine (allInRange_any _ vars 0 (n - 1) _ hV0.out).mono ?_
  rintro e w' ⟨rfl, rfl⟩
  rw [H2.out]
  go_wp2_with fail
  refine (distinctS_any _ vars _ hV0.out).mono ?_
  rintro e w2 ⟨rfl, hx2⟩
  rw [H3.out]
  have b0 := (hx2.cells _ _ ks).trans k0
  have b1 := (hx2.cells _ _ ks).trans k1
  have b2 := (hx2.cells _ _ ks).trans k2
  have b3 := (hx2.cells _ _ ks).trans k3
  have b4 := (hx2.cells _ _ ks).trans k4
  have hz := Nat.lt_of_lt_of_le ks hx2.size
  have HX2 := hide hx2
  clear hx2 k0 k1 k2 k3 k4
  cases hq : ((args.length : Int) == 0) with
  | false =>
    have HQ3 := hide (show fitB 3 vars args b rows = false by rw [HF.out, hq]; rfl)
    go_wp2_with fail
    go_ret
    exact Ret.mk (ret_b HQ3.out.symm) (HX0.out.trans HX2.out)
  | true =>
    have HQ3 := hide (show fitB 3 vars args b rows = ((b == 0) && ((rows.length : Int) == 0)) by rw [HF.out, hq]; rfl)
    cases hq : (b == 0) with
    | false =>
      have HQ2 := hide (show fitB 3 vars args b rows = false by rw [HQ3.out, hq]; rfl)
      go_wp2_with fail
      go_ret
      exact Ret.mk (ret_b HQ2.out.symm) (HX0.out.trans HX2.out)
    | true =>
      have HQ2 := hide (show fitB 3 vars args b rows = ((rows.length : Int) == 0) by rw [HQ3.out, hq]; rfl)
      go_wp2_with fail
      go_ret
      exact Ret.mk (ret_b HQ2.out.symm) (HX0.out.trans HX2.out)
set_option maxRecDepth 100000 in
set_option maxHeartbeats 8000000 in
theorem vcs_9 (vv va vr : Value) (vars args : List Int) (b : Int) (rows : List (List Int)) (n : Int) (w : World) (hV : SInts w vv vars) (hA : SInts w va args) (hR : SRows w vr rows) (hn0 : 0 ≤ n) (hn1 : n ≤ 1000000000000000) (h1 : inR vars.length 1 n = true) (h2 : allR vars 0 (n - 1) = true) (h3 : dst vars = true) :
    Calls Try.prog 26 #[.agg #[.int .i64 9, vv, va, .int .i64 b, vr], .int .i64 n] w (Ret (.bool (fitB 9 vars args b rows)) w) := by
  obtain ⟨Av, cv, rfl, -, hlv⟩ := hV.form
  obtain ⟨Aa, ca, rfl, -, hla⟩ := hA.form
  obtain ⟨Ar, cr, rfl, -, hlr⟩ := hR.form
  obtain ⟨w0, hw0⟩ : ∃ w0, w0 = w.alloc (.cells #[.int .i64 9, .slice Av vars.length cv, .slice Aa args.length ca, .int .i64 b, .slice Ar rows.length cr] 26) := ⟨_, rfl⟩
  have hx0 : Ext w w0 := by rw [hw0]; exact (Ext.refl w).alloc _
  have k0 : w0.cell? ⟨w.heap.size, 0, none⟩ = some (.int .i64 9) := by rw [hw0]; go_simp
  have k1 : w0.cell? ⟨w.heap.size, 1, none⟩ = some (.slice Av vars.length cv) := by rw [hw0]; go_simp
  have k2 : w0.cell? ⟨w.heap.size, 2, none⟩ = some (.slice Aa args.length ca) := by rw [hw0]; go_simp
  have k3 : w0.cell? ⟨w.heap.size, 3, none⟩ = some (.int .i64 b) := by rw [hw0]; go_simp
  have k4 : w0.cell? ⟨w.heap.size, 4, none⟩ = some (.slice Ar rows.length cr) := by rw [hw0]; go_simp
  have ks : w.heap.size < w0.heap.size := by rw [hw0]; simp
  have HX0 := hide hx0
  have hV0 := hide (hV.ext hx0)
  have hA0 := hide (hA.ext hx0)
  have hR0 := hide (hR.ext hx0)
  clear hx0 hV hA hR
  have H1 := hide h1
  have H2 := hide h2
  have H3 := hide h3
  have HF := hide (show fitB 9 vars args b rows = (((args.length : Int) == 0) && ((b == 0) && ((rows.length : Int) == 0))) from rfl)
  clear h1 h2 h3
  go_enter Try.func26, Try.ntmps26
  go_wp2_with fail
  rw [← hw0]
  clear hw0
  refine (inRange_any _ _ _ _).mono ?_
  rintro e w' ⟨rfl, rfl⟩
  rw [H1.out]
  go_wp2_with fail
  refine (allInRange_any _ vars 0 (n - 1) _ hV0.out).mono ?_
  rintro e w' ⟨rfl, rfl⟩
  rw [H2.out]
  go_wp2_with fail
  refine (distinctS_any _ vars _ hV0.out).mono ?_
  rintro e w2 ⟨rfl, hx2⟩
  rw [H3.out]
  have b0 := (hx2.cells _ _ ks).trans k0
  have b1 := (hx2.cells _ _ ks).trans k1
  have b2 := (hx2.cells _ _ ks).trans k2
  have b3 := (hx2.cells _ _ ks).trans k3
  have b4 := (hx2.cells _ _ ks).trans k4
  have hz := Nat.lt_of_lt_of_le ks hx2.size
  have HX2 := hide hx2
  clear hx2 k0 k1 k2 k3 k4
  cases hq : ((args.length : Int) == 0) with
  | false =>
    have HQ3 := hide (show fitB 9 vars args b rows = false by rw [HF.out, hq]; rfl)
    go_wp2_with fail
    go_ret
    exact Ret.mk (ret_b HQ3.out.symm) (HX0.out.trans HX2.out)
  | true =>
    have HQ3 := hide (show fitB 9 vars args b rows = ((b == 0) && ((rows.length : Int) == 0)) by rw [HF.out, hq]; rfl)
    cases hq : (b == 0) with
    | false =>
      have HQ2 := hide (show fitB 9 vars args b rows = false by rw [HQ3.out, hq]; rfl)
      go_wp2_with fail
      go_ret
      exact Ret.mk (ret_b HQ2.out.symm) (HX0.out.trans HX2.out)
    | true =>
      have HQ2 := hide (show fitB 9 vars args b rows = ((rows.length : Int) == 0) by rw [HQ3.out, hq]; rfl)
      go_wp2_with fail
      go_ret
      exact Ret.mk (ret_b HQ2.out.symm) (HX0.out.trans HX2.out)
set_option maxRecDepth 100000 in
set_option maxHeartbeats 8000000 in
theorem vcs_4 (vv va vr : Value) (vars args : List Int) (b : Int) (rows : List (List Int)) (n : Int) (w : World) (hV : SInts w vv vars) (hA : SInts w va args) (hR : SRows w vr rows) (hn0 : 0 ≤ n) (hn1 : n ≤ 1000000000000000) (h1 : inR vars.length 1 n = true) (h2 : allR vars 0 (n - 1) = true) (h3 : dst vars = true) :
    Calls Try.prog 26 #[.agg #[.int .i64 4, vv, va, .int .i64 b, vr], .int .i64 n] w (Ret (.bool (fitB 4 vars args b rows)) w) := by
  obtain ⟨Av, cv, rfl, -, hlv⟩ := hV.form
  obtain ⟨Aa, ca, rfl, -, hla⟩ := hA.form
  obtain ⟨Ar, cr, rfl, -, hlr⟩ := hR.form
  obtain ⟨w0, hw0⟩ : ∃ w0, w0 = w.alloc (.cells #[.int .i64 4, .slice Av vars.length cv, .slice Aa args.length ca, .int .i64 b, .slice Ar rows.length cr] 26) := ⟨_, rfl⟩
  have hx0 : Ext w w0 := by rw [hw0]; exact (Ext.refl w).alloc _
  have k0 : w0.cell? ⟨w.heap.size, 0, none⟩ = some (.int .i64 4) := by rw [hw0]; go_simp
  have k1 : w0.cell? ⟨w.heap.size, 1, none⟩ = some (.slice Av vars.length cv) := by rw [hw0]; go_simp
  have k2 : w0.cell? ⟨w.heap.size, 2, none⟩ = some (.slice Aa args.length ca) := by rw [hw0]; go_simp
  have k3 : w0.cell? ⟨w.heap.size, 3, none⟩ = some (.int .i64 b) := by rw [hw0]; go_simp
  have k4 : w0.cell? ⟨w.heap.size, 4, none⟩ = some (.slice Ar rows.length cr) := by rw [hw0]; go_simp
  have ks : w.heap.size < w0.heap.size := by rw [hw0]; simp
  have HX0 := hide hx0
  have hV0 := hide (hV.ext hx0)
  have hA0 := hide (hA.ext hx0)
  have hR0 := hide (hR.ext hx0)
  clear hx0 hV hA hR
  have H1 := hide h1
  have H2 := hide h2
  have H3 := hide h3
  have HF := hide (show fitB 4 vars args b rows = (((vars.length : Int) == 2) && (inR args.length 1 6 && (allR args 0 5 && ((b == 0) && ((rows.length : Int) == 0))))) from rfl)
  clear h1 h2 h3
  go_enter Try.func26, Try.ntmps26
  go_wp2_with fail
  rw [← hw0]
  clear hw0
  refine (inRange_any _ _ _ _).mono ?_
  rintro e w' ⟨rfl, rfl⟩
  rw [H1.out]
  go_wp2_with fail
  refine (allInRange_any _ vars 0 (n - 1) _ hV0.out).mono ?_
  rintro e w' ⟨rfl, rfl⟩
  rw [H2.out]
  go_wp2_with fail
  refine (distinctS_any _ vars _ hV0.out).mono ?_
  rintro e w2 ⟨rfl, hx2⟩
  rw [H3.out]
  have b0 := (hx2.cells _ _ ks).trans k0
  have b1 := (hx2.cells _ _ ks).trans k1
  have b2 := (hx2.cells _ _ ks).trans k2
  have b3 := (hx2.cells _ _ ks).trans k3
  have b4 := (hx2.cells _ _ ks).trans k4
  have hz := Nat.lt_of_lt_of_le ks hx2.size
  have HX2 := hide hx2
  clear hx2 k0 k1 k2 k3 k4
  cases hq : ((vars.length : Int) == 2) with
  | false =>
    have HQ5 := hide (show fitB 4 vars args b rows = false by rw [HF.out, hq]; rfl)
    go_wp2_with fail
    go_ret
    exact Ret.mk (ret_b HQ5.out.symm) (HX0.out.trans HX2.out)
  | true =>
    have HQ5 := hide (show fitB 4 vars args b rows = (inR args.length 1 6 && (allR args 0 5 && ((b == 0) && ((rows.length : Int) == 0)))) by rw [HF.out, hq]; rfl)
    go_wp2_with fail
    refine (inRange_any _ _ _ _).mono ?_
    rintro e w' ⟨rfl, rfl⟩
    cases hq : inR args.length 1 6 with
    | false =>
      have HQ4 := hide (show fitB 4 vars args b rows = false by rw [HQ5.out, hq]; rfl)
      clear hq
      go_wp2_with fail
      go_ret
      exact Ret.mk (ret_b HQ4.out.symm) (HX0.out.trans HX2.out)
    | true =>
      have HQ4 := hide (show fitB 4 vars args b rows = (allR args 0 5 && ((b == 0) && ((rows.length : Int) == 0))) by rw [HQ5.out, hq]; rfl)
      clear hq
      go_wp2_with fail
      refine (allInRange_any _ args 0 5 _ (hA0.out.ext HX2.out)).mono ?_
      rintro e w' ⟨rfl, rfl⟩
      cases hq : allR args 0 5 with
      | false =>
        have HQ3 := hide (show fitB 4 vars args b rows = false by rw [HQ4.out, hq]; rfl)
        clear hq
        go_wp2_with fail
        go_ret
        exact Ret.mk (ret_b HQ3.out.symm) (HX0.out.trans HX2.out)
      | true =>
        have HQ3 := hide (show fitB 4 vars args b rows = ((b == 0) && ((rows.length : Int) == 0)) by rw [HQ4.out, hq]; rfl)
        clear hq
        cases hq : (b == 0) with
        | false =>
          have HQ2 := hide (show fitB 4 vars args b rows = false by rw [HQ3.out, hq]; rfl)
          go_wp2_with fail
          go_ret
          exact Ret.mk (ret_b HQ2.out.symm) (HX0.out.trans HX2.out)
        | true =>
          have HQ2 := hide (show fitB 4 vars args b rows = ((rows.length : Int) == 0) by rw [HQ3.out, hq]; rfl)
          go_wp2_with fail
          go_ret
          exact Ret.mk (ret_b HQ2.out.symm) (HX0.out.trans HX2.out)
set_option maxRecDepth 100000 in
set_option maxHeartbeats 8000000 in
theorem vcs_5 (vv va vr : Value) (vars args : List Int) (b : Int) (rows : List (List Int)) (n : Int) (w : World) (hV : SInts w vv vars) (hA : SInts w va args) (hR : SRows w vr rows) (hn0 : 0 ≤ n) (hn1 : n ≤ 1000000000000000) (h1 : inR vars.length 1 n = true) (h2 : allR vars 0 (n - 1) = true) (h3 : dst vars = true) :
    Calls Try.prog 26 #[.agg #[.int .i64 5, vv, va, .int .i64 b, vr], .int .i64 n] w (Ret (.bool (fitB 5 vars args b rows)) w) := by
  obtain ⟨Av, cv, rfl, -, hlv⟩ := hV.form
  obtain ⟨Aa, ca, rfl, -, hla⟩ := hA.form
  obtain ⟨Ar, cr, rfl, -, hlr⟩ := hR.form
  obtain ⟨w0, hw0⟩ : ∃ w0, w0 = w.alloc (.cells #[.int .i64 5, .slice Av vars.length cv, .slice Aa args.length ca, .int .i64 b, .slice Ar rows.length cr] 26) := ⟨_, rfl⟩
  have hx0 : Ext w w0 := by rw [hw0]; exact (Ext.refl w).alloc _
  have k0 : w0.cell? ⟨w.heap.size, 0, none⟩ = some (.int .i64 5) := by rw [hw0]; go_simp
  have k1 : w0.cell? ⟨w.heap.size, 1, none⟩ = some (.slice Av vars.length cv) := by rw [hw0]; go_simp
  have k2 : w0.cell? ⟨w.heap.size, 2, none⟩ = some (.slice Aa args.length ca) := by rw [hw0]; go_simp
  have k3 : w0.cell? ⟨w.heap.size, 3, none⟩ = some (.int .i64 b) := by rw [hw0]; go_simp
  have k4 : w0.cell? ⟨w.heap.size, 4, none⟩ = some (.slice Ar rows.length cr) := by rw [hw0]; go_simp
  have ks : w.heap.size < w0.heap.size := by rw [hw0]; simp
  have HX0 := hide hx0
  have hV0 := hide (hV.ext hx0)
  have hA0 := hide (hA.ext hx0)
  have hR0 := hide (hR.ext hx0)
  clear hx0 hV hA hR
  have H1 := hide h1
  have H2 := hide h2
  have H3 := hide h3
  have HF := hide (show fitB 5 vars args b rows = (((args.length : Int) == 0) && ((b == 0) && vRows rows vars.length 0 5)) from rfl)
  clear h1 h2 h3
  go_enter Try.func26, Try.ntmps26
  go_wp2_with fail
  rw [← hw0]
  clear hw0
  refine (inRange_any _ _ _ _).mono ?_
  rintro e w' ⟨rfl, rfl⟩
  rw [H1.out]
  go_wp2_with fail
  refine (allInRange_any _ vars 0 (n - 1) _ hV0.out).mono ?_
  rintro e w' ⟨rfl, rfl⟩
  rw [H2.out]
  go_wp2_with fail
  refine (distinctS_any _ vars _ hV0.out).mono ?_
  rintro e w2 ⟨rfl, hx2⟩
  rw [H3.out]
  have b0 := (hx2.cells _ _ ks).trans k0
  have b1 := (hx2.cells _ _ ks).trans k1
  have b2 := (hx2.cells _ _ ks).trans k2
  have b3 := (hx2.cells _ _ ks).trans k3
  have b4 := (hx2.cells _ _ ks).trans k4
  have hz := Nat.lt_of_lt_of_le ks hx2.size
  have HX2 := hide hx2
  clear hx2 k0 k1 k2 k3 k4
  cases hq : ((args.length : Int) == 0) with
  | false =>
    have HQ3 := hide (show fitB 5 vars args b rows = false by rw [HF.out, hq]; rfl)
    go_wp2_with fail
    go_ret
    exact Ret.mk (ret_b HQ3.out.symm) (HX0.out.trans HX2.out)
  | true =>
    have HQ3 := hide (show fitB 5 vars args b rows = ((b == 0) && vRows rows vars.length 0 5) by rw [HF.out, hq]; rfl)
    cases hq : (b == 0) with
    | false =>
      have HQ2 := hide (show fitB 5 vars args b rows = false by rw [HQ3.out, hq]; rfl)
      go_wp2_with fail
      go_ret
      exact Ret.mk (ret_b HQ2.out.symm) (HX0.out.trans HX2.out)
    | true =>
      have HQ2 := hide (show fitB 5 vars args b rows = vRows rows vars.length 0 5 by rw [HQ3.out, hq]; rfl)
      go_wp2_with fail
      refine (validRows_any _ rows vars.length 0 5 _ (hR0.out.ext HX2.out)).mono ?_
      rintro e w' ⟨rfl, rfl⟩
      go_wp2
      go_ret
      exact Ret.mk (ret_b HQ2.out.symm) (HX0.out.trans HX2.out)
set_option maxRecDepth 100000 in
set_option maxHeartbeats 8000000 in
theorem vcs_6 (vv va vr : Value) (vars args : List Int) (b : Int) (rows : List (List Int)) (n : Int) (w : World) (hV : SInts w vv vars) (hA : SInts w va args) (hR : SRows w vr rows) (hn0 : 0 ≤ n) (hn1 : n ≤ 1000000000000000) (h1 : inR vars.length 1 n = true) (h2 : allR vars 0 (n - 1) = true) (h3 : dst vars = true) :
    Calls Try.prog 26 #[.agg #[.int .i64 6, vv, va, .int .i64 b, vr], .int .i64 n] w (Ret (.bool (fitB 6 vars args b rows)) w) := by
  obtain ⟨Av, cv, rfl, -, hlv⟩ := hV.form
  obtain ⟨Aa, ca, rfl, -, hla⟩ := hA.form
  obtain ⟨Ar, cr, rfl, -, hlr⟩ := hR.form
  obtain ⟨w0, hw0⟩ : ∃ w0, w0 = w.alloc (.cells #[.int .i64 6, .slice Av vars.length cv, .slice Aa args.length ca, .int .i64 b, .slice Ar rows.length cr] 26) := ⟨_, rfl⟩
  have hx0 : Ext w w0 := by rw [hw0]; exact (Ext.refl w).alloc _
  have k0 : w0.cell? ⟨w.heap.size, 0, none⟩ = some (.int .i64 6) := by rw [hw0]; go_simp
  have k1 : w0.cell? ⟨w.heap.size, 1, none⟩ = some (.slice Av vars.length cv) := by rw [hw0]; go_simp
  have k2 : w0.cell? ⟨w.heap.size, 2, none⟩ = some (.slice Aa args.length ca) := by rw [hw0]; go_simp
  have k3 : w0.cell? ⟨w.heap.size, 3, none⟩ = some (.int .i64 b) := by rw [hw0]; go_simp
  have k4 : w0.cell? ⟨w.heap.size, 4, none⟩ = some (.slice Ar rows.length cr) := by rw [hw0]; go_simp
  have ks : w.heap.size < w0.heap.size := by rw [hw0]; simp
  have HX0 := hide hx0
  have hV0 := hide (hV.ext hx0)
  have hA0 := hide (hA.ext hx0)
  have hR0 := hide (hR.ext hx0)
  clear hx0 hV hA hR
  have H1 := hide h1
  have H2 := hide h2
  have H3 := hide h3
  have HF := hide (show fitB 6 vars args b rows = (((args.length : Int) == 1) && (allR args 0 5 && (inR b 0 4 && ((rows.length : Int) == 0)))) from by rw [show fitB 6 vars args b rows = (argsB args 1 0 5 && (inR b 0 4 && ((rows.length : Int) == 0))) from rfl, argsB, Bool.and_assoc])
  clear h1 h2 h3
  go_enter Try.func26, Try.ntmps26
  go_wp2_with fail
  rw [← hw0]
  clear hw0
  refine (inRange_any _ _ _ _).mono ?_
  rintro e w' ⟨rfl, rfl⟩
  rw [H1.out]
  go_wp2_with fail
  refine (allInRange_any _ vars 0 (n - 1) _ hV0.out).mono ?_
  rintro e w' ⟨rfl, rfl⟩
  rw [H2.out]
  go_wp2_with fail
  refine (distinctS_any _ vars _ hV0.out).mono ?_
  rintro e w2 ⟨rfl, hx2⟩
  rw [H3.out]
  have b0 := (hx2.cells _ _ ks).trans k0
  have b1 := (hx2.cells _ _ ks).trans k1
  have b2 := (hx2.cells _ _ ks).trans k2
  have b3 := (hx2.cells _ _ ks).trans k3
  have b4 := (hx2.cells _ _ ks).trans k4
  have hz := Nat.lt_of_lt_of_le ks hx2.size
  have HX2 := hide hx2
  clear hx2 k0 k1 k2 k3 k4
  cases hq : ((args.length : Int) == 1) with
  | false =>
    have HQ4 := hide (show fitB 6 vars args b rows = false by rw [HF.out, hq]; rfl)
    go_wp2_with fail
    go_ret
    exact Ret.mk (ret_b HQ4.out.symm) (HX0.out.trans HX2.out)
  | true =>
    have HQ4 := hide (show fitB 6 vars args b rows = (allR args 0 5 && (inR b 0 4 && ((rows.length : Int) == 0))) by rw [HF.out, hq]; rfl)
    go_wp2_with fail
    refine (allInRange_any _ args 0 5 _ (hA0.out.ext HX2.out)).mono ?_
    rintro e w' ⟨rfl, rfl⟩
    cases hq : allR args 0 5 with
    | false =>
      have HQ3 := hide (show fitB 6 vars args b rows = false by rw [HQ4.out, hq]; rfl)
      clear hq
      go_wp2_with fail
      go_ret
      exact Ret.mk (ret_b HQ3.out.symm) (HX0.out.trans HX2.out)
    | true =>
      have HQ3 := hide (show fitB 6 vars args b rows = (inR b 0 4 && ((rows.length : Int) == 0)) by rw [HQ4.out, hq]; rfl)
      clear hq
      go_wp2_with fail
      refine (inRange_any _ _ _ _).mono ?_
      rintro e w' ⟨rfl, rfl⟩
      cases hq : inR b 0 4 with
      | false =>
        have HQ2 := hide (show fitB 6 vars args b rows = false by rw [HQ3.out, hq]; rfl)
        clear hq
        go_wp2_with fail
        go_ret
        exact Ret.mk (ret_b HQ2.out.symm) (HX0.out.trans HX2.out)
      | true =>
        have HQ2 := hide (show fitB 6 vars args b rows = ((rows.length : Int) == 0) by rw [HQ3.out, hq]; rfl)
        clear hq
        go_wp2_with fail
        go_ret
        exact Ret.mk (ret_b HQ2.out.symm) (HX0.out.trans HX2.out)
set_option maxRecDepth 100000 in
set_option maxHeartbeats 8000000 in
theorem vcs_7 (vv va vr : Value) (vars args : List Int) (b : Int) (rows : List (List Int)) (n : Int) (w : World) (hV : SInts w vv vars) (hA : SInts w va args) (hR : SRows w vr rows) (hn0 : 0 ≤ n) (hn1 : n ≤ 1000000000000000) (h1 : inR vars.length 1 n = true) (h2 : allR vars 0 (n - 1) = true) (h3 : dst vars = true) :
    Calls Try.prog 26 #[.agg #[.int .i64 7, vv, va, .int .i64 b, vr], .int .i64 n] w (Ret (.bool (fitB 7 vars args b rows)) w) := by
  obtain ⟨Av, cv, rfl, -, hlv⟩ := hV.form
  obtain ⟨Aa, ca, rfl, -, hla⟩ := hA.form
  obtain ⟨Ar, cr, rfl, -, hlr⟩ := hR.form
  obtain ⟨w0, hw0⟩ : ∃ w0, w0 = w.alloc (.cells #[.int .i64 7, .slice Av vars.length cv, .slice Aa args.length ca, .int .i64 b, .slice Ar rows.length cr] 26) := ⟨_, rfl⟩
  have hx0 : Ext w w0 := by rw [hw0]; exact (Ext.refl w).alloc _
  have k0 : w0.cell? ⟨w.heap.size, 0, none⟩ = some (.int .i64 7) := by rw [hw0]; go_simp
  have k1 : w0.cell? ⟨w.heap.size, 1, none⟩ = some (.slice Av vars.length cv) := by rw [hw0]; go_simp
  have k2 : w0.cell? ⟨w.heap.size, 2, none⟩ = some (.slice Aa args.length ca) := by rw [hw0]; go_simp
  have k3 : w0.cell? ⟨w.heap.size, 3, none⟩ = some (.int .i64 b) := by rw [hw0]; go_simp
  have k4 : w0.cell? ⟨w.heap.size, 4, none⟩ = some (.slice Ar rows.length cr) := by rw [hw0]; go_simp
  have ks : w.heap.size < w0.heap.size := by rw [hw0]; simp
  have HX0 := hide hx0
  have hV0 := hide (hV.ext hx0)
  have hA0 := hide (hA.ext hx0)
  have hR0 := hide (hR.ext hx0)
  clear hx0 hV hA hR
  have H1 := hide h1
  have H2 := hide h2
  have H3 := hide h3
  have HF := hide (show fitB 7 vars args b rows = (((args.length : Int) == 2 * vars.length) && (allR args 0 9 && (inR b 0 9 && ((rows.length : Int) == 0)))) from by rw [show fitB 7 vars args b rows = (argsB args (2 * vars.length) 0 9 && (inR b 0 9 && ((rows.length : Int) == 0))) from rfl, argsB, Bool.and_assoc])
  clear h1 h2 h3
  go_enter Try.func26, Try.ntmps26
  go_wp2_with fail
  rw [← hw0]
  clear hw0
  refine (inRange_any _ _ _ _).mono ?_
  rintro e w' ⟨rfl, rfl⟩
  rw [H1.out]
  go_wp2_with fail
  refine (allInRange_any _ vars 0 (n - 1) _ hV0.out).mono ?_
  rintro e w' ⟨rfl, rfl⟩
  rw [H2.out]
  go_wp2_with fail
  refine (distinctS_any _ vars _ hV0.out).mono ?_
  rintro e w2 ⟨rfl, hx2⟩
  rw [H3.out]
  have b0 := (hx2.cells _ _ ks).trans k0
  have b1 := (hx2.cells _ _ ks).trans k1
  have b2 := (hx2.cells _ _ ks).trans k2
  have b3 := (hx2.cells _ _ ks).trans k3
  have b4 := (hx2.cells _ _ ks).trans k4
  have hz := Nat.lt_of_lt_of_le ks hx2.size
  have HX2 := hide hx2
  clear hx2 k0 k1 k2 k3 k4
  cases hq : ((args.length : Int) == 2 * vars.length) with
  | false =>
    have HQ4 := hide (show fitB 7 vars args b rows = false by rw [HF.out, hq]; rfl)
    go_wp2_with fail
    go_ret
    exact Ret.mk (ret_b HQ4.out.symm) (HX0.out.trans HX2.out)
  | true =>
    have HQ4 := hide (show fitB 7 vars args b rows = (allR args 0 9 && (inR b 0 9 && ((rows.length : Int) == 0))) by rw [HF.out, hq]; rfl)
    go_wp2_with fail
    refine (allInRange_any _ args 0 9 _ (hA0.out.ext HX2.out)).mono ?_
    rintro e w' ⟨rfl, rfl⟩
    cases hq : allR args 0 9 with
    | false =>
      have HQ3 := hide (show fitB 7 vars args b rows = false by rw [HQ4.out, hq]; rfl)
      clear hq
      go_wp2_with fail
      go_ret
      exact Ret.mk (ret_b HQ3.out.symm) (HX0.out.trans HX2.out)
    | true =>
      have HQ3 := hide (show fitB 7 vars args b rows = (inR b 0 9 && ((rows.length : Int) == 0)) by rw [HQ4.out, hq]; rfl)
      clear hq
      go_wp2_with fail
      refine (inRange_any _ _ _ _).mono ?_
      rintro e w' ⟨rfl, rfl⟩
      cases hq : inR b 0 9 with
      | false =>
        have HQ2 := hide (show fitB 7 vars args b rows = false by rw [HQ3.out, hq]; rfl)
        clear hq
        go_wp2_with fail
        go_ret
        exact Ret.mk (ret_b HQ2.out.symm) (HX0.out.trans HX2.out)
      | true =>
        have HQ2 := hide (show fitB 7 vars args b rows = ((rows.length : Int) == 0) by rw [HQ3.out, hq]; rfl)
        clear hq
        go_wp2_with fail
        go_ret
        exact Ret.mk (ret_b HQ2.out.symm) (HX0.out.trans HX2.out)
set_option maxRecDepth 100000 in
set_option maxHeartbeats 8000000 in
theorem vcs_8 (vv va vr : Value) (vars args : List Int) (b : Int) (rows : List (List Int)) (n : Int) (w : World) (hV : SInts w vv vars) (hA : SInts w va args) (hR : SRows w vr rows) (hn0 : 0 ≤ n) (hn1 : n ≤ 1000000000000000) (h1 : inR vars.length 1 n = true) (h2 : allR vars 0 (n - 1) = true) (h3 : dst vars = true) :
    Calls Try.prog 26 #[.agg #[.int .i64 8, vv, va, .int .i64 b, vr], .int .i64 n] w (Ret (.bool (fitB 8 vars args b rows)) w) := by
  obtain ⟨Av, cv, rfl, -, hlv⟩ := hV.form
  obtain ⟨Aa, ca, rfl, -, hla⟩ := hA.form
  obtain ⟨Ar, cr, rfl, -, hlr⟩ := hR.form
  obtain ⟨w0, hw0⟩ : ∃ w0, w0 = w.alloc (.cells #[.int .i64 8, .slice Av vars.length cv, .slice Aa args.length ca, .int .i64 b, .slice Ar rows.length cr] 26) := ⟨_, rfl⟩
  have hx0 : Ext w w0 := by rw [hw0]; exact (Ext.refl w).alloc _
  have k0 : w0.cell? ⟨w.heap.size, 0, none⟩ = some (.int .i64 8) := by rw [hw0]; go_simp
  have k1 : w0.cell? ⟨w.heap.size, 1, none⟩ = some (.slice Av vars.length cv) := by rw [hw0]; go_simp
  have k2 : w0.cell? ⟨w.heap.size, 2, none⟩ = some (.slice Aa args.length ca) := by rw [hw0]; go_simp
  have k3 : w0.cell? ⟨w.heap.size, 3, none⟩ = some (.int .i64 b) := by rw [hw0]; go_simp
  have k4 : w0.cell? ⟨w.heap.size, 4, none⟩ = some (.slice Ar rows.length cr) := by rw [hw0]; go_simp
  have ks : w.heap.size < w0.heap.size := by rw [hw0]; simp
  have HX0 := hide hx0
  have hV0 := hide (hV.ext hx0)
  have hA0 := hide (hA.ext hx0)
  have hR0 := hide (hR.ext hx0)
  clear hx0 hV hA hR
  have H1 := hide h1
  have H2 := hide h2
  have H3 := hide h3
  have HF := hide (show fitB 8 vars args b rows = (vRows rows 6 (-1) (rows.length - 1) && (allR args 0 (rows.length - 1) && (dst args && (b == 0)))) from by rw [show fitB 8 vars args b rows = (vRows rows 6 (-1) (rows.length - 1) && (dst args && (allR args 0 (rows.length - 1) && (b == 0)))) from rfl, Bool.and_left_comm (dst args)])
  clear h1 h2 h3
  go_enter Try.func26, Try.ntmps26
  go_wp2_with fail
  rw [← hw0]
  clear hw0
  refine (inRange_any _ _ _ _).mono ?_
  rintro e w' ⟨rfl, rfl⟩
  rw [H1.out]
  go_wp2_with fail
  refine (allInRange_any _ vars 0 (n - 1) _ hV0.out).mono ?_
  rintro e w' ⟨rfl, rfl⟩
  rw [H2.out]
  go_wp2_with fail
  refine (distinctS_any _ vars _ hV0.out).mono ?_
  rintro e w2 ⟨rfl, hx2⟩
  rw [H3.out]
  have b0 := (hx2.cells _ _ ks).trans k0
  have b1 := (hx2.cells _ _ ks).trans k1
  have b2 := (hx2.cells _ _ ks).trans k2
  have b3 := (hx2.cells _ _ ks).trans k3
  have b4 := (hx2.cells _ _ ks).trans k4
  have hz := Nat.lt_of_lt_of_le ks hx2.size
  have HX2 := hide hx2
  clear hx2 k0 k1 k2 k3 k4
  go_wp2_with fail
  refine (validRows_any _ rows 6 (-1) (rows.length - 1) _ (hR0.out.ext HX2.out)).mono ?_
  rintro e w' ⟨rfl, rfl⟩
  cases hq : vRows rows 6 (-1) (rows.length - 1) with
  | false =>
    have HQ4 := hide (show fitB 8 vars args b rows = false by rw [HF.out, hq]; rfl)
    clear hq
    go_wp2_with fail
    go_ret
    exact Ret.mk (ret_b HQ4.out.symm) (HX0.out.trans HX2.out)
  | true =>
    have HQ4 := hide (show fitB 8 vars args b rows = (allR args 0 (rows.length - 1) && (dst args && (b == 0))) by rw [HF.out, hq]; rfl)
    clear hq
    go_wp2_with fail
    refine (allInRange_any _ args 0 (rows.length - 1) _ (hA0.out.ext HX2.out)).mono ?_
    rintro e w' ⟨rfl, rfl⟩
    cases hq : allR args 0 (rows.length - 1) with
    | false =>
      have HQ3 := hide (show fitB 8 vars args b rows = false by rw [HQ4.out, hq]; rfl)
      clear hq
      go_wp2_with fail
      go_ret
      exact Ret.mk (ret_b HQ3.out.symm) (HX0.out.trans HX2.out)
    | true =>
      have HQ3 := hide (show fitB 8 vars args b rows = (dst args && (b == 0)) by rw [HQ4.out, hq]; rfl)
      clear hq
      go_wp2_with fail
      refine (distinctS_any _ args _ (hA0.out.ext HX2.out)).mono ?_
      rintro e w3 ⟨rfl, hx3⟩
      have b2 := (hx3.cells _ _ hz).trans b2
      have b3 := (hx3.cells _ _ hz).trans b3
      have b4 := (hx3.cells _ _ hz).trans b4
      have hz := Nat.lt_of_lt_of_le hz hx3.size
      have HX3 := hide (HX2.out.trans hx3)
      clear hx3
      cases hq : dst args with
      | false =>
        have HQ2 := hide (show fitB 8 vars args b rows = false by rw [HQ3.out, hq]; rfl)
        clear hq
        go_wp2_with fail
        go_ret
        exact Ret.mk (ret_b HQ2.out.symm) (HX0.out.trans HX3.out)
      | true =>
        have HQ2 := hide (show fitB 8 vars args b rows = (b == 0) by rw [HQ3.out, hq]; rfl)
        clear hq
        go_wp2_with fail
        go_ret
        exact Ret.mk (ret_b HQ2.out.symm) (HX0.out.trans HX3.out)
set_option maxRecDepth 100000 in
set_option maxHeartbeats 8000000 in
theorem vcs_0 (kk : Int) (vv va vr : Value) (vars args : List Int) (b : Int) (rows : List (List Int)) (n : Int) (w : World) (hV : SInts w vv vars) (hA : SInts w va args) (hR : SRows w vr rows) (hn0 : 0 ≤ n) (hn1 : n ≤ 1000000000000000) (h1 : inR vars.length 1 n = true) (h2 : allR vars 0 (n - 1) = true) (h3 : dst vars = true)
    (g1 : (kk == 1) = false) (g2 : (kk == 2) = false) (g3 : (kk == 3) = false) (g4 : (kk == 4) = false) (g5 : (kk == 5) = false) (g6 : (kk == 6) = false) (g7 : (kk == 7) = false) (g8 : (kk == 8) = false) (g9 : (kk == 9) = false) :
    Calls Try.prog 26 #[.agg #[.int .i64 kk, vv, va, .int .i64 b, vr], .int .i64 n] w (Ret (.bool false) w) := by
  obtain ⟨Av, cv, rfl, -, hlv⟩ := hV.form
  obtain ⟨Aa, ca, rfl, -, hla⟩ := hA.form
  obtain ⟨Ar, cr, rfl, -, hlr⟩ := hR.form
  obtain ⟨w0, hw0⟩ : ∃ w0, w0 = w.alloc (.cells #[.int .i64 kk, .slice Av vars.length cv, .slice Aa args.length ca, .int .i64 b, .slice Ar rows.length cr] 26) := ⟨_, rfl⟩
  have hx0 : Ext w w0 := by rw [hw0]; exact (Ext.refl w).alloc _
  have k0 : w0.cell? ⟨w.heap.size, 0, none⟩ = some (.int .i64 kk) := by rw [hw0]; go_simp
  have k1 : w0.cell? ⟨w.heap.size, 1, none⟩ = some (.slice Av vars.length cv) := by rw [hw0]; go_simp
  have k2 : w0.cell? ⟨w.heap.size, 2, none⟩ = some (.slice Aa args.length ca) := by rw [hw0]; go_simp
  have k3 : w0.cell? ⟨w.heap.size, 3, none⟩ = some (.int .i64 b) := by rw [hw0]; go_simp
  have k4 : w0.cell? ⟨w.heap.size, 4, none⟩ = some (.slice Ar rows.length cr) := by rw [hw0]; go_simp
  have ks : w.heap.size < w0.heap.size := by rw [hw0]; simp
  have HX0 := hide hx0
  have hV0 := hide (hV.ext hx0)
  have hA0 := hide (hA.ext hx0)
  have hR0 := hide (hR.ext hx0)
  clear hx0 hV hA hR
  have H1 := hide h1
  have H2 := hide h2
  have H3 := hide h3
  clear h1 h2 h3
  go_enter Try.func26, Try.ntmps26
  go_wp2_with fail
  rw [← hw0]
  clear hw0
  refine (inRange_any _ _ _ _).mono ?_
  rintro e w' ⟨rfl, rfl⟩
  rw [H1.out]
  go_wp2_with fail
  refine (allInRange_any _ vars 0 (n - 1) _ hV0.out).mono ?_
  rintro e w' ⟨rfl, rfl⟩
  rw [H2.out]
  go_wp2_with fail
  refine (distinctS_any _ vars _ hV0.out).mono ?_
  rintro e w2 ⟨rfl, hx2⟩
  rw [H3.out]
  have b0 := (hx2.cells _ _ ks).trans k0
  have hz := Nat.lt_of_lt_of_le ks hx2.size
  have HX2 := hide hx2
  have _hA1 := hA0
  have _hR1 := hR0
  clear hx2 k0 k1 k2 k3 k4 _hA1 _hR1
  go_wp2
  go_ret
  exact Ret.mk rfl (HX0.out.trans HX2.out)
set_option maxRecDepth 100000 in
set_option maxHeartbeats 8000000 in
theorem vcs_n1 (kk : Int) (vv va vr : Value) (vars args : List Int) (b : Int) (rows : List (List Int)) (n : Int) (w : World) (hV : SInts w vv vars) (hA : SInts w va args) (hR : SRows w vr rows) (hn0 : 0 ≤ n) (hn1 : n ≤ 1000000000000000) (h1 : inR vars.length 1 n = false) :
    Calls Try.prog 26 #[.agg #[.int .i64 kk, vv, va, .int .i64 b, vr], .int .i64 n] w (Ret (.bool false) w) := by
  obtain ⟨Av, cv, rfl, -, hlv⟩ := hV.form
  obtain ⟨Aa, ca, rfl, -, hla⟩ := hA.form
  obtain ⟨Ar, cr, rfl, -, hlr⟩ := hR.form
  obtain ⟨w0, hw0⟩ : ∃ w0, w0 = w.alloc (.cells #[.int .i64 kk, .slice Av vars.length cv, .slice Aa args.length ca, .int .i64 b, .slice Ar rows.length cr] 26) := ⟨_, rfl⟩
  have hx0 : Ext w w0 := by rw [hw0]; exact (Ext.refl w).alloc _
  have k0 : w0.cell? ⟨w.heap.size, 0, none⟩ = some (.int .i64 kk) := by rw [hw0]; go_simp
  have k1 : w0.cell? ⟨w.heap.size, 1, none⟩ = some (.slice Av vars.length cv) := by rw [hw0]; go_simp
  have k2 : w0.cell? ⟨w.heap.size, 2, none⟩ = some (.slice Aa args.length ca) := by rw [hw0]; go_simp
  have k3 : w0.cell? ⟨w.heap.size, 3, none⟩ = some (.int .i64 b) := by rw [hw0]; go_simp
  have k4 : w0.cell? ⟨w.heap.size, 4, none⟩ = some (.slice Ar rows.length cr) := by rw [hw0]; go_simp
  have ks : w.heap.size < w0.heap.size := by rw [hw0]; simp
  have HX0 := hide hx0
  have hV0 := hide (hV.ext hx0)
  have hA0 := hide (hA.ext hx0)
  have hR0 := hide (hR.ext hx0)
  clear hx0 hV hA hR
  have H1 := hide h1
  clear h1 k0 k2 k3 k4
  have _hA1 := hA0
  have _hR1 := hR0
  have _hnn := And.intro hn0 hn1
  clear _hA1 _hR1 _hnn
  go_enter Try.func26, Try.ntmps26
  go_wp2_with fail
  rw [← hw0]
  clear hw0
  refine (inRange_any _ _ _ _).mono ?_
  rintro e w' ⟨rfl, rfl⟩
  rw [H1.out]
  go_wp2
  go_ret
  exact Ret.mk rfl HX0.out
set_option maxRecDepth 100000 in
set_option maxHeartbeats 8000000 in
theorem vcs_n2 (kk : Int) (vv va vr : Value) (vars args : List Int) (b : Int) (rows : List (List Int)) (n : Int) (w : World) (hV : SInts w vv vars) (hA : SInts w va args) (hR : SRows w vr rows) (hn0 : 0 ≤ n) (hn1 : n ≤ 1000000000000000) (h1 : inR vars.length 1 n = true) (h2 : allR vars 0 (n - 1) = false) :
    Calls Try.prog 26 #[.agg #[.int .i64 kk, vv, va, .int .i64 b, vr], .int .i64 n] w (Ret (.bool false) w) := by
  obtain ⟨Av, cv, rfl, -, hlv⟩ := hV.form
  obtain ⟨Aa, ca, rfl, -, hla⟩ := hA.form
  obtain ⟨Ar, cr, rfl, -, hlr⟩ := hR.form
  obtain ⟨w0, hw0⟩ : ∃ w0, w0 = w.alloc (.cells #[.int .i64 kk, .slice Av vars.length cv, .slice Aa args.length ca, .int .i64 b, .slice Ar rows.length cr] 26) := ⟨_, rfl⟩
  have hx0 : Ext w w0 := by rw [hw0]; exact (Ext.refl w).alloc _
  have k0 : w0.cell? ⟨w.heap.size, 0, none⟩ = some (.int .i64 kk) := by rw [hw0]; go_simp
  have k1 : w0.cell? ⟨w.heap.size, 1, none⟩ = some (.slice Av vars.length cv) := by rw [hw0]; go_simp
  have k2 : w0.cell? ⟨w.heap.size, 2, none⟩ = some (.slice Aa args.length ca) := by rw [hw0]; go_simp
  have k3 : w0.cell? ⟨w.heap.size, 3, none⟩ = some (.int .i64 b) := by rw [hw0]; go_simp
  have k4 : w0.cell? ⟨w.heap.size, 4, none⟩ = some (.slice Ar rows.length cr) := by rw [hw0]; go_simp
  have ks : w.heap.size < w0.heap.size := by rw [hw0]; simp
  have HX0 := hide hx0
  have hV0 := hide (hV.ext hx0)
  have hA0 := hide (hA.ext hx0)
  have hR0 := hide (hR.ext hx0)
  clear hx0 hV hA hR
  have H1 := hide h1
  have H2 := hide h2
  clear h1 h2 k0 k2 k3 k4
  have _hA1 := hA0
  have _hR1 := hR0
  have _hnn := And.intro hn0 hn1
  clear _hA1 _hR1 _hnn
  go_enter Try.func26, Try.ntmps26
  go_wp2_with fail
  rw [← hw0]
  clear hw0
  refine (inRange_any _ _ _ _).mono ?_
  rintro e w' ⟨rfl, rfl⟩
  rw [H1.out]
  go_wp2_with fail
  refine (allInRange_any _ vars 0 (n - 1) _ hV0.out).mono ?_
  rintro e w' ⟨rfl, rfl⟩
  rw [H2.out]
  go_wp2
  go_ret
  exact Ret.mk rfl HX0.out
set_option maxRecDepth 100000 in
set_option maxHeartbeats 8000000 in
theorem vcs_n3 (kk : Int) (vv va vr : Value) (vars args : List Int) (b : Int) (rows : List (List Int)) (n : Int) (w : World) (hV : SInts w vv vars) (hA : SInts w va args) (hR : SRows w vr rows) (hn0 : 0 ≤ n) (hn1 : n ≤ 1000000000000000) (h1 : inR vars.length 1 n = true) (h2 : allR vars 0 (n - 1) = true) (h3 : dst vars = false) :
    Calls Try.prog 26 #[.agg #[.int .i64 kk, vv, va, .int .i64 b, vr], .int .i64 n] w (Ret (.bool false) w) := by
  obtain ⟨Av, cv, rfl, -, hlv⟩ := hV.form
  obtain ⟨Aa, ca, rfl, -, hla⟩ := hA.form
  obtain ⟨Ar, cr, rfl, -, hlr⟩ := hR.form
  obtain ⟨w0, hw0⟩ : ∃ w0, w0 = w.alloc (.cells #[.int .i64 kk, .slice Av vars.length cv, .slice Aa args.length ca, .int .i64 b, .slice Ar rows.length cr] 26) := ⟨_, rfl⟩
  have hx0 : Ext w w0 := by rw [hw0]; exact (Ext.refl w).alloc _
  have k0 : w0.cell? ⟨w.heap.size, 0, none⟩ = some (.int .i64 kk) := by rw [hw0]; go_simp
  have k1 : w0.cell? ⟨w.heap.size, 1, none⟩ = some (.slice Av vars.length cv) := by rw [hw0]; go_simp
  have k2 : w0.cell? ⟨w.heap.size, 2, none⟩ = some (.slice Aa args.length ca) := by rw [hw0]; go_simp
  have k3 : w0.cell? ⟨w.heap.size, 3, none⟩ = some (.int .i64 b) := by rw [hw0]; go_simp
  have k4 : w0.cell? ⟨w.heap.size, 4, none⟩ = some (.slice Ar rows.length cr) := by rw [hw0]; go_simp
  have ks : w.heap.size < w0.heap.size := by rw [hw0]; simp
  have HX0 := hide hx0
  have hV0 := hide (hV.ext hx0)
  have hA0 := hide (hA.ext hx0)
  have hR0 := hide (hR.ext hx0)
  clear hx0 hV hA hR
  have H1 := hide h1
  have H2 := hide h2
  have H3 := hide h3
  clear h1 h2 h3 k0 k2 k3 k4
  have _hA1 := hA0
  have _hR1 := hR0
  have _hnn := And.intro hn0 hn1
  clear _hA1 _hR1 _hnn
  go_enter Try.func26, Try.ntmps26
  go_wp2_with fail
  rw [← hw0]
  clear hw0
  refine (inRange_any _ _ _ _).mono ?_
  rintro e w' ⟨rfl, rfl⟩
  rw [H1.out]
  go_wp2_with fail
  refine (allInRange_any _ vars 0 (n - 1) _ hV0.out).mono ?_
  rintro e w' ⟨rfl, rfl⟩
  rw [H2.out]
  go_wp2_with fail
  refine (distinctS_any _ vars _ hV0.out).mono ?_
  rintro e w2 ⟨rfl, hx2⟩
  rw [H3.out]
  have HX2 := hide (HX0.out.trans hx2)
  clear hx2
  go_wp2
  go_ret
  exact Ret.mk rfl HX2.out
theorem validConstraintS_any (c : Con) (vv va vr : Value) (n : Int) (w : World) (hV : SInts w vv c.vars) (hA : SInts w va c.args) (hR : SRows w vr c.rows) (hn0 : 0 ≤ n) (hn1 : n ≤ 1000000000000000) :
    Calls Try.prog 26 #[.agg #[.int .i64 c.kk, vv, va, .int .i64 c.bound, vr], .int .i64 n] w (Ret (.bool (vCs c n)) w) := by
  obtain ⟨kk, vars, args, b, rows⟩ := c
  simp only at hV hA hR ⊢
  cases h1 : inR vars.length 1 n with
  | false =>
    rw [show vCs ⟨kk, vars, args, b, rows⟩ n = false by simp only [vCs]; rw [h1]; rfl]
    exact vcs_n1 kk _ _ _ vars args b rows n w hV hA hR hn0 hn1 h1
  | true =>
  cases h2 : allR vars 0 (n - 1) with
  | false =>
    rw [show vCs ⟨kk, vars, args, b, rows⟩ n = false by simp only [vCs]; rw [h1, h2]; rfl]
    exact vcs_n2 kk _ _ _ vars args b rows n w hV hA hR hn0 hn1 h1 h2
  | true =>
  cases h3 : dst vars with
  | false =>
    rw [show vCs ⟨kk, vars, args, b, rows⟩ n = false by simp only [vCs]; rw [h1, h2, h3]; rfl]
    exact vcs_n3 kk _ _ _ vars args b rows n w hV hA hR hn0 hn1 h1 h2 h3
  | true =>
  rw [show vCs ⟨kk, vars, args, b, rows⟩ n = fitB kk vars args b rows by simp only [vCs]; rw [h1, h2, h3]; rfl]
  by_cases e1 : kk = 1
  · subst e1; exact vcs_1 _ _ _ vars args b rows n w hV hA hR hn0 hn1 h1 h2 h3
  by_cases e2 : kk = 2
  · subst e2; exact vcs_2 _ _ _ vars args b rows n w hV hA hR hn0 hn1 h1 h2 h3
  by_cases e3 : kk = 3
  · subst e3; exact vcs_3 _ _ _ vars args b rows n w hV hA hR hn0 hn1 h1 h2 h3
  by_cases e4 : kk = 4
  · subst e4; exact vcs_4 _ _ _ vars args b rows n w hV hA hR hn0 hn1 h1 h2 h3
  by_cases e5 : kk = 5
  · subst e5; exact vcs_5 _ _ _ vars args b rows n w hV hA hR hn0 hn1 h1 h2 h3
  by_cases e6 : kk = 6
  · subst e6; exact vcs_6 _ _ _ vars args b rows n w hV hA hR hn0 hn1 h1 h2 h3
  by_cases e7 : kk = 7
  · subst e7; exact vcs_7 _ _ _ vars args b rows n w hV hA hR hn0 hn1 h1 h2 h3
  by_cases e8 : kk = 8
  · subst e8; exact vcs_8 _ _ _ vars args b rows n w hV hA hR hn0 hn1 h1 h2 h3
  by_cases e9 : kk = 9
  · subst e9; exact vcs_9 _ _ _ vars args b rows n w hV hA hR hn0 hn1 h1 h2 h3
  rw [fitB_other vars args b rows e1 e2 e3 e4 e5 e6 e7 e8 e9]
  exact vcs_0 kk _ _ _ vars args b rows n w hV hA hR hn0 hn1 h1 h2 h3 (by simpa using e1) (by simpa using e2) (by simpa using e3) (by simpa using e4) (by simpa using e5) (by simpa using e6) (by simpa using e7) (by simpa using e8) (by simpa using e9)
end Go.Proofs.Ytmfbdaocnijnpaa
/- validModel of the reference. -/
namespace Go.Proofs.Ytmfbdaocnijnpaa
open Go.RowKit

theorem vMod_eq (ds : List Int) (cs : List Con) (h : allR ds 0 63 = true) (h2 : anyB (fun i => !vCs (con0 cs i) ds.length) cs.length = false) : vMod ds cs = (inR ds.length 1 4 && decide (cs.length ≤ 6)) := by
  unfold vMod
  rw [h]
  cases hn : inR (ds.length : Int) 1 4 with
  | false => rfl
  | true =>
    rw [show anyB (fun i => !vCon (con0 cs i) ds.length) cs.length = false from anyB_false.2 fun i hi => by
      have := anyB_false.1 h2 i hi
      rw [vCon_vCs, hn, Bool.true_and]; exact this]
    simp
theorem vMod_no1 {ds : List Int} {cs : List Con} (h : allR ds 0 63 = false) : vMod ds cs = false := by
  unfold vMod; rw [h]; simp
theorem vMod_no2 {ds : List Int} {cs : List Con} {k : Nat} (hk : k < cs.length) (h : vCs (con0 cs k) ds.length = false) : vMod ds cs = false := by
  unfold vMod
  rw [anyB_iff.2 ⟨k, hk, by rw [vCon_vCs, h, Bool.and_false]; rfl⟩]
  simp
set_option maxHeartbeats 1000000 in
theorem validDomS_any (d : Int) (w : World) :
    Calls Try.prog 56 #[.int .i64 d] w fun e w' => e = .returned (.bool (inR d 0 63)) ∧ w = w' := by
  go_enter Try.func56, Try.ntmps56
  go_wp2_with fail
  refine (inRange_any _ _ _ _).mono ?_
  rintro e w' ⟨rfl, rfl⟩
  go_wp2
  go_ret
  exact ⟨rfl, rfl⟩
end Go.Proofs.Ytmfbdaocnijnpaa
