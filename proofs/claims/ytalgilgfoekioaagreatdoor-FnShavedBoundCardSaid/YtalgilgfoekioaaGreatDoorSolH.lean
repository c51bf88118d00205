/- Whether a list satisfies a model: the program's walk. -/
import Derived.Test.YtalgilgfoekioaaGreatDoorPrpZ
import Derived.Test.YtalgilgfoekioaaGreatDoorSpZ
import Derived.Test.YtalgilgfoekioaaGreatDoorAppZ
import Derived.Test.YtalgilgfoekioaaGreatDoorRFR
import Derived.Test.YtalgilgfoekioaaGreatDoorCpA
import Derived.Test.YtalgilgfoekioaaGreatDoorRelZ
namespace Go.Proofs.YtalgilgfoekioaaGreatDoor
open Go.RowKit

/-- The list satisfies all constraints. -/
def okAll (cs : List Con) (x : List Int) : Bool := !anyB (fun i => !satB (con0 cs i) (wordL (con0 cs i).vars x)) cs.length
theorem okAll_at {cs : List Con} {x : List Int} (h : okAll cs x = true) {i : Nat} (hi : i < cs.length) : satB (con0 cs i) (wordL (con0 cs i).vars x) = true := by
  unfold okAll at h
  rw [Bool.not_eq_true', anyB_false] at h
  simpa using h i hi
theorem okAll_of {cs : List Con} {x : List Int} (h : ∀ i, i < cs.length → satB (con0 cs i) (wordL (con0 cs i).vars x) = true) : okAll cs x = true := by
  unfold okAll
  rw [Bool.not_eq_true', anyB_false]
  intro i hi
  rw [h i hi]; rfl
/-- The values lie in the domains. -/
def memB (es x : List Int) : Bool := !anyB (fun i => !hasB (at0 es i) (at0 x i).toNat) es.length
def RS.ow9 (D : List Nat) (xs : List Int) (B : World) : RS := ⟨D, fun _ v W => OwnRes xs B (.returned v) W, fun _ _ _ _ h hx => h.grow hx⟩
attribute [local go_sem] evalOf

theorem wordL_val {vs x : List Int} (hx : ValL x) (hv : VarOK vs x.length) : ValL (wordL vs x) := fun i hi => by
  rw [wordL_len] at hi
  rw [wordL_at x hi]
  exact hx _ (hv.rg i hi).2
set_option maxRecDepth 100000 in
set_option maxHeartbeats 8000000 in
theorem holds_any (v vx : Value) (c : Con) (x : List Int) (n : Int) (w : World) (hC : SCon w v c) (hX : SInts w vx x) (hv : vCon c n = true) (hx : ValL x) (hok : VarOK c.vars x.length) :
    Calls Tryz.prog 98 #[v, vx] w (Ret (.bool (satB c (wordL c.vars x))) w) := by
  have hC0 := hide hC
  have hX0 := hide hX
  have HV := hide hv
  have HOK := hide hok
  have HWV := hide (wordL_val hx hok)
  have hvl := vCon_len hv
  have hl4 : c.vars.length ≤ 4 := by omega
  obtain ⟨vv, va, vr, rfl, hV, hA, hR⟩ := hC
  obtain ⟨Av, cv, rfl, -, hlv⟩ := hV.form
  obtain ⟨Aa, ca, rfl, -, hla⟩ := hA.form
  obtain ⟨Ar, cr, rfl, -, hlr⟩ := hR.form
  obtain ⟨Ax, cx, rfl, -, hlx⟩ := hX.form
  obtain ⟨w0, hw0⟩ : ∃ w0, w0 = w.alloc (.cells #[.int .i64 c.kk, .slice Av c.vars.length cv, .slice Aa c.args.length ca, .int .i64 c.bound, .slice Ar c.rows.length cr] 60) := ⟨_, rfl⟩
  have HX0 := hide (show Ext w w0 by rw [hw0]; exact (Ext.refl w).alloc _)
  have K0 := hide (show w0.cell? ⟨w.heap.size, 0, none⟩ = some (.int .i64 c.kk) by rw [hw0]; go_simp)
  have K1 := hide (show w0.cell? ⟨w.heap.size, 1, none⟩ = some (.slice Av c.vars.length cv) by rw [hw0]; go_simp)
  have K2 := hide (show w0.cell? ⟨w.heap.size, 2, none⟩ = some (.slice Aa c.args.length ca) by rw [hw0]; go_simp)
  have K3 := hide (show w0.cell? ⟨w.heap.size, 3, none⟩ = some (.int .i64 c.bound) by rw [hw0]; go_simp)
  have K4 := hide (show w0.cell? ⟨w.heap.size, 4, none⟩ = some (.slice Ar c.rows.length cr) by rw [hw0]; go_simp)
  have ks : w.heap.size < w0.heap.size := by rw [hw0]; simp
  clear hV hA hR hX hv hx hok hvl hlv hla hlr hlx
  go_enter Tryz.func98, Tryz.ntmps98
  go_wp2_with fail
  rw [← hw0]
  clear hw0
  refine wp_region_relT (n := 5) (ts := [5]) (sp := [RS.q [] (fun _ => .agg #[.int .i64 c.kk, .slice Av c.vars.length cv, .slice Aa c.args.length ca, .int .i64 c.bound, .slice Ar c.rows.length cr]), RS.q [] (fun _ => .agg #[.int .i64 c.kk, .slice Av c.vars.length cv, .slice Aa c.args.length ca, .int .i64 c.bound, .slice Ar c.rows.length cr]), RS.q [] (fun _ => .slice Ax x.length cx), RS.ow9 [1, 2] (wordL c.vars x) w0, RS.q [0, 3] (fun _ => .bool (satB c (wordL c.vars x)))])
    (fun W => Ext w0 W) (by kernel_rfl) (relOK (D := [[], [], [], [1, 2], [0, 3]]) rfl (by kernel_rfl) rfl) (by kernel_rfl) ((fun W W' h hx => h.trans hx)) (Ext.refl w0).drew ?steps ?ends
  case steps =>
    refine ⟨?_, ?_, ?_, ?_, ?_, trivial⟩
    · intro V τ W hC hf ht h0
      have s2 : τ 2 = .pointer (some ⟨w.heap.size, 0, none⟩) := h0 2 (by kernel_rfl)
      have k0 := (hC.cells _ _ ks).trans K0.out
      have k1 := (hC.cells _ _ ks).trans K1.out
      have k2 := (hC.cells _ _ ks).trans K2.out
      have k3 := (hC.cells _ _ ks).trans K3.out
      have k4 := (hC.cells _ _ ks).trans K4.out
      refine Does.val (w' := W) (v := .agg #[.int .i64 c.kk, .slice Av c.vars.length cv, .slice Aa c.args.length ca, .int .i64 c.bound, .slice Ar c.rows.length cr]) ?_ ⟨Ext.refl W, rfl⟩
      clear h0 ht hf
      go_simp
    · intro V τ W hC hf ht h0
      have s2 : τ 2 = .pointer (some ⟨w.heap.size, 0, none⟩) := h0 2 (by kernel_rfl)
      have k0 := (hC.cells _ _ ks).trans K0.out
      have k1 := (hC.cells _ _ ks).trans K1.out
      have k2 := (hC.cells _ _ ks).trans K2.out
      have k3 := (hC.cells _ _ ks).trans K3.out
      have k4 := (hC.cells _ _ ks).trans K4.out
      refine Does.val (w' := W) (v := .agg #[.int .i64 c.kk, .slice Av c.vars.length cv, .slice Aa c.args.length ca, .int .i64 c.bound, .slice Ar c.rows.length cr]) ?_ ⟨Ext.refl W, rfl⟩
      clear h0 ht hf
      go_simp
    · intro V τ W hC hf ht h0
      have s1 : τ 1 = .slice Ax x.length cx := h0 1 (by kernel_rfl)
      refine Does.val (w' := W) (v := .slice Ax x.length cx) ?_ ⟨Ext.refl W, rfl⟩
      go_simp
    · intro V τ W hC hf ht h0
      have f1 : V 1 = .agg #[.int .i64 c.kk, .slice Av c.vars.length cv, .slice Aa c.args.length ca, .int .i64 c.bound, .slice Ar c.rows.length cr] := hf 1 (by simp [RS.at_, RS.q, RS.ow9])
      have f2 : V 2 = .slice Ax x.length cx := hf 2 (by simp [RS.at_, RS.q, RS.ow9])
      have s6 := (ht 1 (by simp [RS.at_, RS.q, RS.ow9]) 6 rfl).trans f1
      have s7 := (ht 2 (by simp [RS.at_, RS.q, RS.ow9]) 7 rfl).trans f2
      refine Does.call (w' := W) (f := 93) (args := #[.agg #[.int .i64 c.kk, .slice Av c.vars.length cv, .slice Aa c.args.length ca, .int .i64 c.bound, .slice Ar c.rows.length cr], .slice Ax x.length cx]) (by go_simp; all_goals (first | exact rfl | (apply And.intro <;> exact rfl))) ?_
      refine (word_any _ _ c x _ (hC0.out.ext (HX0.out.trans hC)) (hX0.out.ext (HX0.out.trans hC)) HOK.out (by omega)).mono ?_
      rintro e wa hres
      have hr2 := OwnRes.from hres hC
      obtain ⟨A3, c3, b3, m3, f3, rfl, -, -, -, -, hxa⟩ := hres
      exact ⟨_, rfl, hxa, hr2⟩
    · intro V τ W hC hf ht h0
      have f0 : V 0 = .agg #[.int .i64 c.kk, .slice Av c.vars.length cv, .slice Aa c.args.length ca, .int .i64 c.bound, .slice Ar c.rows.length cr] := hf 0 (by simp [RS.at_, RS.q, RS.ow9])
      have f3 : OwnRes (wordL c.vars x) w0 (.returned (V 3)) W := hf 3 (by simp [RS.at_, RS.q, RS.ow9])
      have s5 := (ht 0 (by simp [RS.at_, RS.q, RS.ow9]) 5 rfl).trans f0
      have s8 : τ 8 = V 3 := ht 3 (by simp [RS.at_, RS.q, RS.ow9]) 8 rfl
      refine Does.call (w' := W) (f := 94) (args := #[.agg #[.int .i64 c.kk, .slice Av c.vars.length cv, .slice Aa c.args.length ca, .int .i64 c.bound, .slice Ar c.rows.length cr], V 3]) (by go_simp; all_goals (first | exact rfl | (apply And.intro <;> exact rfl))) ?_
      refine (satisfied_any _ _ c (wordL c.vars x) n _ (hC0.out.ext (HX0.out.trans hC)) (f3.ints (fun i hi => by have := HWV.out i hi; unfold I64; omega)) HV.out HWV.out (wordL_len _ _)).mono ?_
      rintro e wa ⟨rfl, hxa⟩
      exact ⟨_, rfl, hxa, rfl⟩
  case ends =>
    intro V W hC hf
    have f0 : V 0 = .agg #[.int .i64 c.kk, .slice Av c.vars.length cv, .slice Aa c.args.length ca, .int .i64 c.bound, .slice Ar c.rows.length cr] := hf 0 (by omega)
    have f1 : V 1 = .agg #[.int .i64 c.kk, .slice Av c.vars.length cv, .slice Aa c.args.length ca, .int .i64 c.bound, .slice Ar c.rows.length cr] := hf 1 (by omega)
    have f2 : V 2 = .slice Ax x.length cx := hf 2 (by omega)
    obtain ⟨A8, c8, f3⟩ := (show OwnRes (wordL c.vars x) w0 (.returned (V 3)) W from hf 3 (by omega)).form
    have f4 : V 4 = .bool (satB c (wordL c.vars x)) := hf 4 (by omega)
    clear hf
    simp only [List.take_succ_cons, List.take_zero, putAll, Act.put, List.setIfInBounds_toArray, List.set_cons_succ, List.set_cons_zero, Nat.reduceAdd, f0, f1, f2, f3, f4]
    simp only [nths, nth1]
    clear f0 f1 f2 f3 f4
    have HXE := hide (HX0.out.trans hC)
    clear hC
    go_wp2
    go_ret
    exact Ret.mk rfl HXE.out
theorem isSolution1_any (v vx : Value) (c : Con) (x : List Int) (n : Int) (bx : Nat) (w : World) (hm : w.cell? ⟨bx, 0, none⟩ = some vx) (hbx : bx < w.heap.size) (hC : SCon w v c) (hX : SInts w vx x) (hv : vCon c n = true) (hx : ValL x) (hok : VarOK c.vars x.length) :
    Calls Tryz.prog 97 #[v, .pointer (some ⟨bx, 0, none⟩)] w (Ret (.bool (!satB c (wordL c.vars x))) w) := by
  have hC0 := hide hC
  have hX0 := hide hX
  obtain ⟨vv, va, vr, rfl, hV, hA, hR⟩ := hC
  obtain ⟨Av, cv, rfl, -, hlv⟩ := hV.form
  obtain ⟨Aa, ca, rfl, -, hla⟩ := hA.form
  obtain ⟨Ar, cr, rfl, -, hlr⟩ := hR.form
  obtain ⟨Ax, cx, rfl, -, hlx⟩ := hX.form
  obtain ⟨w0, hw0⟩ : ∃ w0, w0 = w.alloc (.cells #[.int .i64 c.kk, .slice Av c.vars.length cv, .slice Aa c.args.length ca, .int .i64 c.bound, .slice Ar c.rows.length cr] 60) := ⟨_, rfl⟩
  have hx0 : Ext w w0 := by rw [hw0]; exact (Ext.refl w).alloc _
  have K0 : w0.cell? ⟨w.heap.size, 0, none⟩ = some (.int .i64 c.kk) := by rw [hw0]; go_simp
  have K1 : w0.cell? ⟨w.heap.size, 1, none⟩ = some (.slice Av c.vars.length cv) := by rw [hw0]; go_simp
  have K2 : w0.cell? ⟨w.heap.size, 2, none⟩ = some (.slice Aa c.args.length ca) := by rw [hw0]; go_simp
  have K3 : w0.cell? ⟨w.heap.size, 3, none⟩ = some (.int .i64 c.bound) := by rw [hw0]; go_simp
  have K4 : w0.cell? ⟨w.heap.size, 4, none⟩ = some (.slice Ar c.rows.length cr) := by rw [hw0]; go_simp
  have hm := (hx0.cells _ _ hbx).trans hm
  have HX0 := hide hx0
  clear hV hA hR hX hx0
  go_enter Tryz.func97, Tryz.ntmps97
  go_wp2_with fail
  rw [← hw0]
  clear hw0
  go_wp2_with fail
  refine (holds_any _ _ c x n _ (hC0.out.ext HX0.out) (hX0.out.ext HX0.out) hv hx hok).mono ?_
  rintro e w2 ⟨rfl, hx2⟩
  have HX2 := hide (HX0.out.trans hx2)
  clear hx2
  go_wp2
  go_ret
  exact Ret.mk rfl HX2.out
set_option maxRecDepth 100000 in
set_option maxHeartbeats 4000000 in
theorem isSolution_any (v vx : Value) (x D : List Int) (cs : List Con) (w : World) (hM : SMod w v D cs) (hX : SInts w vx x) (hG : GoodD cs D.length D) (hl : x.length = D.length) (h4 : D.length ≤ 4) (hv : ValL x) :
    Calls Tryz.prog 76 #[v, vx] w (Ret (.bool (memB D x && okAll cs x)) w) := by
  have hX0 := hide hX
  have HG := hide hG
  have HV := hide hv
  obtain ⟨vd, vc, rfl, hD, hC⟩ := hM
  have hD0 := hide hD
  have hC0 := hide hC
  obtain ⟨Ad, cd, rfl, -, hld⟩ := hD.form
  obtain ⟨Ac, cc, rfl, -, hlc⟩ := hC.form
  obtain ⟨Ax, cx, rfl, -, hlx⟩ := hX.form
  obtain ⟨w0, hw0⟩ : ∃ w0, w0 = (w.alloc (.cells #[.slice Ad D.length cd, .slice Ac cs.length cc] 26)).alloc (.cells #[.slice Ax x.length cx] 23) := ⟨_, rfl⟩
  have HX0 := hide (show Ext w w0 by rw [hw0]; exact ((Ext.refl w).alloc _).alloc _)
  have K0 := hide (show w0.cell? ⟨w.heap.size, 0, none⟩ = some (.slice Ad D.length cd) by rw [hw0]; go_simp)
  have K1 := hide (show w0.cell? ⟨w.heap.size, 1, none⟩ = some (.slice Ac cs.length cc) by rw [hw0]; go_simp)
  have K2 := hide (show w0.cell? ⟨w.heap.size + 1, 0, none⟩ = some (.slice Ax x.length cx) by rw [hw0]; go_simp)
  have ks : w.heap.size + 1 < w0.heap.size := by rw [hw0]; simp
  have ks0 : w.heap.size < w0.heap.size := by omega
  have KK := hide K2.out
  have k2 := K2.out
  have HL := hide hl
  clear hD hC hX hG hv hl
  go_enter Tryz.func76, Tryz.ntmps76
  go_wp2_with fail
  rw [← hw0]
  clear hw0
  go_wp2_with fail
  go_loopw [9] (fun i wr => ∃ k : Nat, k ≤ x.length ∧ i = .int .i64 k ∧ Ext w0 wr ∧ ∀ j, j < k → (!hasB (at0 D j) (at0 x j).toNat) = false) (fun i _ => x.length - (intOf i).toNat)
  case atStart => exact ⟨0, Nat.zero_le _, rfl, Ext.refl w0, fun j hj => by omega⟩
  case round =>
    obtain ⟨k, hk, rfl, hx, hno⟩ := hrel
    have HNO := hide hno
    have HX := hide (HX0.out.trans hx)
    have HXR := hide hx
    have k0 := (hx.cells _ _ ks0).trans K0.out
    have k1 := (hx.cells _ _ ks0).trans K1.out
    have k2 := (hx.cells _ _ ks).trans KK.out
    have ksr := Nat.lt_of_lt_of_le ks hx.size
    clear hno hx
    by_cases hlt : k < x.length
    · have hkI : (k : Int) < x.length := by omega
      have hkD : k < D.length := by have := HL.out; omega
      have hkDI : (k : Int) < D.length := by omega
      obtain ⟨bx, ox, rfl, hbx, fx⟩ := (hX0.out.ext HX.out).at_ hlt
      obtain ⟨bd, od, rfl, hbd, fd⟩ := (hD0.out.ext HX.out).at_ hkD
      obtain ⟨a, ha6, ha⟩ := HV.out.at_ hlt
      have hdb := HG.out.2.1 k hkD
      rw [ha] at fx
      have HA := hide ha
      obtain ⟨dk, hdk⟩ : ∃ dk, dk = at0 D k := ⟨_, rfl⟩
      rw [← hdk] at fd hdb
      have HDK := hide hdk
      clear ha hdk
      go_wp2_with fail
      refine (has_any dk a _ hdb.1 (by omega) (by omega)).mono ?_
      rintro e w3 ⟨rfl, rfl⟩
      have HB := hide (show (!hasB (at0 D k) (at0 x k).toNat) = !hasB dk a by rw [HA.out, ← HDK.out, Int.toNat_natCast])
      cases hh : hasB dk a with
      | false =>
        have HR := hide (show (memB D x && okAll cs x) = false by
          rw [show memB D x = false by rw [memB, anyB_iff.2 ⟨k, hkD, by rw [HB.out, hh]; rfl⟩]; rfl, Bool.false_and])
        clear hh
        go_wp2
        go_ret
        exact Ret.mk (ret_b HR.out.symm) HX.out
      | true =>
        have HB2 := hide (show (!hasB (at0 D k) (at0 x k).toNat) = false by rw [HB.out, hh]; rfl)
        clear hh
        go_wp2
        go_roundw
        case rel => exact ⟨k + 1, by omega, by go_num, HXR.out, upto_succ HNO.out HB2.out⟩
        case measure => simp [intOf]; omega
    · obtain rfl : k = x.length := by omega
      have hkI : ¬ ((x.length : Int) < x.length) := by omega
      have HMB := hide (show memB D x = true by
        rw [memB, anyB_false.2 (by rw [← HL.out]; exact HNO.out)]; rfl)
      go_wp2_with fail
      refine (ContainsFuncC_any _ cs 97 #[.pointer (some ⟨w.heap.size + 1, 0, none⟩)] (fun i => !satB (con0 cs i) (wordL (con0 cs i).vars x)) _ (hC0.out.ext HX.out) (callFunc_body Tryz.func97 (by decide) rfl) (hide fun i hi vv va vr W hW h1 h2 h3 => ?_)).mono ?_
      · exact isSolution1_any _ _ (con0 cs i) x D.length _ W ((hW.cells _ _ ksr).trans k2) (Nat.lt_of_lt_of_le ksr hW.size) ⟨vv, va, vr, rfl, h1, h2, h3⟩ (hX0.out.ext (HX.out.trans hW)) (HG.out.2.2 i hi) HV.out (by rw [HL.out]; exact vCon_var (HG.out.2.2 i hi))
      rintro e w3 ⟨rfl, hx3⟩
      have HX3 := hide (HX.out.trans hx3)
      clear hx3
      go_wp2
      go_ret
      exact Ret.mk (ret_b (by rw [HMB.out, Bool.true_and]; rfl)) HX3.out
end Go.Proofs.YtalgilgfoekioaaGreatDoor
