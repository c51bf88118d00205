/- Entails: whether all solutions of a model are solutions of another one. -/
import Derived.Test.YtllgicpiddapeaaSolW
namespace Go.Proofs.Ytllgicpiddapeaa
open Go.RowKit
attribute [local go_sem] evalOf

/-- A list lies in the domains and satisfies all constraints. -/
def solB (cs : List Con) (D x : List Int) : Bool := memB D x && okAll cs x
def entB (cs : List Con) (D : List Int) (es : List Con) (E : List Int) : Bool := !anyB (fun i => !solB es E (rw0 (solL cs D) i)) (solL cs D).length
def entV (D : List Int) (cs : List Con) (E : List Int) (es : List Con) : Bool := vMod D cs && (vMod E es && (decide (D.length = E.length) && entB cs D es E))
set_option maxHeartbeats 1000000 in
theorem project_any (v vx : Value) (c : Con) (xs : List Int) (w : World) (hC : SCon w v c) (hX : SInts w vx xs) (hok : VarOK c.vars xs.length) (h4 : c.vars.length ≤ 100) :
    Calls Try.prog 30 #[v, vx] w (OwnRes (wordL c.vars xs) w) := by
  obtain ⟨vv, va, vr, rfl, hV, hA, hR⟩ := hC
  have hV0 := hide hV
  have hX0 := hide hX
  have HOK := hide hok
  obtain ⟨Av, cv, rfl, -, hlv⟩ := hV.form
  obtain ⟨Aa, ca, rfl, -, hla⟩ := hA.form
  obtain ⟨Ar, cr, rfl, -, hlr⟩ := hR.form
  obtain ⟨Ax, cx, rfl, -, hlx⟩ := hX.form
  obtain ⟨w0, hw0⟩ : ∃ w0, w0 = w.alloc (.cells #[.int .i64 c.kk, .slice Av c.vars.length cv, .slice Aa c.args.length ca, .int .i64 c.bound, .slice Ar c.rows.length cr] 52) := ⟨_, rfl⟩
  have HX0 := hide (show Ext w w0 by rw [hw0]; exact (Ext.refl w).alloc _)
  have K1 := hide (show w0.cell? ⟨w.heap.size, 1, none⟩ = some (.slice Av c.vars.length cv) by rw [hw0]; go_simp)
  have ks : w.heap.size < w0.heap.size := by rw [hw0]; simp
  have HS0 := hide (show w0.heap.size = w.heap.size + 1 by rw [hw0]; simp)
  clear hV hA hR hX hok
  go_enter Try.func30, Try.ntmps30
  go_wp2_with fail
  rw [← hw0]
  clear hw0
  go_loopw [5, 6] (fun v i wr => ∃ k : Nat, k ≤ c.vars.length ∧ i = .int .i64 k ∧ Ext w0 wr ∧ AppI w0.heap.size wr v (wordL (c.vars.take k) xs)) (fun _ i _ => c.vars.length - (intOf i).toNat)
  case atStart => exact ⟨0, Nat.zero_le _, rfl, (Ext.refl w0).alloc _, by rw [show w.heap.size + 1 = w0.heap.size from HS0.out.symm]; exact AppI.empty w0⟩
  case round =>
    obtain ⟨k, hk, rfl, hx, hA⟩ := hrel
    have HA := hide hA
    have hlen : (wordL (c.vars.take k) xs).length = k := by rw [wordL_len, List.length_take]; omega
    obtain ⟨A, cc, hv, -⟩ := hA.form
    rw [hlen] at hv
    subst hv
    have HLEN := hide hlen
    have HXX := hide hx
    have k1 := (hx.cells _ _ ks).trans K1.out
    have hsz := hx.size
    clear hA hlen
    by_cases hlt : k < c.vars.length
    · have hkI : (k : Int) < c.vars.length := by omega
      obtain ⟨b, off, rfl, hbl, f1⟩ := (hV0.out.ext (HX0.out.trans hx)).at_ hlt
      obtain ⟨hv0, hvl⟩ := HOK.out.rg k hlt
      obtain ⟨u, hu⟩ : ∃ u : Nat, at0 c.vars k = u := ⟨(at0 c.vars k).toNat, by omega⟩
      rw [hu] at f1 hv0 hvl
      have hul : u < xs.length := by omega
      have hulI : (u : Int) < xs.length := by omega
      obtain ⟨bx, ox, rfl, hbx, f2⟩ := (hX0.out.ext (HX0.out.trans hx)).at_ hul
      have HK := hide (show wordL (c.vars.take k) xs ++ [at0 xs u] = wordL (c.vars.take (k + 1)) xs by
        unfold wordL
        rw [List.take_add_one, List.map_append, List.getElem?_eq_getElem hlt]
        have e : at0 c.vars k = c.vars[k] := getD_lt _ _ hlt
        have : (c.vars[k]).toNat = u := by rw [← e, hu]; rfl
        simp [this])
      clear hu
      go_wp2_with (at_builtin; go_must (refine wpList_app1 _ rfl _ _ rfl w0.heap.size _ (wordL (c.vars.take k) xs) (at0 xs u) _ 1 rfl rfl (HA.out.ext ((Ext.refl _).alloc _)) (by go_simp) (by rw [HLEN.out]; omega) (by simp; omega) ?_); intro v' w2 hA2 hb2)
      have HX2 := hide (show Ext w0 w2 from Below.trans (HXX.out.alloc _) hb2)
      rw [HK.out] at hA2
      have HA2 := hide hA2
      obtain ⟨A2, c2, rfl, -⟩ := hA2.form
      clear hA2 hb2 f1 f2 k1
      go_wp2_with fail
      go_roundw
      case rel => exact ⟨k + 1, by omega, by go_num, HX2.out, HA2.out⟩
      case measure => simp [intOf]; omega
    · obtain rfl : k = c.vars.length := by omega
      have hkI : ¬ ((c.vars.length : Int) < c.vars.length) := by omega
      have HE := hide (show OwnRes (wordL c.vars xs) w (.returned (.slice A c.vars.length cc)) wr by
        have h := HA.out
        rw [List.take_length] at h
        exact (h.res HXX.out (by rw [wordL_len]; omega)).from HX0.out)
      go_wp2
      go_ret
      exact HE.out
set_option maxRecDepth 100000 in
set_option maxHeartbeats 4000000 in
theorem isSolutionS_any (v vx : Value) (x D : List Int) (cs : List Con) (w : World) (hM : SMod w v D cs) (hX : SInts w vx x) (hG : GoodD cs D.length D) (hl : x.length = D.length) (h4 : D.length ≤ 4) (hv : ValL x) :
    Calls Try.prog 13 #[v, vx] w (Ret (.bool (solB cs D x)) w) := by
  have hX0 := hide hX
  have HG := hide hG
  have HV := hide hv
  have HL := hide hl
  obtain ⟨vd, vc, rfl, hD, hC⟩ := hM
  have hD0 := hide hD
  have hC0 := hide hC
  obtain ⟨Ad, cd, rfl, -, hld⟩ := hD.form
  obtain ⟨Ac, cc, rfl, -, hlc⟩ := hC.form
  obtain ⟨Ax, cx, rfl, -, hlx⟩ := hX.form
  obtain ⟨w0, hw0⟩ : ∃ w0, w0 = w.alloc (.cells #[.slice Ad D.length cd, .slice Ac cs.length cc] 30) := ⟨_, rfl⟩
  have HX0 := hide (show Ext w w0 by rw [hw0]; exact (Ext.refl w).alloc _)
  have K0 := hide (show w0.cell? ⟨w.heap.size, 0, none⟩ = some (.slice Ad D.length cd) by rw [hw0]; go_simp)
  have K1 := hide (show w0.cell? ⟨w.heap.size, 1, none⟩ = some (.slice Ac cs.length cc) by rw [hw0]; go_simp)
  have ks : w.heap.size < w0.heap.size := by rw [hw0]; simp
  clear hD hC hX hG hv hl
  go_enter Try.func13, Try.ntmps13
  go_wp2_with fail
  rw [← hw0]
  clear hw0
  go_loopw [5] (fun i wr => ∃ k : Nat, k ≤ x.length ∧ i = .int .i64 k ∧ Ext w0 wr ∧ ∀ j, j < k → (!hasB (at0 D j) (at0 x j).toNat) = false) (fun i _ => x.length - (intOf i).toNat)
  case atStart => exact ⟨0, Nat.zero_le _, rfl, Ext.refl w0, fun j hj => by omega⟩
  case round =>
    obtain ⟨k, hk, rfl, hx, hno⟩ := hrel
    have HNO := hide hno
    have HX := hide (HX0.out.trans hx)
    have HXR := hide hx
    have k0 := (hx.cells _ _ ks).trans K0.out
    have k1 := (hx.cells _ _ ks).trans K1.out
    have ksr := Nat.lt_of_lt_of_le ks hx.size
    clear hno hx
    by_cases hlt : k < x.length
    · have hkI : (k : Int) < x.length := by omega
      have hkD : k < D.length := by have := HL.out; omega
      have hkDI : (k : Int) < D.length := by omega
      obtain ⟨bx, ox, rfl, hbx, fx⟩ := (hX0.out.ext HX.out).at_ hlt
      obtain ⟨bd, od, rfl, hbd, fd⟩ := (hD0.out.ext HX.out).at_ hkD
      obtain ⟨a, ha6, ha⟩ := HV.out.at_ hlt
      have hdb := HG.out.2.1 k hkD
      rw [ha] at fx
      have HA := hide ha
      obtain ⟨dk, hdk⟩ : ∃ dk, dk = at0 D k := ⟨_, rfl⟩
      rw [← hdk] at fd hdb
      have HDK := hide hdk
      clear ha hdk
      go_wp2_with fail
      refine wp_region_ext (by kernel_rfl) (by kernel_rfl) ?_
      iterate 9 (apply quiet_val; (focus rfl); (focus (intro w' hw'; have hk' := hw'.cells; go_simp; all_goals exact rfl)); simp only [Act.put, List.setIfInBounds_toArray, List.set_cons_succ, List.set_cons_zero])
      apply quiet_call; (focus rfl); (focus (intro w' hw'; go_simp; all_goals (first | exact rfl | (apply And.intro <;> exact rfl))))
      · exact fun w' hw' => same_quiet (domainHas_any dk a w' hdb.1 (by omega) (by omega)) hw'
      (simp only [Act.put, List.setIfInBounds_toArray, List.set_cons_succ, List.set_cons_zero])
      (apply quiet_val; (focus rfl); (focus (intro w' hw'; have hk' := hw'.cells; go_simp; all_goals exact rfl)); simp only [Act.put, List.setIfInBounds_toArray, List.set_cons_succ, List.set_cons_zero])
      refine wpQuiet_nil ?_
      intro w3 hx3
      have HXR := hide (HXR.out.trans hx3)
      have HX := hide (HX.out.trans hx3)
      clear hx3 k0 k1 fx fd
      have HB := hide (show (!hasB (at0 D k) (at0 x k).toNat) = !hasB dk a by rw [HA.out, ← HDK.out, Int.toNat_natCast])
      cases hh : hasB dk a with
      | false =>
        have HR := hide (show solB cs D x = false by
          rw [solB, show memB D x = false by rw [memB, anyB_iff.2 ⟨k, hkD, by rw [HB.out, hh]; rfl⟩]; rfl, Bool.false_and])
        clear hh
        go_wp2
        go_ret
        exact Ret.mk (ret_b HR.out.symm) HX.out
      | true =>
        have HB2 := hide (show (!hasB (at0 D k) (at0 x k).toNat) = false by rw [HB.out, hh]; rfl)
        clear hh
        go_wp2
        go_roundw
        case rel => exact ⟨k + 1, by omega, by go_num, HXR.out, upto_succ HNO.out HB2.out⟩
        case measure => simp [intOf]; omega
    · obtain rfl : k = x.length := by omega
      have hkI : ¬ ((x.length : Int) < x.length) := by omega
      have HMB := hide (show memB D x = true by
        rw [memB, anyB_false.2 (by rw [← HL.out]; exact HNO.out)]; rfl)
      obtain ⟨wL, rfl⟩ : ∃ wL, wL = wr := ⟨wr, rfl⟩
      go_wp2_with fail
      go_loopw [6] (fun i wr2 => ∃ k : Nat, k ≤ cs.length ∧ i = .int .i64 k ∧ Ext w0 wr2 ∧ ∀ j, j < k → (!satB (con0 cs j) (wordL (con0 cs j).vars x)) = false) (fun i _ => cs.length - (intOf i).toNat)
      case atStart => exact ⟨0, Nat.zero_le _, rfl, HXR.out, fun j hj => by omega⟩
      case round =>
        obtain ⟨k, hk, rfl, hx, hno⟩ := hrel
        have HNO2 := hide hno
        have HXX := hide (HX0.out.trans hx)
        have HXR2 := hide hx
        have k0 := (hx.cells _ _ ks).trans K0.out
        have k1 := (hx.cells _ _ ks).trans K1.out
        have ksr := Nat.lt_of_lt_of_le ks hx.size
        clear hno hx
        by_cases hlt : k < cs.length
        · have hkI2 : (k : Int) < cs.length := by omega
          obtain ⟨b, off, rfl, hbl, vv, va, vr, g1, g2, g3, g4, g5, q1, q2, q3⟩ := (hC0.out.ext HXX.out).at_ hlt
          obtain ⟨Av, cv, rfl, -, -⟩ := q1.form
          obtain ⟨Aa, ca, rfl, -, -⟩ := q2.form
          obtain ⟨Ar, cr, rfl, -, -⟩ := q3.form
          obtain ⟨w3, rfl⟩ : ∃ w3, w3 = wr := ⟨wr, rfl⟩
          have HC := hide (show SCon w3 (.agg #[.int .i64 (con0 cs k).kk, .slice Av (con0 cs k).vars.length cv, .slice Aa (con0 cs k).args.length ca, .int .i64 (con0 cs k).bound, .slice Ar (con0 cs k).rows.length cr]) (con0 cs k) from ⟨_, _, _, rfl, q1, q2, q3⟩)
          have HCV := hide (HG.out.2.2 k hlt)
          have hvl := vCon_len (HG.out.2.2 k hlt)
          have HV4 := hide (show (con0 cs k).vars.length ≤ 4 by omega)
          have HOKC := hide (show VarOK (con0 cs k).vars x.length by rw [HL.out]; exact vCon_var (HG.out.2.2 k hlt))
          have HWV := hide (wordL_val HV.out HOKC.out)
          clear q1 q2 q3 hvl
          go_wp2_with fail
          refine wp_region_relT (n := 14) (ts := []) (sp := [RS.q [] (fun _ => .pointer (some ⟨w.heap.size, 1, none⟩)), RS.q [0] (fun _ => .slice (some ⟨b, off, none⟩) cs.length cc), RS.q [] (fun _ => .int .i64 k), RS.q [1, 2] (fun _ => .pointer (some ⟨b, off + k * 5, none⟩)), RS.q [3] (fun _ => .agg #[.int .i64 (con0 cs k).kk, .slice Av (con0 cs k).vars.length cv, .slice Aa (con0 cs k).args.length ca, .int .i64 (con0 cs k).bound, .slice Ar (con0 cs k).rows.length cr]), RS.q [] (fun _ => .pointer (some ⟨w.heap.size, 1, none⟩)), RS.q [5] (fun _ => .slice (some ⟨b, off, none⟩) cs.length cc), RS.q [] (fun _ => .int .i64 k), RS.q [6, 7] (fun _ => .pointer (some ⟨b, off + k * 5, none⟩)), RS.q [8] (fun _ => .agg #[.int .i64 (con0 cs k).kk, .slice Av (con0 cs k).vars.length cv, .slice Aa (con0 cs k).args.length ca, .int .i64 (con0 cs k).bound, .slice Ar (con0 cs k).rows.length cr]), RS.q [] (fun _ => .slice Ax x.length cx), RS.ow [9, 10] ((wordL (con0 cs k).vars x)) w3, RS.q [4, 11] (fun _ => .bool (satB (con0 cs k) (wordL (con0 cs k).vars x))), RS.q [12] (fun _ => .bool (!satB (con0 cs k) (wordL (con0 cs k).vars x)))])
            (fun W => Ext w3 W) (by kernel_rfl) (relOK (D := [[], [0], [], [1, 2], [3], [], [5], [], [6, 7], [8], [], [9, 10], [4, 11], [12]]) rfl (by kernel_rfl) rfl) (by kernel_rfl) ((fun W W' h hx => h.trans hx)) (Ext.refl w3).drew ?steps ?ends
          case steps =>
            refine ⟨?_, ?_, ?_, ?_, ?_, ?_, ?_, ?_, ?_, ?_, ?_, ?_, ?_, ?_, trivial⟩
            · intro V τ W hC hf ht h0
              have s2 : τ 2 = .pointer (some ⟨w.heap.size, 0, none⟩) := h0 2 (by kernel_rfl)
              refine Does.val (w' := W) (v := .pointer (some ⟨w.heap.size, 1, none⟩)) ?_ ⟨Ext.refl W, rfl⟩
              clear h0 ht hf
              go_simp
            · intro V τ W hC hf ht h0
              have f0 : V 0 = .pointer (some ⟨w.heap.size, 1, none⟩) := hf 0 (by simp [RS.at_, RS.q, RS.ow])
              have s31 := (ht 0 (by simp [RS.at_, RS.q, RS.ow]) 31 rfl).trans f0
              have k1 := (hC.cells _ _ ksr).trans k1
              refine Does.val (w' := W) (v := .slice (some ⟨b, off, none⟩) cs.length cc) ?_ ⟨Ext.refl W, rfl⟩
              clear h0 ht hf
              go_simp
            · intro V τ W hC hf ht h0
              have s6 : τ 6 = .int .i64 k := h0 6 (by kernel_rfl)
              refine Does.val (w' := W) (v := .int .i64 k) ?_ ⟨Ext.refl W, rfl⟩
              clear h0 ht hf
              go_simp
            · intro V τ W hC hf ht h0
              have f1 : V 1 = .slice (some ⟨b, off, none⟩) cs.length cc := hf 1 (by simp [RS.at_, RS.q, RS.ow])
              have f2 : V 2 = .int .i64 k := hf 2 (by simp [RS.at_, RS.q, RS.ow])
              have s32 := (ht 1 (by simp [RS.at_, RS.q, RS.ow]) 32 rfl).trans f1
              have s33 := (ht 2 (by simp [RS.at_, RS.q, RS.ow]) 33 rfl).trans f2
              refine Does.val (w' := W) (v := .pointer (some ⟨b, off + k * 5, none⟩)) ?_ ⟨Ext.refl W, rfl⟩
              clear h0 ht hf
              go_simp
            · intro V τ W hC hf ht h0
              have f3 : V 3 = .pointer (some ⟨b, off + k * 5, none⟩) := hf 3 (by simp [RS.at_, RS.q, RS.ow])
              have s34 := (ht 3 (by simp [RS.at_, RS.q, RS.ow]) 34 rfl).trans f3
              have p1 := (hC.cells _ _ hbl).trans g1
              have p2 := (hC.cells _ _ hbl).trans g2
              have p3 := (hC.cells _ _ hbl).trans g3
              have p4 := (hC.cells _ _ hbl).trans g4
              have p5 := (hC.cells _ _ hbl).trans g5
              refine Does.val (w' := W) (v := .agg #[.int .i64 (con0 cs k).kk, .slice Av (con0 cs k).vars.length cv, .slice Aa (con0 cs k).args.length ca, .int .i64 (con0 cs k).bound, .slice Ar (con0 cs k).rows.length cr]) ?_ ⟨Ext.refl W, rfl⟩
              clear h0 ht hf
              go_simp
            · intro V τ W hC hf ht h0
              have s2 : τ 2 = .pointer (some ⟨w.heap.size, 0, none⟩) := h0 2 (by kernel_rfl)
              refine Does.val (w' := W) (v := .pointer (some ⟨w.heap.size, 1, none⟩)) ?_ ⟨Ext.refl W, rfl⟩
              clear h0 ht hf
              go_simp
            · intro V τ W hC hf ht h0
              have f5 : V 5 = .pointer (some ⟨w.heap.size, 1, none⟩) := hf 5 (by simp [RS.at_, RS.q, RS.ow])
              have s36 := (ht 5 (by simp [RS.at_, RS.q, RS.ow]) 36 rfl).trans f5
              have k1 := (hC.cells _ _ ksr).trans k1
              refine Does.val (w' := W) (v := .slice (some ⟨b, off, none⟩) cs.length cc) ?_ ⟨Ext.refl W, rfl⟩
              clear h0 ht hf
              go_simp
            · intro V τ W hC hf ht h0
              have s6 : τ 6 = .int .i64 k := h0 6 (by kernel_rfl)
              refine Does.val (w' := W) (v := .int .i64 k) ?_ ⟨Ext.refl W, rfl⟩
              clear h0 ht hf
              go_simp
            · intro V τ W hC hf ht h0
              have f6 : V 6 = .slice (some ⟨b, off, none⟩) cs.length cc := hf 6 (by simp [RS.at_, RS.q, RS.ow])
              have f7 : V 7 = .int .i64 k := hf 7 (by simp [RS.at_, RS.q, RS.ow])
              have s37 := (ht 6 (by simp [RS.at_, RS.q, RS.ow]) 37 rfl).trans f6
              have s38 := (ht 7 (by simp [RS.at_, RS.q, RS.ow]) 38 rfl).trans f7
              refine Does.val (w' := W) (v := .pointer (some ⟨b, off + k * 5, none⟩)) ?_ ⟨Ext.refl W, rfl⟩
              clear h0 ht hf
              go_simp
            · intro V τ W hC hf ht h0
              have f8 : V 8 = .pointer (some ⟨b, off + k * 5, none⟩) := hf 8 (by simp [RS.at_, RS.q, RS.ow])
              have s39 := (ht 8 (by simp [RS.at_, RS.q, RS.ow]) 39 rfl).trans f8
              have p1 := (hC.cells _ _ hbl).trans g1
              have p2 := (hC.cells _ _ hbl).trans g2
              have p3 := (hC.cells _ _ hbl).trans g3
              have p4 := (hC.cells _ _ hbl).trans g4
              have p5 := (hC.cells _ _ hbl).trans g5
              refine Does.val (w' := W) (v := .agg #[.int .i64 (con0 cs k).kk, .slice Av (con0 cs k).vars.length cv, .slice Aa (con0 cs k).args.length ca, .int .i64 (con0 cs k).bound, .slice Ar (con0 cs k).rows.length cr]) ?_ ⟨Ext.refl W, rfl⟩
              clear h0 ht hf
              go_simp
            · intro V τ W hC hf ht h0
              have s1 : τ 1 = .slice Ax x.length cx := h0 1 (by kernel_rfl)
              refine Does.val (w' := W) (v := .slice Ax x.length cx) ?_ ⟨Ext.refl W, rfl⟩
              clear h0 ht hf
              go_simp
            · intro V τ W hC hf ht h0
              have f9 : V 9 = .agg #[.int .i64 (con0 cs k).kk, .slice Av (con0 cs k).vars.length cv, .slice Aa (con0 cs k).args.length ca, .int .i64 (con0 cs k).bound, .slice Ar (con0 cs k).rows.length cr] := hf 9 (by simp [RS.at_, RS.q, RS.ow])
              have f10 : V 10 = .slice Ax x.length cx := hf 10 (by simp [RS.at_, RS.q, RS.ow])
              have s40 := (ht 9 (by simp [RS.at_, RS.q, RS.ow]) 40 rfl).trans f9
              have s41 := (ht 10 (by simp [RS.at_, RS.q, RS.ow]) 41 rfl).trans f10
              refine Does.call (w' := W) (f := 30) (args := #[.agg #[.int .i64 (con0 cs k).kk, .slice Av (con0 cs k).vars.length cv, .slice Aa (con0 cs k).args.length ca, .int .i64 (con0 cs k).bound, .slice Ar (con0 cs k).rows.length cr], .slice Ax x.length cx]) (by go_simp; all_goals (first | exact rfl | (apply And.intro <;> exact rfl))) ?_
              refine (project_any _ _ (con0 cs k) x _ (HC.out.ext hC) (hX0.out.ext (HXX.out.trans hC)) HOKC.out (by have := HV4.out; omega)).mono ?_
              rintro e wa hres
              have hr2 := OwnRes.from hres hC
              obtain ⟨A3, c3, b3, m3, f3, rfl, -, -, -, -, hxa⟩ := hres
              exact ⟨_, rfl, hxa, hr2⟩
            · intro V τ W hC hf ht h0
              have f4 : V 4 = .agg #[.int .i64 (con0 cs k).kk, .slice Av (con0 cs k).vars.length cv, .slice Aa (con0 cs k).args.length ca, .int .i64 (con0 cs k).bound, .slice Ar (con0 cs k).rows.length cr] := hf 4 (by simp [RS.at_, RS.q, RS.ow])
              have f11 : OwnRes (wordL (con0 cs k).vars x) w3 (.returned (V 11)) W := hf 11 (by simp [RS.at_, RS.q, RS.ow])
              have s35 := (ht 4 (by simp [RS.at_, RS.q, RS.ow]) 35 rfl).trans f4
              have s42 : τ 42 = V 11 := ht 11 (by simp [RS.at_, RS.q, RS.ow]) 42 rfl
              refine Does.call (w' := W) (f := 29) (args := #[.agg #[.int .i64 (con0 cs k).kk, .slice Av (con0 cs k).vars.length cv, .slice Aa (con0 cs k).args.length ca, .int .i64 (con0 cs k).bound, .slice Ar (con0 cs k).rows.length cr], V 11]) (by go_simp; all_goals (first | exact rfl | (apply And.intro <;> exact rfl))) ?_
              refine (satisfiesS_any _ _ (con0 cs k) (wordL (con0 cs k).vars x) D.length _ (HC.out.ext hC) (f11.ints (fun i hi => by have := HWV.out i hi; unfold I64; omega)) HCV.out HWV.out (wordL_len _ _)).mono ?_
              rintro e wa ⟨rfl, hxa⟩
              exact ⟨_, rfl, hxa, rfl⟩
            · intro V τ W hC hf ht h0
              have f12 : V 12 = .bool (satB (con0 cs k) (wordL (con0 cs k).vars x)) := hf 12 (by simp [RS.at_, RS.q, RS.ow])
              have s43 := (ht 12 (by simp [RS.at_, RS.q, RS.ow]) 43 rfl).trans f12
              refine Does.val (w' := W) (v := .bool (!satB (con0 cs k) (wordL (con0 cs k).vars x))) ?_ ⟨Ext.refl W, rfl⟩
              go_simp
          case ends =>
            intro V W hC hf
            have f0 : V 0 = .pointer (some ⟨w.heap.size, 1, none⟩) := hf 0 (by omega)
            have f1 : V 1 = .slice (some ⟨b, off, none⟩) cs.length cc := hf 1 (by omega)
            have f2 : V 2 = .int .i64 k := hf 2 (by omega)
            have f3 : V 3 = .pointer (some ⟨b, off + k * 5, none⟩) := hf 3 (by omega)
            have f4 : V 4 = .agg #[.int .i64 (con0 cs k).kk, .slice Av (con0 cs k).vars.length cv, .slice Aa (con0 cs k).args.length ca, .int .i64 (con0 cs k).bound, .slice Ar (con0 cs k).rows.length cr] := hf 4 (by omega)
            have f5 : V 5 = .pointer (some ⟨w.heap.size, 1, none⟩) := hf 5 (by omega)
            have f6 : V 6 = .slice (some ⟨b, off, none⟩) cs.length cc := hf 6 (by omega)
            have f7 : V 7 = .int .i64 k := hf 7 (by omega)
            have f8 : V 8 = .pointer (some ⟨b, off + k * 5, none⟩) := hf 8 (by omega)
            have f9 : V 9 = .agg #[.int .i64 (con0 cs k).kk, .slice Av (con0 cs k).vars.length cv, .slice Aa (con0 cs k).args.length ca, .int .i64 (con0 cs k).bound, .slice Ar (con0 cs k).rows.length cr] := hf 9 (by omega)
            have f10 : V 10 = .slice Ax x.length cx := hf 10 (by omega)
            obtain ⟨A8, c8, f11⟩ := (show OwnRes (wordL (con0 cs k).vars x) w3 (.returned (V 11)) W from hf 11 (by omega)).form
            have f12 : V 12 = .bool (satB (con0 cs k) (wordL (con0 cs k).vars x)) := hf 12 (by omega)
            have f13 : V 13 = .bool (!satB (con0 cs k) (wordL (con0 cs k).vars x)) := hf 13 (by omega)
            clear hf
            simp only [List.take_succ_cons, List.take_zero, putAll, Act.put, List.setIfInBounds_toArray, List.set_cons_succ, List.set_cons_zero, Nat.reduceAdd, f0, f1, f2, f3, f4, f5, f6, f7, f8, f9, f10, f11, f12, f13]
            simp only [nths]
            clear f0 f1 f2 f3 f4 f5 f6 f7 f8 f9 f10 f11 f12 f13
            have HXE := hide (HXR2.out.trans hC)
            clear hC
            cases hs : satB (con0 cs k) (wordL (con0 cs k).vars x) with
            | true =>
              have HS := hide (show (!satB (con0 cs k) (wordL (con0 cs k).vars x)) = false by rw [hs]; rfl)
              clear hs
              go_wp2
              go_roundw
              case rel => exact ⟨k + 1, by omega, by go_num, HXE.out, upto_succ HNO2.out HS.out⟩
              case measure => simp [intOf]; omega
            | false =>
              have HO := hide (show solB cs D x = false by rw [solB, okAll, anyB_iff.2 ⟨k, hlt, by rw [hs]; rfl⟩]; simp)
              clear hs
              go_wp2
              go_ret
              exact Ret.mk (ret_b HO.out.symm) (HX0.out.trans HXE.out)
        · obtain rfl : k = cs.length := by omega
          have hkI2 : ¬ ((cs.length : Int) < cs.length) := by omega
          have HO := hide (show solB cs D x = true by rw [solB, HMB.out, okAll, anyB_false.2 HNO2.out]; rfl)
          go_wp2
          go_ret
          exact Ret.mk (ret_b HO.out.symm) HXX.out
set_option maxRecDepth 100000 in
set_option maxHeartbeats 8000000 in
theorem EntailsS_any (v v' : Value) (D E : List Int) (cs es : List Con) (w : World) (hM : SMod w v D cs) (hN : SMod w v' E es) :
    Calls Try.prog 5 #[v, v'] w (Ret (.bool (entV D cs E es)) w) := by
  have hM0 := hide hM
  have hN0 := hide hN
  obtain ⟨vd, vc, rfl, hD, hC⟩ := hM
  obtain ⟨ve, vg, rfl, hE, hG⟩ := hN
  obtain ⟨Ad, cd, rfl, -, hld⟩ := hD.form
  obtain ⟨Ac, cc, rfl, -, hlc⟩ := hC.form
  obtain ⟨Ae, ce, rfl, -, hle⟩ := hE.form
  obtain ⟨Ag, cg, rfl, -, hlg⟩ := hG.form
  obtain ⟨w0, hw0⟩ : ∃ w0, w0 = (w.alloc (.cells #[.slice Ad D.length cd, .slice Ac cs.length cc] 30)).alloc (.cells #[.slice Ae E.length ce, .slice Ag es.length cg] 30) := ⟨_, rfl⟩
  have HX0 := hide (show Ext w w0 by rw [hw0]; exact ((Ext.refl w).alloc _).alloc _)
  have k0 : w0.cell? ⟨w.heap.size, 0, none⟩ = some (.slice Ad D.length cd) := by rw [hw0]; go_simp
  have k1 : w0.cell? ⟨w.heap.size, 1, none⟩ = some (.slice Ac cs.length cc) := by rw [hw0]; go_simp
  have k2 : w0.cell? ⟨w.heap.size + 1, 0, none⟩ = some (.slice Ae E.length ce) := by rw [hw0]; go_simp
  have k3 : w0.cell? ⟨w.heap.size + 1, 1, none⟩ = some (.slice Ag es.length cg) := by rw [hw0]; go_simp
  have ks : w.heap.size + 1 < w0.heap.size := by rw [hw0]; simp
  have ks0 : w.heap.size < w0.heap.size := by omega
  clear hD hC hE hG
  go_enter Try.func5, Try.ntmps5
  go_wp2_with fail
  rw [← hw0]
  clear hw0
  refine (validModelS_any _ D cs _ (hM0.out.ext HX0.out)).mono ?_
  rintro e w1 ⟨rfl, hx1⟩
  have k0 := (hx1.cells _ _ ks0).trans k0
  have k1 := (hx1.cells _ _ ks0).trans k1
  have k2 := (hx1.cells _ _ ks).trans k2
  have k3 := (hx1.cells _ _ ks).trans k3
  have ks := Nat.lt_of_lt_of_le ks hx1.size
  have ks0 := Nat.lt_of_lt_of_le ks0 hx1.size
  have HX1 := hide (HX0.out.trans hx1)
  clear hx1
  cases hv : vMod D cs with
  | false =>
    have HV := hide (show entV D cs E es = false by rw [entV, hv]; rfl)
    clear hv
    go_wp2
    go_ret
    exact Ret.mk (ret_b HV.out.symm) HX1.out
  | true =>
    go_wp2_with fail
    refine (validModelS_any _ E es _ (hN0.out.ext HX1.out)).mono ?_
    rintro e w2 ⟨rfl, hx2⟩
    have k0 := (hx2.cells _ _ ks0).trans k0
    have k1 := (hx2.cells _ _ ks0).trans k1
    have k2 := (hx2.cells _ _ ks).trans k2
    have k3 := (hx2.cells _ _ ks).trans k3
    have ks := Nat.lt_of_lt_of_le ks hx2.size
    have ks0 := Nat.lt_of_lt_of_le ks0 hx2.size
    have HX2 := hide (HX1.out.trans hx2)
    clear hx2
    cases hv2 : vMod E es with
    | false =>
      have HV := hide (show entV D cs E es = false by rw [entV, hv2, Bool.false_and, Bool.and_false])
      clear hv hv2
      go_wp2
      go_ret
      exact Ret.mk (ret_b HV.out.symm) HX2.out
    | true =>
      obtain ⟨hG, h1, h4⟩ := vMod_good hv
      obtain ⟨hG2, -, g4⟩ := vMod_good hv2
      have HG := hide hG
      have HG2 := hide hG2
      by_cases hl : D.length = E.length
      · have hne : ((D.length : Int) != (E.length : Int)) = false := by simp [hl]
        have HL := hide hl
        have HV := hide (show entV D cs E es = entB cs D es E by rw [entV, hv, hv2, decide_eq_true hl]; rfl)
        clear hv hv2 hl hG hG2
        go_wp2_with fail
        refine (solveS_any _ D cs 4096 _ (hM0.out.ext HX2.out) HG.out h1 h4 (by omega) (by omega)).mono ?_
        rintro e w3 ⟨A, c, m, rfl, hA, hx3⟩
        have hS := sol_rows hA h4
        have hsm := solL_small (cs := cs) h4
        rw [List.take_of_length_le (by omega)] at hS
        rw [show ((solL cs D).take 4096).length = (solL cs D).length by rw [List.take_of_length_le (by omega)]]
        have HS := hide hS
        have HX3 := hide (HX2.out.trans hx3)
        have k0 := (hx3.cells _ _ ks0).trans k0
        have k1 := (hx3.cells _ _ ks0).trans k1
        have k2 := (hx3.cells _ _ ks).trans k2
        have k3 := (hx3.cells _ _ ks).trans k3
        have ks := Nat.lt_of_lt_of_le ks hx3.size
        have ks0 := Nat.lt_of_lt_of_le ks0 hx3.size
        have HMEM := hide (show ∀ k, k < (solL cs D).length → (rw0 (solL cs D) k).length = E.length ∧ ValL (rw0 (solL cs D) k) from fun k hk => by rw [← HL.out]; exact rw0_sol hk)
        have HNB := hide (show entB cs D es E = !anyB (fun i => !solB es E (rw0 (solL cs D) i)) (solL cs D).length from rfl)
        obtain ⟨rs, hrs⟩ : ∃ rs, rs = solL cs D := ⟨_, rfl⟩
        rw [← hrs] at HS HMEM HNB hsm ⊢
        have K2 := hide k2
        have K3 := hide k3
        clear hA hx3 hS hrs k0 k1 k2 k3
        go_wp2_with fail
        go_loopw [7] (fun i wr => ∃ k : Nat, k ≤ rs.length ∧ i = .int .i64 k ∧ Ext w3 wr ∧ ∀ j, j < k → (!solB es E (rw0 rs j)) = false) (fun i _ => rs.length - (intOf i).toNat)
        case atStart => exact ⟨0, Nat.zero_le _, rfl, Ext.refl w3, fun j hj => by omega⟩
        case round =>
          obtain ⟨k, hk, rfl, hx, hno⟩ := hrel
          have HNO := hide hno
          have HX := hide (HX3.out.trans hx)
          have HXR := hide hx
          have HSR := hide (HS.out.ext hx)
          have k2 := (hx.cells _ _ ks).trans K2.out
          have k3 := (hx.cells _ _ ks).trans K3.out
          have ksr := Nat.lt_of_lt_of_le ks hx.size
          clear hno hx
          by_cases hlt : k < rs.length
          · have hkI : (k : Int) < rs.length := by omega
            obtain ⟨b, off, A', c', rfl, hbl, f1, hrow⟩ := HSR.out.at_ hlt
            have HROW := hide hrow
            obtain ⟨q, hq⟩ : ∃ q : Bool, q = solB es E (rw0 rs k) := ⟨_, rfl⟩
            have HQ := hide hq
            clear hrow hq
            go_wp2_with fail
            refine wp_region_ext (by kernel_rfl) (by kernel_rfl) ?_
            iterate 5 (apply quiet_val; (focus rfl); (focus (intro w' hw'; have hk' := hw'.cells; go_simp; all_goals exact rfl)); simp only [Act.put, List.setIfInBounds_toArray, List.set_cons_succ, List.set_cons_zero])
            apply quiet_call; (focus rfl); (focus (intro w' hw'; go_simp; all_goals (first | exact rfl | (apply And.intro <;> exact rfl))))
            · exact fun w' hw' => Ret.quiet ((isSolutionS_any _ _ (rw0 rs k) E es w' (hN0.out.ext (HX.out.trans hw')) (HROW.out.ext hw') HG2.out (HMEM.out k hlt).1 g4 (HMEM.out k hlt).2).mono fun e w2 h => by rw [← HQ.out] at h; exact h) hw'
            (simp only [Act.put, List.setIfInBounds_toArray, List.set_cons_succ, List.set_cons_zero])
            (apply quiet_val; (focus rfl); (focus (intro w' hw'; have hk' := hw'.cells; go_simp; all_goals exact rfl)); simp only [Act.put, List.setIfInBounds_toArray, List.set_cons_succ, List.set_cons_zero])
            refine wpQuiet_nil ?_
            intro w5 hx5
            have HX5 := hide (HXR.out.trans hx5)
            have HX := hide (HX.out.trans hx5)
            clear hx5 f1 k2 k3
            cases hqq : q with
            | false =>
              have HR := hide (show entB cs D es E = false by rw [HNB.out, anyB_iff.2 ⟨k, hlt, by rw [← HQ.out, hqq]; rfl⟩]; rfl)
              clear hqq
              go_wp2
              go_ret
              exact Ret.mk (ret_b (by rw [HV.out, HR.out])) HX.out
            | true =>
              have HT := hide (show (!solB es E (rw0 rs k)) = false by rw [← HQ.out, hqq]; rfl)
              clear hqq
              go_wp2
              go_roundw
              case rel => exact ⟨k + 1, by omega, by go_num, HX5.out, upto_succ HNO.out HT.out⟩
              case measure => simp [intOf]; omega
          · obtain rfl : k = rs.length := by omega
            have hkI : ¬ ((rs.length : Int) < rs.length) := by omega
            have HR := hide (show entB cs D es E = true by rw [HNB.out, anyB_false.2 HNO.out]; rfl)
            go_wp2
            go_ret
            exact Ret.mk (ret_b (by rw [HV.out, HR.out])) HX.out
      · have hne : ((D.length : Int) != (E.length : Int)) = true := by simp; omega
        have HV := hide (show entV D cs E es = false by rw [entV, decide_eq_false hl, Bool.false_and, Bool.and_false, Bool.and_false])
        clear hv hv2 hl hG hG2
        go_wp2
        go_ret
        exact Ret.mk (ret_b HV.out.symm) HX2.out
theorem Entails1_any (v v' : Value) (x E : List Int) (es : List Con) (bm : Nat) (w : World) (hS : SInts w v x) (hN : SMod w v' E es) (hm : ∀ ve vg, v' = .agg #[ve, vg] → w.cell? ⟨bm, 0, none⟩ = some ve ∧ w.cell? ⟨bm, 1, none⟩ = some vg) (hG : GoodD es E.length E) (hl : x.length = E.length) (h4 : E.length ≤ 4) (hv : ValL x) :
    Calls Try.prog 19 #[v, .pointer (some ⟨bm, 0, none⟩)] w (Ret (.bool (!solB es E x)) w) := by
  have hS0 := hide hS
  have hN0 := hide hN
  have HL := hide hl
  obtain ⟨ve, vg, rfl, hE, hH⟩ := hN
  obtain ⟨Ax, cx, rfl, -, hlx⟩ := hS.form
  obtain ⟨Ae, ce, rfl, -, hle⟩ := hE.form
  obtain ⟨Ag, cg, rfl, -, hlg⟩ := hH.form
  obtain ⟨m0, m1⟩ := hm _ _ rfl
  clear hS hE hH hm hl
  go_enter Try.func19, Try.ntmps19
  go_wp2_with fail
  refine (isSolution_any _ _ x E es _ hN0.out hS0.out hG HL.out h4 hv).mono ?_
  rintro e w2 ⟨rfl, hx2⟩
  have HX := hide hx2
  obtain ⟨q, hq⟩ : ∃ q, q = solB es E x := ⟨_, rfl⟩
  have HQ := hide hq
  rw [show (memB E x && okAll es x) = q from hq.symm]
  clear hx2 m0 m1 hq
  go_wp2
  go_ret
  exact Ret.mk (ret_b (by rw [HQ.out])) HX.out
set_option maxRecDepth 100000 in
set_option maxHeartbeats 8000000 in
theorem EntailsI_any (v v' : Value) (D E : List Int) (cs es : List Con) (w : World) (hM : SMod w v D cs) (hN : SMod w v' E es) :
    Calls Try.prog 7 #[v, v'] w (Ret (.bool (entV D cs E es)) w) := by
  have hM0 := hide hM
  have hN0 := hide hN
  obtain ⟨vd, vc, rfl, hD, hC⟩ := hM
  obtain ⟨ve, vg, rfl, hE, hG⟩ := hN
  obtain ⟨Ad, cd, rfl, -, hld⟩ := hD.form
  obtain ⟨Ac, cc, rfl, -, hlc⟩ := hC.form
  obtain ⟨Ae, ce, rfl, -, hle⟩ := hE.form
  obtain ⟨Ag, cg, rfl, -, hlg⟩ := hG.form
  obtain ⟨w0, hw0⟩ : ∃ w0, w0 = (w.alloc (.cells #[.slice Ad D.length cd, .slice Ac cs.length cc] 30)).alloc (.cells #[.slice Ae E.length ce, .slice Ag es.length cg] 30) := ⟨_, rfl⟩
  have HX0 := hide (show Ext w w0 by rw [hw0]; exact ((Ext.refl w).alloc _).alloc _)
  have k0 : w0.cell? ⟨w.heap.size, 0, none⟩ = some (.slice Ad D.length cd) := by rw [hw0]; go_simp
  have k1 : w0.cell? ⟨w.heap.size, 1, none⟩ = some (.slice Ac cs.length cc) := by rw [hw0]; go_simp
  have k2 : w0.cell? ⟨w.heap.size + 1, 0, none⟩ = some (.slice Ae E.length ce) := by rw [hw0]; go_simp
  have k3 : w0.cell? ⟨w.heap.size + 1, 1, none⟩ = some (.slice Ag es.length cg) := by rw [hw0]; go_simp
  have ks : w.heap.size + 1 < w0.heap.size := by rw [hw0]; simp
  have ks0 : w.heap.size < w0.heap.size := by omega
  have hD0 := hide hD
  have hC0 := hide hC
  have hE0 := hide hE
  have hG0 := hide hG
  clear hD hC hE hG
  go_enter Try.func7, Try.ntmps7
  go_wp2_with fail
  rw [← hw0]
  clear hw0
  refine (ValidModelI_any _ _ D cs _ (hD0.out.ext HX0.out) (hC0.out.ext HX0.out) (fun i _ => fits_all (con0 cs i))).mono ?_
  rintro e w1 ⟨rfl, hx1⟩
  have k0 := (hx1.cells _ _ ks0).trans k0
  have k1 := (hx1.cells _ _ ks0).trans k1
  have k2 := (hx1.cells _ _ ks).trans k2
  have k3 := (hx1.cells _ _ ks).trans k3
  have ks := Nat.lt_of_lt_of_le ks hx1.size
  have ks0 := Nat.lt_of_lt_of_le ks0 hx1.size
  have HX1 := hide (HX0.out.trans hx1)
  clear hx1
  cases hv : vMod D cs with
  | false =>
    have HV := hide (show entV D cs E es = false by rw [entV, hv]; rfl)
    clear hv
    go_wp2
    go_ret
    exact Ret.mk (ret_b HV.out.symm) HX1.out
  | true =>
    go_wp2_with fail
    refine (ValidModelI_any _ _ E es _ (hE0.out.ext HX1.out) (hG0.out.ext HX1.out) (fun i _ => fits_all (con0 es i))).mono ?_
    rintro e w2 ⟨rfl, hx2⟩
    have k0 := (hx2.cells _ _ ks0).trans k0
    have k1 := (hx2.cells _ _ ks0).trans k1
    have k2 := (hx2.cells _ _ ks).trans k2
    have k3 := (hx2.cells _ _ ks).trans k3
    have ks := Nat.lt_of_lt_of_le ks hx2.size
    have ks0 := Nat.lt_of_lt_of_le ks0 hx2.size
    have HX2 := hide (HX1.out.trans hx2)
    clear hx2
    cases hv2 : vMod E es with
    | false =>
      have HV := hide (show entV D cs E es = false by rw [entV, hv2, Bool.false_and, Bool.and_false])
      clear hv hv2
      go_wp2
      go_ret
      exact Ret.mk (ret_b HV.out.symm) HX2.out
    | true =>
      obtain ⟨hG, h1, h4⟩ := vMod_good hv
      obtain ⟨hG2, -, g4⟩ := vMod_good hv2
      have HG := hide hG
      have HG2 := hide hG2
      by_cases hl : D.length = E.length
      · have hne : ((D.length : Int) == (E.length : Int)) = true := by simp [hl]
        have HL := hide hl
        have HV := hide (show entV D cs E es = !anyB (fun i => !solB es E (rw0 (solL cs D) i)) (solL cs D).length by rw [entV, hv, hv2, decide_eq_true hl]; rfl)
        clear hv hv2 hl hG hG2
        go_wp2_with fail
        refine (solutions_any _ D cs _ (hM0.out.ext HX2.out) HG.out h1 h4).mono ?_
        rintro e w3 ⟨A, c, rfl, hA, hx3⟩
        have HS := hide (sol_rows2 hA h4)
        have HX3 := hide (HX2.out.trans hx3)
        have k0 := (hx3.cells _ _ ks0).trans k0
        have k1 := (hx3.cells _ _ ks0).trans k1
        have k2 := (hx3.cells _ _ ks).trans k2
        have k3 := (hx3.cells _ _ ks).trans k3
        have ks := Nat.lt_of_lt_of_le ks hx3.size
        have ks0 := Nat.lt_of_lt_of_le ks0 hx3.size
        have K2 := hide k2
        have K3 := hide k3
        clear hA hx3 k0 k1 k2 k3
        go_wp2_with fail
        refine (ContainsFuncR_any _ (solL cs D) 19 #[.pointer (some ⟨w.heap.size + 1, 0, none⟩)] (fun i => !solB es E (rw0 (solL cs D) i)) _ HS.out (callFunc_body Try.func19 (by decide) rfl)
          (hide fun i hi rv W hW hr => Entails1_any _ _ (rw0 (solL cs D) i) E es _ W hr (hN0.out.ext (HX3.out.trans hW)) (fun ve vg h => by
            injection h with h
            obtain ⟨rfl, rfl⟩ : _ = ve ∧ _ = vg := by simpa using h
            exact ⟨(hW.cells _ _ ks).trans K2.out, (hW.cells _ _ ks).trans K3.out⟩) HG2.out (by rw [(rw0_sol hi).1, HL.out]) g4 (rw0_sol hi).2)).mono ?_
        rintro e w4 ⟨rfl, hx4⟩
        have HX4 := hide (HX3.out.trans hx4)
        clear hx4
        go_wp2
        go_ret
        exact Ret.mk (ret_b HV.out.symm) HX4.out
      · have hne : ((D.length : Int) == (E.length : Int)) = false := by rw [beq_eq_false_iff_ne]; omega
        have HV := hide (show entV D cs E es = false by rw [entV, decide_eq_false hl, Bool.false_and, Bool.and_false, Bool.and_false])
        clear hv hv2 hl hG hG2
        go_wp2
        go_ret
        exact Ret.mk (ret_b HV.out.symm) HX2.out
end Go.Proofs.Ytllgicpiddapeaa
