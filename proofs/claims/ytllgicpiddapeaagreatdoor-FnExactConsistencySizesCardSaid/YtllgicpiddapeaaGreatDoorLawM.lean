/- The laws' own helpers over constraints and models: sizes, copies, comparisons. -/
import Derived.Test.YtllgicpiddapeaaGreatDoorAutB
import Derived.Test.YtllgicpiddapeaaGreatDoorProp
import Derived.Test.YtllgicpiddapeaaGreatDoorRelB
import Derived.Test.YtllgicpiddapeaaGreatDoorMarks
namespace Go.Proofs.YtllgicpiddapeaaGreatDoor
open Go.RowKit

/-- How many numbers and rows a constraint has. -/
def szC (c : Con) : Nat := c.vars.length + c.args.length + c.rows.length + szR c.rows c.rows.length
def szCs (cs : List Con) : Nat → Nat
  | 0 => 0
  | k + 1 => szCs cs k + szC (con0 cs k)
/-- What is left when m is paid for, or -1. -/
def SzN (m : Nat) (n : Int) (w : World) (e : Ending) (w' : World) : Prop :=
  ∃ r : Int, e = .returned (.int .i64 r) ∧ (r = -1 ∨ 0 ≤ r ∧ r = n - m) ∧ Ext w w'
set_option maxHeartbeats 2000000 in
theorem szConstraint_any (c : Con) (vv va vr : Value) (n : Int) (w : World) (hV : SInts w vv c.vars) (hA : SInts w va c.args) (hR : SRows w vr c.rows) (h1 : 0 ≤ n) (h2 : n ≤ 1048576) :
    Calls Tryz.prog 39 #[.agg #[.int .i64 c.kk, vv, va, .int .i64 c.bound, vr], .int .i64 n] w (SzN (szC c) n w) := by
  obtain ⟨Av, cv, rfl, -, hlv⟩ := hV.form
  obtain ⟨Aa, ca, rfl, -, hla⟩ := hA.form
  obtain ⟨Ar, cr, rfl, -, hlr⟩ := hR.form
  obtain ⟨w0, hw0⟩ : ∃ w0, w0 = w.alloc (.cells #[.int .i64 c.kk, .slice Av c.vars.length cv, .slice Aa c.args.length ca, .int .i64 c.bound, .slice Ar c.rows.length cr] 57) := ⟨_, rfl⟩
  have hx0 : Ext w w0 := by rw [hw0]; exact (Ext.refl w).alloc _
  have k1 : w0.cell? ⟨w.heap.size, 1, none⟩ = some (.slice Av c.vars.length cv) := by rw [hw0]; go_simp
  have k2 : w0.cell? ⟨w.heap.size, 2, none⟩ = some (.slice Aa c.args.length ca) := by rw [hw0]; go_simp
  have k4 : w0.cell? ⟨w.heap.size, 4, none⟩ = some (.slice Ar c.rows.length cr) := by rw [hw0]; go_simp
  have HX0 := hide hx0
  have hV0 := hide (hV.ext hx0)
  have hA0 := hide (hA.ext hx0)
  have hR0 := hide (hR.ext hx0)
  clear hV hA hR hx0
  go_enter Tryz.func39, Tryz.ntmps39
  go_wp2_with fail
  rw [← hw0]
  clear hw0
  refine (szIntS_any _ c.vars n _ hV0.out h1 h2).mono ?_
  rintro e w2 ⟨rfl, rfl⟩
  by_cases hf1 : (c.vars.length : Int) ≤ n
  · have e1 := left0_pos hf1
    have hnn : 0 ≤ left0 n c.vars.length := by rw [e1]; omega
    obtain ⟨r1, hr1⟩ : ∃ r, r = left0 n c.vars.length := ⟨_, rfl⟩
    have HR1 := hide (show r1 = n - c.vars.length by rw [hr1, e1])
    rw [← hr1] at hnn ⊢
    have hn2 : r1 ≤ 1048576 := by rw [hr1, e1]; omega
    have hnl : ¬ (r1 < 0) := by omega
    clear e1 hr1
    go_wp2_with fail
    refine (szIntS_any _ c.args r1 _ hA0.out hnn hn2).mono ?_
    rintro e w2 ⟨rfl, rfl⟩
    by_cases hf2 : (c.args.length : Int) ≤ r1
    · have e1 := left0_pos hf2
      have hnn2 : 0 ≤ left0 r1 c.args.length := by rw [e1]; omega
      obtain ⟨r2, hr2⟩ : ∃ r, r = left0 r1 c.args.length := ⟨_, rfl⟩
      have HR2 := hide (show r2 = r1 - c.args.length by rw [hr2, e1])
      rw [← hr2] at hnn2 ⊢
      have hn3 : r2 ≤ 1048576 := by rw [hr2, e1]; omega
      have hnl2 : ¬ (r2 < 0) := by omega
      clear e1 hr2
      go_wp2_with fail
      refine (szIntSS_any _ c.rows r2 _ hR0.out hnn2 hn3).mono ?_
      rintro e w2 ⟨r, rfl, hr, hx2⟩
      have HX2 := hide hx2
      clear hx2
      rcases hr with rfl | ⟨hr0, -, -, hr1, -⟩
      · go_wp2_with fail
        go_ret
        exact ⟨_, rfl, .inl rfl, HX0.out.trans HX2.out⟩
      · have HR := hide hr1
        have hnl3 : ¬ (r < 0) := by omega
        clear hr1
        go_wp2_with fail
        go_ret
        exact ⟨_, rfl, .inr ⟨hr0, by rw [HR.out, HR2.out, HR1.out, szC]; omega⟩, HX0.out.trans HX2.out⟩
    · have e1 : left0 r1 c.args.length = -1 := left0_neg (by omega)
      rw [e1]
      clear e1
      go_wp2_with fail
      go_ret
      exact ⟨_, rfl, .inl rfl, HX0.out⟩
  · have e1 : left0 n c.vars.length = -1 := left0_neg (by omega)
    rw [e1]
    clear e1
    go_wp2_with fail
    go_ret
    exact ⟨_, rfl, .inl rfl, HX0.out⟩
set_option maxHeartbeats 2000000 in
theorem szConstraintS_any (v : Value) (cs : List Con) (n : Int) (w : World) (hC : SCons w v cs) (h1 : 0 ≤ n) (h2 : n ≤ 1048576) :
    Calls Tryz.prog 18 #[v, .int .i64 n] w (SzN (cs.length + szCs cs cs.length) n w) := by
  have hC0 := hide hC
  obtain ⟨Ac, cc, rfl, -, hlc⟩ := hC.form
  clear hC
  by_cases hle : (cs.length : Int) ≤ n
  · go_enter Tryz.func18, Tryz.ntmps18
    go_wp2
    go_loopw [1, 5] (fun l i wr => ∃ (k : Nat) (r : Int), k ≤ cs.length ∧ i = .int .i64 k ∧ l = .int .i64 r ∧ 0 ≤ r ∧ r = n - cs.length - szCs cs k ∧ Ext w wr) (fun _ i _ => cs.length - (intOf i).toNat)
    case atStart => exact ⟨0, n - cs.length, Nat.zero_le _, rfl, rfl, by omega, by simp [szCs], Ext.refl w⟩
    case round =>
      obtain ⟨k, r, hk, rfl, rfl, hr0, hr1, hx⟩ := hrel
      have HR := hide hr1
      have hrn : r ≤ 1048576 := by omega
      have HX := hide hx
      clear hr1
      by_cases hlt : k < cs.length
      · have hkI : (k : Int) < cs.length := by omega
        obtain ⟨b, off, rfl, hbl, vv, va, vr, f1, f2, f3, f4, f5, s1, s2, s3⟩ := (hC0.out.ext hx).at_ hlt
        obtain ⟨Av, cv, rfl, -, -⟩ := s1.form
        obtain ⟨Aa, ca, rfl, -, -⟩ := s2.form
        obtain ⟨Ar, cr, rfl, -, -⟩ := s3.form
        have S1 := hide s1
        have S2 := hide s2
        have S3 := hide s3
        clear s1 s2 s3 hx
        go_wp2_with fail
        refine (szConstraint_any (con0 cs k) _ _ _ r _ S1.out S2.out S3.out hr0 hrn).mono ?_
        rintro e w2 ⟨r2, rfl, hr2, hx2⟩
        have HX2 := hide (HX.out.trans hx2)
        clear hx2
        rcases hr2 with rfl | ⟨hr20, hr21⟩
        · go_wp2_with fail
          go_ret
          exact ⟨_, rfl, .inl rfl, HX2.out⟩
        · have HR2 := hide hr21
          have hnl : ¬ (r2 < 0) := by omega
          clear hr21
          go_wp2_with fail
          go_roundw
          case rel => exact ⟨k + 1, r2, by omega, by go_num, by go_num, hr20, by rw [HR2.out, HR.out, szCs]; omega, HX2.out⟩
          case measure => simp [intOf]; omega
      · obtain rfl : k = cs.length := by omega
        have hkI : ¬ ((cs.length : Int) < cs.length) := by omega
        go_wp2
        go_ret
        exact ⟨r, rfl, .inr ⟨hr0, by rw [HR.out]; omega⟩, HX.out⟩
  · go_enter Tryz.func18, Tryz.ntmps18
    go_wp2
    go_ret
    exact ⟨_, rfl, .inl rfl, Ext.refl _⟩
set_option maxHeartbeats 2000000 in
theorem szModel_any (v : Value) (ds : List Int) (cs : List Con) (n : Int) (w : World) (hM : SMod w v ds cs) (h1 : 0 ≤ n) (h2 : n ≤ 1048576) :
    Calls Tryz.prog 5 #[v, .int .i64 n] w (SzN (ds.length + (cs.length + szCs cs cs.length)) n w) := by
  obtain ⟨ve, vc, rfl, hE, hC⟩ := hM
  obtain ⟨Ae, ce, rfl, -, hle⟩ := hE.form
  obtain ⟨Ac, cc, rfl, -, hlc⟩ := hC.form
  obtain ⟨w0, hw0⟩ : ∃ w0, w0 = w.alloc (.cells #[.slice Ae ds.length ce, .slice Ac cs.length cc] 25) := ⟨_, rfl⟩
  have hx0 : Ext w w0 := by rw [hw0]; exact (Ext.refl w).alloc _
  have k0 : w0.cell? ⟨w.heap.size, 0, none⟩ = some (.slice Ae ds.length ce) := by rw [hw0]; go_simp
  have k1 : w0.cell? ⟨w.heap.size, 1, none⟩ = some (.slice Ac cs.length cc) := by rw [hw0]; go_simp
  have HX0 := hide hx0
  have hE0 := hide (hE.ext hx0)
  have hC0 := hide (hC.ext hx0)
  clear hE hC hx0
  go_enter Tryz.func5, Tryz.ntmps5
  go_wp2_with fail
  rw [← hw0]
  clear hw0
  refine (szIntS_any _ ds n _ hE0.out h1 h2).mono ?_
  rintro e w2 ⟨rfl, rfl⟩
  by_cases hf1 : (ds.length : Int) ≤ n
  · have e1 := left0_pos hf1
    have hnn : 0 ≤ left0 n ds.length := by rw [e1]; omega
    obtain ⟨r1, hr1⟩ : ∃ r, r = left0 n ds.length := ⟨_, rfl⟩
    have HR1 := hide (show r1 = n - ds.length by rw [hr1, e1])
    rw [← hr1] at hnn ⊢
    have hn2 : r1 ≤ 1048576 := by rw [hr1, e1]; omega
    have hnl : ¬ (r1 < 0) := by omega
    clear e1 hr1
    go_wp2_with fail
    refine (szConstraintS_any _ cs r1 _ hC0.out hnn hn2).mono ?_
    rintro e w3 ⟨r, rfl, hr, hx3⟩
    have HX3 := hide (HX0.out.trans hx3)
    clear hx3
    rcases hr with rfl | ⟨hr0, hr1⟩
    · go_wp2_with fail
      go_ret
      exact ⟨_, rfl, .inl rfl, HX3.out⟩
    · have HR := hide hr1
      have hnl3 : ¬ (r < 0) := by omega
      clear hr1
      go_wp2_with fail
      go_ret
      exact ⟨_, rfl, .inr ⟨hr0, by rw [HR.out, HR1.out]; omega⟩, HX3.out⟩
  · have e1 : left0 n ds.length = -1 := left0_neg (by omega)
    rw [e1]
    clear e1
    go_wp2_with fail
    go_ret
    exact ⟨_, rfl, .inl rfl, HX0.out⟩
set_option maxHeartbeats 4000000 in
theorem eqConstraint_same (c : Con) (vv va vr vv' va' vr' : Value) (w : World) (hV : SInts w vv c.vars) (hA : SInts w va c.args) (hR : SRows w vr c.rows) (hV' : SInts w vv' c.vars) (hA' : SInts w va' c.args) (hR' : SRows w vr' c.rows) :
    Calls Tryz.prog 56 #[.agg #[.int .i64 c.kk, vv, va, .int .i64 c.bound, vr], .agg #[.int .i64 c.kk, vv', va', .int .i64 c.bound, vr']] w (Ret (.bool true) w) := by
  obtain ⟨Av, cv, rfl, -, -⟩ := hV.form
  obtain ⟨Aa, ca, rfl, -, -⟩ := hA.form
  obtain ⟨Ar, cr, rfl, -, -⟩ := hR.form
  obtain ⟨Bv, dv, rfl, -, -⟩ := hV'.form
  obtain ⟨Ba, da, rfl, -, -⟩ := hA'.form
  obtain ⟨Br, dr, rfl, -, -⟩ := hR'.form
  obtain ⟨w0, hw0⟩ : ∃ w0, w0 = (w.alloc (.cells #[.int .i64 c.kk, .slice Av c.vars.length cv, .slice Aa c.args.length ca, .int .i64 c.bound, .slice Ar c.rows.length cr] 60)).alloc (.cells #[.int .i64 c.kk, .slice Bv c.vars.length dv, .slice Ba c.args.length da, .int .i64 c.bound, .slice Br c.rows.length dr] 60) := ⟨_, rfl⟩
  have hx0 : Ext w w0 := by rw [hw0]; exact ((Ext.refl w).alloc _).alloc _
  have k0 : w0.cell? ⟨w.heap.size, 0, none⟩ = some (.int .i64 c.kk) := by rw [hw0]; go_simp
  have k1 : w0.cell? ⟨w.heap.size, 1, none⟩ = some (.slice Av c.vars.length cv) := by rw [hw0]; go_simp
  have k2 : w0.cell? ⟨w.heap.size, 2, none⟩ = some (.slice Aa c.args.length ca) := by rw [hw0]; go_simp
  have k3 : w0.cell? ⟨w.heap.size, 3, none⟩ = some (.int .i64 c.bound) := by rw [hw0]; go_simp
  have k4 : w0.cell? ⟨w.heap.size, 4, none⟩ = some (.slice Ar c.rows.length cr) := by rw [hw0]; go_simp
  have j0 : w0.cell? ⟨w.heap.size + 1, 0, none⟩ = some (.int .i64 c.kk) := by rw [hw0]; go_simp
  have j1 : w0.cell? ⟨w.heap.size + 1, 1, none⟩ = some (.slice Bv c.vars.length dv) := by rw [hw0]; go_simp
  have j2 : w0.cell? ⟨w.heap.size + 1, 2, none⟩ = some (.slice Ba c.args.length da) := by rw [hw0]; go_simp
  have j3 : w0.cell? ⟨w.heap.size + 1, 3, none⟩ = some (.int .i64 c.bound) := by rw [hw0]; go_simp
  have j4 : w0.cell? ⟨w.heap.size + 1, 4, none⟩ = some (.slice Br c.rows.length dr) := by rw [hw0]; go_simp
  have ks : w.heap.size < w0.heap.size := by rw [hw0]; simp; omega
  have js : w.heap.size + 1 < w0.heap.size := by rw [hw0]; simp
  have HX0 := hide hx0
  have hV0 := hide (hV.ext hx0)
  have hA0 := hide (hA.ext hx0)
  have hR0 := hide (hR.ext hx0)
  have hV1 := hide (hV'.ext hx0)
  have hA1 := hide (hA'.ext hx0)
  have hR1 := hide (hR'.ext hx0)
  clear hV hA hR hV' hA' hR' hx0
  go_enter Tryz.func56, Tryz.ntmps56
  go_wp2_with fail
  rw [← hw0]
  clear hw0
  refine (eqIntS_same _ _ c.vars _ hV0.out hV1.out).mono ?_
  rintro e w2 ⟨rfl, hx2⟩
  have k2 := (hx2.cells _ _ ks).trans k2
  have k3 := (hx2.cells _ _ ks).trans k3
  have k4 := (hx2.cells _ _ ks).trans k4
  have j2 := (hx2.cells _ _ js).trans j2
  have j3 := (hx2.cells _ _ js).trans j3
  have j4 := (hx2.cells _ _ js).trans j4
  have ks := Nat.lt_of_lt_of_le ks hx2.size
  have js := Nat.lt_of_lt_of_le js hx2.size
  have HX2 := hide hx2
  clear hx2 k0 k1 j0 j1
  go_wp2_with fail
  refine (eqIntS_same _ _ c.args _ (hA0.out.ext HX2.out) (hA1.out.ext HX2.out)).mono ?_
  rintro e w3 ⟨rfl, hx3⟩
  have k3 := (hx3.cells _ _ ks).trans k3
  have k4 := (hx3.cells _ _ ks).trans k4
  have j3 := (hx3.cells _ _ js).trans j3
  have j4 := (hx3.cells _ _ js).trans j4
  have HX3 := hide (HX2.out.trans hx3)
  clear hx3 k2 j2
  go_wp2_with fail
  refine (eqIntSS_same _ _ c.rows _ (hR0.out.ext HX3.out) (hR1.out.ext HX3.out)).mono ?_
  rintro e w4 ⟨rfl, hx4⟩
  have HX4 := hide ((HX0.out.trans HX3.out).trans hx4)
  clear hx4 k3 k4 j3 j4
  go_wp2
  go_ret
  exact Ret.mk rfl HX4.out
set_option maxHeartbeats 2000000 in
theorem eqConstraintS_same (v v' : Value) (cs : List Con) (w : World) (hC : SCons w v cs) (hC' : SCons w v' cs) :
    Calls Tryz.prog 28 #[v, v'] w (Ret (.bool true) w) := by
  have hC0 := hide hC
  have hC1 := hide hC'
  obtain ⟨Ac, cc, rfl, -, hlc⟩ := hC.form
  obtain ⟨Bc, dc, rfl, -, -⟩ := hC'.form
  clear hC hC'
  go_enter Tryz.func28, Tryz.ntmps28
  go_wp2
  go_loopw [5] (fun i wr => ∃ k : Nat, k ≤ cs.length ∧ i = .int .i64 k ∧ Ext w wr) (fun i _ => cs.length - (intOf i).toNat)
  case atStart => exact ⟨0, Nat.zero_le _, rfl, Ext.refl w⟩
  case round =>
    obtain ⟨k, hk, rfl, hx⟩ := hrel
    by_cases hlt : k < cs.length
    · have hkI : (k : Int) < cs.length := by omega
      obtain ⟨b, off, rfl, hbl, vv, va, vr, f1, f2, f3, f4, f5, s1, s2, s3⟩ := (hC0.out.ext hx).at_ hlt
      obtain ⟨b', off', rfl, hbl', vv', va', vr', f1', f2', f3', f4', f5', s1', s2', s3'⟩ := (hC1.out.ext hx).at_ hlt
      have S1 := hide s1
      have S2 := hide s2
      have S3 := hide s3
      have S1' := hide s1'
      have S2' := hide s2'
      have S3' := hide s3'
      clear s1 s2 s3 s1' s2' s3'
      go_wp2
      refine wp_region_ext (by kernel_rfl) (by kernel_rfl) ?_
      iterate 8 (apply quiet_val; (focus rfl); (focus (intro w' hw'; have hk' := hw'.cells; go_simp; all_goals exact rfl)); simp only [Act.put, List.setIfInBounds_toArray, List.set_cons_succ, List.set_cons_zero])
      apply quiet_call; (focus rfl); (focus (intro w' hw'; go_simp; all_goals (first | exact rfl | (apply And.intro <;> exact rfl))))
      · exact fun w' hw' => Ret.quiet (eqConstraint_same (con0 cs k) _ _ _ _ _ _ _ (S1.out.ext hw') (S2.out.ext hw') (S3.out.ext hw') (S1'.out.ext hw') (S2'.out.ext hw') (S3'.out.ext hw')) hw'
      (simp only [Act.put, List.setIfInBounds_toArray, List.set_cons_succ, List.set_cons_zero])
      (apply quiet_val; (focus rfl); (focus (intro w' hw'; have hk' := hw'.cells; go_simp; all_goals exact rfl)); simp only [Act.put, List.setIfInBounds_toArray, List.set_cons_succ, List.set_cons_zero])
      refine wpQuiet_nil ?_
      intro w2 hx2
      go_wp2
      go_roundw
      case rel => exact ⟨k + 1, by omega, by go_num, hx.trans hx2⟩
      case measure => simp [intOf]; omega
    · obtain rfl : k = cs.length := by omega
      have hkI : ¬ ((cs.length : Int) < cs.length) := by omega
      go_wp2
      go_ret
      exact Ret.mk rfl hx
set_option maxHeartbeats 2000000 in
theorem eqModel_same (v v' : Value) (ds : List Int) (cs : List Con) (w : World) (hM : SMod w v ds cs) (hM' : SMod w v' ds cs) :
    Calls Tryz.prog 10 #[v, v'] w (Ret (.bool true) w) := by
  obtain ⟨ve, vc, rfl, hE, hC⟩ := hM
  obtain ⟨ve', vc', rfl, hE', hC'⟩ := hM'
  obtain ⟨Ae, ce, rfl, -, -⟩ := hE.form
  obtain ⟨Ac, cc, rfl, -, -⟩ := hC.form
  obtain ⟨Be, de, rfl, -, -⟩ := hE'.form
  obtain ⟨Bc, dc, rfl, -, -⟩ := hC'.form
  obtain ⟨w0, hw0⟩ : ∃ w0, w0 = (w.alloc (.cells #[.slice Ae ds.length ce, .slice Ac cs.length cc] 31)).alloc (.cells #[.slice Be ds.length de, .slice Bc cs.length dc] 31) := ⟨_, rfl⟩
  have hx0 : Ext w w0 := by rw [hw0]; exact ((Ext.refl w).alloc _).alloc _
  have k0 : w0.cell? ⟨w.heap.size, 0, none⟩ = some (.slice Ae ds.length ce) := by rw [hw0]; go_simp
  have k1 : w0.cell? ⟨w.heap.size, 1, none⟩ = some (.slice Ac cs.length cc) := by rw [hw0]; go_simp
  have j0 : w0.cell? ⟨w.heap.size + 1, 0, none⟩ = some (.slice Be ds.length de) := by rw [hw0]; go_simp
  have j1 : w0.cell? ⟨w.heap.size + 1, 1, none⟩ = some (.slice Bc cs.length dc) := by rw [hw0]; go_simp
  have ks : w.heap.size < w0.heap.size := by rw [hw0]; simp; omega
  have js : w.heap.size + 1 < w0.heap.size := by rw [hw0]; simp
  have HX0 := hide hx0
  have hE0 := hide (hE.ext hx0)
  have hC0 := hide (hC.ext hx0)
  have hE1 := hide (hE'.ext hx0)
  have hC1 := hide (hC'.ext hx0)
  clear hE hC hE' hC' hx0
  go_enter Tryz.func10, Tryz.ntmps10
  go_wp2_with fail
  rw [← hw0]
  clear hw0
  refine (eqIntS_same _ _ ds _ hE0.out hE1.out).mono ?_
  rintro e w2 ⟨rfl, hx2⟩
  have k1 := (hx2.cells _ _ ks).trans k1
  have j1 := (hx2.cells _ _ js).trans j1
  have HX2 := hide hx2
  clear hx2 k0 j0
  go_wp2_with fail
  refine (eqConstraintS_same _ _ cs _ (hC0.out.ext HX2.out) (hC1.out.ext HX2.out)).mono ?_
  rintro e w3 ⟨rfl, hx3⟩
  have HX3 := hide ((HX0.out.trans HX2.out).trans hx3)
  clear hx3 k1 j1
  go_wp2
  go_ret
  exact Ret.mk rfl HX3.out
end Go.Proofs.YtllgicpiddapeaaGreatDoor
/- The laws' copies of constraints and models. -/
namespace Go.Proofs.YtllgicpiddapeaaGreatDoor
open Go.RowKit

theorem rowTy {W : World} {b : Nat} {t u : TypeId} {n m : Nat} {f g : Nat → Value} (h : W.rowIs b t n f) (k : W.rowIs b u m g) : t = u := by
  obtain ⟨c1, p1, -⟩ := h
  obtain ⟨c2, p2, -⟩ := k
  rw [p1] at p2
  injection p2 with p2
  injection p2 with _ p3
theorem rowNe {W : World} {b b' : Nat} {t u : TypeId} {n m : Nat} {f g : Nat → Value} (h : W.rowIs b t n f) (k : W.rowIs b' u m g) (htu : t ≠ u) : b ≠ b' := fun e => by subst e; exact htu (rowTy h k)
/-- A store into a block of another kind. -/
theorem OwnK.setTy {B0 : Nat} {w : World} {b : Nat} {rs : List (List Int)} {k bo m o : Nat} {t : TypeId} {f : Nat → Value} (h : OwnK B0 w b rs k) (hb : w.rowIs bo t m f) (h1 : t ≠ 3) (h2 : t ≠ 22) (u : Value) : OwnK B0 (w.setCell ⟨bo, o, none⟩ u) b rs k := by
  obtain ⟨g, q1, q2, q3⟩ := h
  refine ⟨g, q1.setOther (rowNe q1 hb (fun e => h2 e.symm)) u, q2, fun i hi => ?_⟩
  obtain ⟨bi, e1, e2, e3, e4⟩ := q3 i hi
  exact ⟨bi, e1, e2, e3, e4.setOther (rowNe e4 hb (fun e => h1 e.symm)) u⟩
/-- A copy of a constraint in new memory. -/
structure CopC (B : Nat) (W : World) (c : Con) (bv ba br : Nat) : Prop where
  gv : B ≤ bv
  ga : B ≤ ba
  gr : B ≤ br
  rv : W.rowIs bv 3 c.vars.length (icell c.vars c.vars.length)
  ra : W.rowIs ba 3 c.args.length (icell c.args c.args.length)
  rr : OwnK B W br c.rows c.rows.length
theorem CopC.ext {B : Nat} {W W' : World} {c : Con} {bv ba br : Nat} (h : CopC B W c bv ba br) (hx : Ext W W') : CopC B W' c bv ba br := ⟨h.gv, h.ga, h.gr, hx.row h.rv, hx.row h.ra, h.rr.ext hx⟩
theorem CopC.setTy {B : Nat} {W : World} {c : Con} {bv ba br bo m o : Nat} {t : TypeId} {f : Nat → Value} (h : CopC B W c bv ba br) (hb : W.rowIs bo t m f) (h1 : t ≠ 3) (h2 : t ≠ 22) (u : Value) : CopC B (W.setCell ⟨bo, o, none⟩ u) c bv ba br :=
  ⟨h.gv, h.ga, h.gr, h.rv.setOther (rowNe h.rv hb (fun e => h1 e.symm)) u, h.ra.setOther (rowNe h.ra hb (fun e => h1 e.symm)) u, h.rr.setTy hb h1 h2 u⟩
theorem CopC.mono {B B' : Nat} {W : World} {c : Con} {bv ba br : Nat} (h : CopC B W c bv ba br) (hb : B' ≤ B) : CopC B' W c bv ba br :=
  ⟨Nat.le_trans hb h.gv, Nat.le_trans hb h.ga, Nat.le_trans hb h.gr, h.rv, h.ra, by
    obtain ⟨g, q1, q2, q3⟩ := h.rr
    refine ⟨g, q1, q2, fun i hi => ?_⟩
    obtain ⟨bi, e1, e2⟩ := q3 i hi
    exact ⟨bi, by omega, e2⟩⟩
/-- The numbers of a constraint are such as came in. -/
def OkCon (c : Con) : Prop := (c.vars.length * 8 ≤ 140737488355328 ∧ ∀ i, i < c.vars.length → I64 (at0 c.vars i)) ∧ (c.args.length * 8 ≤ 140737488355328 ∧ ∀ i, i < c.args.length → I64 (at0 c.args i)) ∧ OkRows c.rows
theorem CopC.vars {B : Nat} {W : World} {c : Con} {bv ba br : Nat} (h : CopC B W c bv ba br) (hk : OkCon c) : SInts W (.slice (some ⟨bv, 0, none⟩) c.vars.length c.vars.length) c.vars := SInts.of_row h.rv hk.1.1 hk.1.2
theorem CopC.args {B : Nat} {W : World} {c : Con} {bv ba br : Nat} (h : CopC B W c bv ba br) (hk : OkCon c) : SInts W (.slice (some ⟨ba, 0, none⟩) c.args.length c.args.length) c.args := SInts.of_row h.ra hk.2.1.1 hk.2.1.2
theorem CopC.rows {B : Nat} {W : World} {c : Con} {bv ba br : Nat} (h : CopC B W c bv ba br) (hk : OkCon c) : SRows W (.slice (some ⟨br, 0, none⟩) c.rows.length c.rows.length) c.rows := h.rr.rows hk.2.2.1 hk.2.2.2.1 hk.2.2.2.2
theorem okCon_of {W : World} {c : Con} {vv va vr : Value} (hV : SInts W vv c.vars) (hA : SInts W va c.args) (hR : SRows W vr c.rows) : OkCon c :=
  ⟨⟨hV.bytes, fun _ hi => hV.i64 hi⟩, ⟨hA.bytes, fun _ hi => hA.i64 hi⟩, hR.ok⟩
def conV (c : Con) (bv ba br : Nat) : Value := .agg #[.int .i64 c.kk, .slice (some ⟨bv, 0, none⟩) c.vars.length c.vars.length, .slice (some ⟨ba, 0, none⟩) c.args.length c.args.length, .int .i64 c.bound, .slice (some ⟨br, 0, none⟩) c.rows.length c.rows.length]
def NewCon (c : Con) (w : World) (e : Ending) (w' : World) : Prop := ∃ bv ba br, e = .returned (conV c bv ba br) ∧ CopC w.heap.size w' c bv ba br ∧ Ext w w'
def zeroC (k : Nat) : Value := if k = 0 then .int .i64 0 else if k = 3 then .int .i64 0 else .slice none 0 0
theorem getD_sm {cs : Array Value} {i : Nat} (hi : i < cs.size) : cs[i]? = some (cs.getD i undef) := by simp [Array.getD_eq_getD_getElem?, hi]
theorem zeroC_at : ∀ i, i < (#[.int .i64 0, .slice none 0 0, .slice none 0 0, .int .i64 0, .slice none 0 0] : Array Value).size → (#[.int .i64 0, .slice none 0 0, .slice none 0 0, .int .i64 0, .slice none 0 0] : Array Value)[i]? = some (zeroC i)
  | 0, _ => rfl
  | 1, _ => rfl
  | 2, _ => rfl
  | 3, _ => rfl
  | 4, _ => rfl
  | n + 5, h => absurd h (by simp)
def zeroK (n : Int) (k : Nat) : Value := if k = 0 then .int .i64 n else if k = 3 then .int .i64 0 else .slice none 0 0
theorem zeroK_at (n : Int) : ∀ i, i < (#[.int .i64 n, .slice none 0 0, .slice none 0 0, .int .i64 0, .slice none 0 0] : Array Value).size → (#[.int .i64 n, .slice none 0 0, .slice none 0 0, .int .i64 0, .slice none 0 0] : Array Value)[i]? = some (zeroK n i)
  | 0, _ => rfl
  | 1, _ => rfl
  | 2, _ => rfl
  | 3, _ => rfl
  | 4, _ => rfl
  | n + 5, h => absurd h (by simp)
set_option maxRecDepth 100000 in
set_option maxHeartbeats 8000000 in
theorem toConstraint_any (c : Con) (vv va vr : Value) (w : World) (hV : SInts w vv c.vars) (hA : SInts w va c.args) (hR : SRows w vr c.rows) :
    Calls Tryz.prog 48 #[.agg #[.int .i64 c.kk, vv, va, .int .i64 c.bound, vr]] w (NewCon c w) := by
  obtain ⟨Av, cv, rfl, -, -⟩ := hV.form
  obtain ⟨Aa, ca, rfl, -, -⟩ := hA.form
  obtain ⟨Ar, cr, rfl, -, -⟩ := hR.form
  obtain ⟨w0, hw0⟩ : ∃ w0, w0 = ((w.alloc (.cells #[.int .i64 c.kk, .slice Av c.vars.length cv, .slice Aa c.args.length ca, .int .i64 c.bound, .slice Ar c.rows.length cr] 57)).alloc (.cells #[.int .i64 0, .slice none 0 0, .slice none 0 0, .int .i64 0, .slice none 0 0] 60)).alloc (.cells #[.int .i64 c.kk, .slice none 0 0, .slice none 0 0, .int .i64 0, .slice none 0 0] 60) := ⟨_, rfl⟩
  have hx0 : Ext w w0 := by rw [hw0]; exact (((Ext.refl w).alloc _).alloc _).alloc _
  have hs0 : w0.heap.size = w.heap.size + 3 := by rw [hw0]; simp
  have k0 : w0.cell? ⟨w.heap.size, 0, none⟩ = some (.int .i64 c.kk) := by rw [hw0]; go_simp
  have k1 : w0.cell? ⟨w.heap.size, 1, none⟩ = some (.slice Av c.vars.length cv) := by rw [hw0]; go_simp
  have k2 : w0.cell? ⟨w.heap.size, 2, none⟩ = some (.slice Aa c.args.length ca) := by rw [hw0]; go_simp
  have k3 : w0.cell? ⟨w.heap.size, 3, none⟩ = some (.int .i64 c.bound) := by rw [hw0]; go_simp
  have k4 : w0.cell? ⟨w.heap.size, 4, none⟩ = some (.slice Ar c.rows.length cr) := by rw [hw0]; go_simp
  have rb : w0.rowIs w.heap.size 57 5 (fun k => (#[.int .i64 c.kk, .slice Av c.vars.length cv, .slice Aa c.args.length ca, .int .i64 c.bound, .slice Ar c.rows.length cr] : Array Value).getD k undef) := by
    rw [hw0]
    exact (((Ext.refl _).alloc _).alloc _).row (World.rowIs_alloc w _ _ _ (fun i hi => getD_sm hi))
  have r1 : w0.rowIs (w.heap.size + 1) 60 5 zeroC := by
    rw [hw0]
    have h := World.rowIs_alloc (w.alloc (.cells #[.int .i64 c.kk, .slice Av c.vars.length cv, .slice Aa c.args.length ca, .int .i64 c.bound, .slice Ar c.rows.length cr] 57)) #[.int .i64 0, .slice none 0 0, .slice none 0 0, .int .i64 0, .slice none 0 0] 60 zeroC zeroC_at
    rw [World.size_alloc] at h
    exact ((Ext.refl _).alloc _).row h
  have r2 : w0.rowIs (w.heap.size + 2) 60 5 (zeroK c.kk) := by
    rw [hw0]
    have h := World.rowIs_alloc ((w.alloc (.cells #[.int .i64 c.kk, .slice Av c.vars.length cv, .slice Aa c.args.length ca, .int .i64 c.bound, .slice Ar c.rows.length cr] 57)).alloc (.cells #[.int .i64 0, .slice none 0 0, .slice none 0 0, .int .i64 0, .slice none 0 0] 60)) #[.int .i64 c.kk, .slice none 0 0, .slice none 0 0, .int .i64 0, .slice none 0 0] 60 (zeroK c.kk) (zeroK_at c.kk)
    rw [World.size_alloc, World.size_alloc] at h
    exact h
  have HX0 := hide hx0
  have hV0 := hide (hV.ext hx0)
  have hA0 := hide hA
  have hR0 := hide hR
  have RB := hide rb
  have R1 := hide r1
  have R2 := hide r2
  clear hV hA hR hx0 rb r1 r2
  go_enter Tryz.func48, Tryz.ntmps48
  go_wp2_with fail
  rw [← hw0]
  clear hw0
  refine (toIntS_any _ c.vars _ hV0.out).mono ?_
  rintro e w1 ⟨bv, hbv, rfl, hrv, hx1⟩
  have HX1 := hide hx1
  have HRV := hide hrv
  have r2a := hx1.row R2.out
  have R2A := hide r2a
  have c21 := r2a.cell (i := 1) (by omega)
  have z21 := r2a.frozen 1
  have hs1 := hx1.size
  have k2 := (hx1.cells _ _ (show w.heap.size < w0.heap.size by omega)).trans k2
  have k3 := (hx1.cells _ _ (show w.heap.size < w0.heap.size by omega)).trans k3
  have k4 := (hx1.cells _ _ (show w.heap.size < w0.heap.size by omega)).trans k4
  clear hx1 hrv r2a k0 k1
  go_wp2_with fail
  obtain ⟨u1, hu1⟩ : ∃ u1, u1 = w1.setCell ⟨w.heap.size + 2, 1, none⟩ (.slice (some ⟨bv, 0, none⟩) c.vars.length c.vars.length) := ⟨_, rfl⟩
  have HE1 := hide (show Ext w u1 by rw [hu1]; exact (HX0.out.trans HX1.out).set (p := ⟨w.heap.size + 2, 1, none⟩) (by show w.heap.size ≤ w.heap.size + 2; omega) _)
  have HRV1 := hide (show u1.rowIs bv 3 c.vars.length (icell c.vars c.vars.length) by rw [hu1]; exact HRV.out.setOther (by show bv ≠ w.heap.size + 2; omega) _)
  have R21 := hide (show u1.rowIs (w.heap.size + 2) 60 5 _ by rw [hu1]; exact R2A.out.set 1 _)
  have RB1 := hide (show u1.rowIs w.heap.size 57 5 _ by rw [hu1]; exact (HX1.out.row RB.out).setOther (by show w.heap.size ≠ w.heap.size + 2; omega) _)
  have R11 := hide (show u1.rowIs (w.heap.size + 1) 60 5 zeroC by rw [hu1]; exact (HX1.out.row R1.out).setOther (by show w.heap.size + 1 ≠ w.heap.size + 2; omega) _)
  have hsu : w1.heap.size = u1.heap.size := by rw [hu1]; simp [World.setCell]
  rw [← hu1]
  clear hu1 c21 z21 k2 k3 k4
  refine (toIntS_any _ c.args _ (hA0.out.ext HE1.out)).mono ?_
  rintro e w2 ⟨ba, hba, rfl, hra, hx2⟩
  have HX2 := hide hx2
  have HRA := hide hra
  have r2a := hx2.row R21.out
  have R2A := hide r2a
  have c22 := r2a.cell (i := 2) (by omega)
  have z22 := r2a.frozen 2
  have c23 := r2a.cell (i := 3) (by omega)
  have z23 := r2a.frozen 3
  have hs2 := hx2.size
  have k3 : w2.cell? ⟨w.heap.size, 3, none⟩ = some (.int .i64 c.bound) := (hx2.row RB1.out).cell (i := 3) (by omega)
  have k4 : w2.cell? ⟨w.heap.size, 4, none⟩ = some (.slice Ar c.rows.length cr) := (hx2.row RB1.out).cell (i := 4) (by omega)
  clear hx2 hra r2a
  go_wp2_with fail
  obtain ⟨u2, hu2⟩ : ∃ u2, u2 = (w2.setCell ⟨w.heap.size + 2, 2, none⟩ (.slice (some ⟨ba, 0, none⟩) c.args.length c.args.length)).setCell ⟨w.heap.size + 2, 3, none⟩ (.int .i64 c.bound) := ⟨_, rfl⟩
  have HE2 := hide (show Ext w u2 by rw [hu2]; exact ((HE1.out.trans HX2.out).set (p := ⟨w.heap.size + 2, 2, none⟩) (by show w.heap.size ≤ w.heap.size + 2; omega) _).set (p := ⟨w.heap.size + 2, 3, none⟩) (by show w.heap.size ≤ w.heap.size + 2; omega) _)
  have HRV2 := hide (show u2.rowIs bv 3 c.vars.length (icell c.vars c.vars.length) by rw [hu2]; exact ((HX2.out.row HRV1.out).setOther (by show bv ≠ w.heap.size + 2; omega) _).setOther (by show bv ≠ w.heap.size + 2; omega) _)
  have HRA2 := hide (show u2.rowIs ba 3 c.args.length (icell c.args c.args.length) by rw [hu2]; exact (HRA.out.setOther (by show ba ≠ w.heap.size + 2; omega) _).setOther (by show ba ≠ w.heap.size + 2; omega) _)
  have R22 := hide (show u2.rowIs (w.heap.size + 2) 60 5 _ by rw [hu2]; exact (R2A.out.set 2 _).set 3 _)
  have R12 := hide (show u2.rowIs (w.heap.size + 1) 60 5 zeroC by rw [hu2]; exact ((HX2.out.row R11.out).setOther (by show w.heap.size + 1 ≠ w.heap.size + 2; omega) _).setOther (by show w.heap.size + 1 ≠ w.heap.size + 2; omega) _)
  have hsu2 : w2.heap.size = u2.heap.size := by rw [hu2]; simp [World.setCell]
  rw [← hu2]
  clear hu2 c22 z22 c23 z23 k3 k4
  refine (toIntSS_any _ c.rows _ (hR0.out.ext HE2.out)).mono ?_
  rintro e w3 ⟨br, hbr, rfl, hrr, hx3⟩
  have HX3 := hide hx3
  have HRR := hide hrr
  have r2a := hx3.row R22.out
  have R2A := hide r2a
  have c24 := r2a.cell (i := 4) (by omega)
  have z24 := r2a.frozen 4
  have c20 : w3.cell? ⟨w.heap.size + 2, 0, none⟩ = some (.int .i64 c.kk) := r2a.cell (i := 0) (by omega)
  have c21 : w3.cell? ⟨w.heap.size + 2, 1, none⟩ = some (.slice (some ⟨bv, 0, none⟩) c.vars.length c.vars.length) := r2a.cell (i := 1) (by omega)
  have c22 : w3.cell? ⟨w.heap.size + 2, 2, none⟩ = some (.slice (some ⟨ba, 0, none⟩) c.args.length c.args.length) := r2a.cell (i := 2) (by omega)
  have c23 : w3.cell? ⟨w.heap.size + 2, 3, none⟩ = some (.int .i64 c.bound) := r2a.cell (i := 3) (by omega)
  have hs3 := hx3.size
  have r1a := hx3.row R12.out
  have R1A := hide r1a
  have d0 := r1a.cell (i := 0) (by omega)
  have d1 := r1a.cell (i := 1) (by omega)
  have d2 := r1a.cell (i := 2) (by omega)
  have d3 := r1a.cell (i := 3) (by omega)
  have d4 := r1a.cell (i := 4) (by omega)
  have y0 := r1a.frozen 0
  have y1 := r1a.frozen 1
  have y2 := r1a.frozen 2
  have y3 := r1a.frozen 3
  have y4 := r1a.frozen 4
  have HC := hide (show CopC w.heap.size w3 c bv ba br from ⟨by omega, by omega, by omega, hx3.row HRV2.out, hx3.row HRA2.out, by
    obtain ⟨g, q1, q2, q3⟩ := hrr
    refine ⟨g, q1, q2, fun i hi => ?_⟩
    obtain ⟨bi, e1, e2⟩ := q3 i hi
    exact ⟨bi, by omega, e2⟩⟩)
  have HE3 := hide (HE2.out.trans hx3)
  clear hx3 hrr r2a r1a
  go_wp2_with fail
  (try simp only [Exit.inBlock, Exit.then])
  refine bodyPost_ret (v := conV c bv ba br) (by simp only [results, Tryz.results48]; go_simp; rfl) rfl ?_
  refine ⟨bv, ba, br, rfl, ?_, ?_⟩
  · have q0 := HC.out.setTy (o := 4) R2A.out (by decide) (by decide) (.slice (some ⟨br, 0, none⟩) c.rows.length c.rows.length)
    have p0 := R1A.out.setOther (a := ⟨w.heap.size + 2, 4, none⟩) (by show w.heap.size + 1 ≠ w.heap.size + 2; omega) (.slice (some ⟨br, 0, none⟩) c.rows.length c.rows.length)
    exact ((((q0.setTy p0 (by decide) (by decide) _).setTy (p0.set 0 _) (by decide) (by decide) _).setTy ((p0.set 0 _).set 1 _) (by decide) (by decide) _).setTy (((p0.set 0 _).set 1 _).set 2 _) (by decide) (by decide) _).setTy ((((p0.set 0 _).set 1 _).set 2 _).set 3 _) (by decide) (by decide) _
  · have q0 := HE3.out.set (p := ⟨w.heap.size + 2, 4, none⟩) (by show w.heap.size ≤ w.heap.size + 2; omega) (.slice (some ⟨br, 0, none⟩) c.rows.length c.rows.length)
    exact ((((q0.set (p := ⟨w.heap.size + 1, 0, none⟩) (by show w.heap.size ≤ w.heap.size + 1; omega) _).set (p := ⟨w.heap.size + 1, 1, none⟩) (by show w.heap.size ≤ w.heap.size + 1; omega) _).set (p := ⟨w.heap.size + 1, 2, none⟩) (by show w.heap.size ≤ w.heap.size + 1; omega) _).set (p := ⟨w.heap.size + 1, 3, none⟩) (by show w.heap.size ≤ w.heap.size + 1; omega) _).set (p := ⟨w.heap.size + 1, 4, none⟩) (by show w.heap.size ≤ w.heap.size + 1; omega) _
/-- The cells of constraint i. -/
structure ConAt (B : Nat) (W : World) (F : Nat → Value) (c : Con) (i : Nat) : Prop where
  ex : ∃ bv ba br, F (i * 5) = .int .i64 c.kk ∧ F (i * 5 + 1) = .slice (some ⟨bv, 0, none⟩) c.vars.length c.vars.length ∧ F (i * 5 + 2) = .slice (some ⟨ba, 0, none⟩) c.args.length c.args.length ∧ F (i * 5 + 3) = .int .i64 c.bound ∧ F (i * 5 + 4) = .slice (some ⟨br, 0, none⟩) c.rows.length c.rows.length ∧ CopC B W c bv ba br
theorem ConAt.ext {B : Nat} {W W' : World} {F : Nat → Value} {c : Con} {i : Nat} (h : ConAt B W F c i) (hx : Ext W W') : ConAt B W' F c i := by
  obtain ⟨bv, ba, br, h0, h1, h2, h3, h4, h5⟩ := h.ex
  exact ⟨bv, ba, br, h0, h1, h2, h3, h4, h5.ext hx⟩
/-- A copy of constraints in new memory. -/
def NewCons (cs : List Con) (w : World) (e : Ending) (w' : World) : Prop := ∃ bo F, w.heap.size ≤ bo ∧ e = .returned (.slice (some ⟨bo, 0, none⟩) cs.length cs.length) ∧ w'.rowIs bo 60 (cs.length * 5) F ∧ (∀ i, i < cs.length → ConAt w.heap.size w' F (con0 cs i) i) ∧ Ext w w'
def OkCons (cs : List Con) : Prop := cs.length * 88 ≤ 140737488355328 ∧ ∀ i, i < cs.length → OkCon (con0 cs i)
theorem SCons.ok {w : World} {v : Value} {cs : List Con} (h : SCons w v cs) : OkCons cs := by
  obtain ⟨A, c, h1, h2, h3, h5⟩ := h
  refine ⟨h3, fun i hi => ?_⟩
  obtain ⟨b, off, e, hb, hc⟩ := h5 (by omega)
  obtain ⟨vv, va, vr, g1, g2, g3, g4, g5, s1, s2, s3⟩ := hc i hi
  exact okCon_of s1 s2 s3
theorem NewCons.scons {cs : List Con} {B : Nat} {w' : World} {bo : Nat} {F : Nat → Value} (hk : OkCons cs) (hr : w'.rowIs bo 60 (cs.length * 5) F) (hc : ∀ i, i < cs.length → ConAt B w' F (con0 cs i) i) : SCons w' (.slice (some ⟨bo, 0, none⟩) cs.length cs.length) cs := by
  refine ⟨_, _, rfl, Nat.le_refl _, hk.1, fun _ => ⟨bo, 0, rfl, hr.lt, fun i hi => ?_⟩⟩
  obtain ⟨bv, ba, br, e0, e1, e2, e3, e4, h⟩ := (hc i hi).ex
  have ok := hk.2 i hi
  refine ⟨_, _, _, ?_, ?_, ?_, ?_, ?_, h.vars ok, h.args ok, h.rows ok⟩
  · rw [Nat.zero_add, hr.cell (by omega), e0]
  · rw [Nat.zero_add, hr.cell (by omega), e1]
  · rw [Nat.zero_add, hr.cell (by omega), e2]
  · rw [Nat.zero_add, hr.cell (by omega), e3]
  · rw [Nat.zero_add, hr.cell (by omega), e4]
theorem Tryz.infoC : (Tryz.prog.info? 60).map (fun i => (i.zero, i.size, i.bytes)) = some (some (.agg #[.int .i64 0, .slice none 0 0, .slice none 0 0, .int .i64 0, .slice none 0 0]), 5, 88) := by kernel_rfl
set_option maxRecDepth 100000 in
set_option maxHeartbeats 8000000 in
theorem toConstraintS_any (v : Value) (cs : List Con) (w : World) (hC : SCons w v cs) :
    Calls Tryz.prog 24 #[v] w (NewCons cs w) := by
  have hC0 := hide hC
  have hok := hC.ok.1
  obtain ⟨Ac, cc, rfl, -, hlc⟩ := hC.form
  clear hC
  go_enter Tryz.func24, Tryz.ntmps24
  go_wp2_with (at_make; go_must (refine wpList_make_gen _ rfl _ _ 29 rfl 60 (.agg #[.int .i64 0, .slice none 0 0, .slice none 0 0, .int .i64 0, .slice none 0 0]) 5 88 Tryz.underlying29 Tryz.infoC .i64 .i64 cs.length rfl rfl (by omega) (by omega) (fun i => (Value.agg #[.int .i64 0, .slice none 0 0, .slice none 0 0, .int .i64 0, .slice none 0 0]).cells[i % (Value.agg #[.int .i64 0, .slice none 0 0, .slice none 0 0, .int .i64 0, .slice none 0 0]).cells.size]!) (fun i _ => rfl) ?_); intro w1 hrow hsz hx; have HROW := hide hrow; have HX := hide hx; clear hrow hx hsz)
  go_loopw [4] (fun i wr => ∃ (k : Nat) (F : Nat → Value), k ≤ cs.length ∧ i = .int .i64 k ∧ Ext w wr ∧ wr.rowIs w.heap.size 60 (cs.length * 5) F ∧ ∀ j, j < k → ConAt w.heap.size wr F (con0 cs j) j) (fun i _ => cs.length - (intOf i).toNat)
  case atStart => exact ⟨0, _, Nat.zero_le _, rfl, HX.out, HROW.out, fun j hj => by omega⟩
  case round =>
    obtain ⟨k, F, hk, rfl, hxr, hr, hall⟩ := hrel
    have HXR := hide hxr
    have HR := hide hr
    have HALL := hide hall
    have hB : w.heap.size < wr.heap.size := hr.lt
    clear hr hall
    by_cases hlt : k < cs.length
    · have hkI : (k : Int) < cs.length := by omega
      obtain ⟨b, off, rfl, hbl, vv, va, vr, f1, f2, f3, f4, f5, s1, s2, s3⟩ := (hC0.out.ext hxr).at_ hlt
      obtain ⟨Av, cv, rfl, -, -⟩ := s1.form
      obtain ⟨Aa, ca, rfl, -, -⟩ := s2.form
      obtain ⟨Ar, cr, rfl, -, -⟩ := s3.form
      have S1 := hide s1
      have S2 := hide s2
      have S3 := hide s3
      clear s1 s2 s3 hxr
      go_wp2_with fail
      refine (toConstraint_any (con0 cs k) _ _ _ _ S1.out S2.out S3.out).mono ?_
      rintro e w2 ⟨bv, ba, br, rfl, hcop, hx2⟩
      have r2 := hx2.row HR.out
      have c0 := r2.cell (i := k * 5) (by omega)
      have c1 := r2.cell (i := k * 5 + 1) (by omega)
      have c2 := r2.cell (i := k * 5 + 2) (by omega)
      have c3 := r2.cell (i := k * 5 + 3) (by omega)
      have c4 := r2.cell (i := k * 5 + 4) (by omega)
      have z0 := r2.frozen (k * 5)
      have z1 := r2.frozen (k * 5 + 1)
      have z2 := r2.frozen (k * 5 + 2)
      have z3 := r2.frozen (k * 5 + 3)
      have z4 := r2.frozen (k * 5 + 4)
      have HR2 := hide r2
      have HCOP := hide (hcop.mono (show w.heap.size ≤ wr.heap.size by omega))
      have HX2 := hide (HXR.out.trans hx2)
      have HXX := hide hx2
      clear r2 hcop hx2
      rw [conV]
      go_wp2
      go_roundw
      case rel =>
        refine ⟨k + 1, _, by omega, by go_num, ((((HX2.out.set (p := ⟨w.heap.size, _, none⟩) (Nat.le_refl _) _).set (p := ⟨w.heap.size, _, none⟩) (Nat.le_refl _) _).set (p := ⟨w.heap.size, _, none⟩) (Nat.le_refl _) _).set (p := ⟨w.heap.size, _, none⟩) (Nat.le_refl _) _).set (p := ⟨w.heap.size, _, none⟩) (Nat.le_refl _) _, ((((HR2.out.set (k * 5) _).set (k * 5 + 1) _).set (k * 5 + 2) _).set (k * 5 + 3) _).set (k * 5 + 4) _, fun j hj => ?_⟩
        have ty1 : 60 ≠ 3 := by decide
        have ty2 : 60 ≠ 22 := by decide
        by_cases e : j = k
        · subst e
          refine ⟨bv, ba, br, ?_, ?_, ?_, ?_, ?_, ?_⟩
          · show (if _ then _ else if _ then _ else if _ then _ else if _ then _ else if _ then _ else _) = _
            rw [if_neg (by omega), if_neg (by omega), if_neg (by omega), if_neg (by omega), if_pos rfl]
          · show (if _ then _ else if _ then _ else if _ then _ else if _ then _ else if _ then _ else _) = _
            rw [if_neg (by omega), if_neg (by omega), if_neg (by omega), if_pos rfl]
          · show (if _ then _ else if _ then _ else if _ then _ else if _ then _ else if _ then _ else _) = _
            rw [if_neg (by omega), if_neg (by omega), if_pos rfl]
          · show (if _ then _ else if _ then _ else if _ then _ else if _ then _ else if _ then _ else _) = _
            rw [if_neg (by omega), if_pos rfl]
          · show (if _ then _ else if _ then _ else if _ then _ else if _ then _ else if _ then _ else _) = _
            rw [if_pos rfl]
          · exact ((((HCOP.out.setTy HR2.out ty1 ty2 _).setTy (HR2.out.set (j * 5) _) ty1 ty2 _).setTy ((HR2.out.set (j * 5) _).set (j * 5 + 1) _) ty1 ty2 _).setTy (((HR2.out.set (j * 5) _).set (j * 5 + 1) _).set (j * 5 + 2) _) ty1 ty2 _).setTy ((((HR2.out.set (j * 5) _).set (j * 5 + 1) _).set (j * 5 + 2) _).set (j * 5 + 3) _) ty1 ty2 _
        · obtain ⟨bv', ba', br', e0, e1, e2, e3, e4, h⟩ := ((HALL.out j (by omega)).ext HXX.out).ex
          refine ⟨bv', ba', br', ?_, ?_, ?_, ?_, ?_, ?_⟩
          · show (if _ then _ else if _ then _ else if _ then _ else if _ then _ else if _ then _ else _) = _
            rw [if_neg (by omega), if_neg (by omega), if_neg (by omega), if_neg (by omega), if_neg (by omega), e0]
          · show (if _ then _ else if _ then _ else if _ then _ else if _ then _ else if _ then _ else _) = _
            rw [if_neg (by omega), if_neg (by omega), if_neg (by omega), if_neg (by omega), if_neg (by omega), e1]
          · show (if _ then _ else if _ then _ else if _ then _ else if _ then _ else if _ then _ else _) = _
            rw [if_neg (by omega), if_neg (by omega), if_neg (by omega), if_neg (by omega), if_neg (by omega), e2]
          · show (if _ then _ else if _ then _ else if _ then _ else if _ then _ else if _ then _ else _) = _
            rw [if_neg (by omega), if_neg (by omega), if_neg (by omega), if_neg (by omega), if_neg (by omega), e3]
          · show (if _ then _ else if _ then _ else if _ then _ else if _ then _ else if _ then _ else _) = _
            rw [if_neg (by omega), if_neg (by omega), if_neg (by omega), if_neg (by omega), if_neg (by omega), e4]
          · exact ((((h.setTy HR2.out ty1 ty2 _).setTy (HR2.out.set (k * 5) _) ty1 ty2 _).setTy ((HR2.out.set (k * 5) _).set (k * 5 + 1) _) ty1 ty2 _).setTy (((HR2.out.set (k * 5) _).set (k * 5 + 1) _).set (k * 5 + 2) _) ty1 ty2 _).setTy ((((HR2.out.set (k * 5) _).set (k * 5 + 1) _).set (k * 5 + 2) _).set (k * 5 + 3) _) ty1 ty2 _
      case measure => simp [intOf]; omega
    · obtain rfl : k = cs.length := by omega
      have hkI : ¬ ((cs.length : Int) < cs.length) := by omega
      go_wp2_with fail
      go_ret
      exact ⟨_, F, Nat.le_refl _, rfl, HR.out, HALL.out, HXR.out⟩
end Go.Proofs.YtllgicpiddapeaaGreatDoor
/- The laws' copies of models. -/
namespace Go.Proofs.YtllgicpiddapeaaGreatDoor
open Go.RowKit

theorem ConAt.setTy {B : Nat} {W : World} {F : Nat → Value} {c : Con} {i bo m o : Nat} {t : TypeId} {f : Nat → Value} (h : ConAt B W F c i) (hb : W.rowIs bo t m f) (h1 : t ≠ 3) (h2 : t ≠ 22) (u : Value) : ConAt B (W.setCell ⟨bo, o, none⟩ u) F c i := by
  obtain ⟨bv, ba, br, e0, e1, e2, e3, e4, h5⟩ := h.ex
  exact ⟨bv, ba, br, e0, e1, e2, e3, e4, h5.setTy hb h1 h2 u⟩
/-- A model's copy: the domains at block bd, the constraints at block bo. -/
structure CopM (B : Nat) (W : World) (ds : List Int) (cs : List Con) (bd bo : Nat) (F : Nat → Value) : Prop where
  gd : B ≤ bd
  go : B ≤ bo
  rd : W.rowIs bd 3 ds.length (icell ds ds.length)
  ro : W.rowIs bo 60 (cs.length * 5) F
  ca : ∀ i, i < cs.length → ConAt B W F (con0 cs i) i
def modV (ds : List Int) (cs : List Con) (bd bo : Nat) : Value := .agg #[.slice (some ⟨bd, 0, none⟩) ds.length ds.length, .slice (some ⟨bo, 0, none⟩) cs.length cs.length]
theorem CopM.ext {B : Nat} {W W' : World} {ds : List Int} {cs : List Con} {bd bo : Nat} {F : Nat → Value} (h : CopM B W ds cs bd bo F) (hx : Ext W W') : CopM B W' ds cs bd bo F :=
  ⟨h.gd, h.go, hx.row h.rd, hx.row h.ro, fun i hi => (h.ca i hi).ext hx⟩
def OkMod (ds : List Int) (cs : List Con) : Prop := (ds.length * 8 ≤ 140737488355328 ∧ ∀ i, i < ds.length → I64 (at0 ds i)) ∧ OkCons cs
theorem SMod.ok {w : World} {v : Value} {ds : List Int} {cs : List Con} (h : SMod w v ds cs) : OkMod ds cs := by
  obtain ⟨vd, vc, -, h2, h3⟩ := h
  exact ⟨⟨h2.bytes, fun _ hi => h2.i64 hi⟩, h3.ok⟩
theorem CopM.smod {B : Nat} {W : World} {ds : List Int} {cs : List Con} {bd bo : Nat} {F : Nat → Value} (h : CopM B W ds cs bd bo F) (hk : OkMod ds cs) : SMod W (modV ds cs bd bo) ds cs :=
  ⟨_, _, rfl, SInts.of_row h.rd hk.1.1 hk.1.2, NewCons.scons hk.2 h.ro h.ca⟩
def NewMod (ds : List Int) (cs : List Con) (w : World) (e : Ending) (w' : World) : Prop := ∃ bd bo F, e = .returned (modV ds cs bd bo) ∧ CopM w.heap.size w' ds cs bd bo F ∧ Ext w w'
theorem nil2_at : ∀ i, i < (#[.slice none 0 0, .slice none 0 0] : Array Value).size → (#[.slice none 0 0, .slice none 0 0] : Array Value)[i]? = some ((fun _ => .slice none 0 0) i : Value)
  | 0, _ => rfl
  | 1, _ => rfl
  | n + 2, h => absurd h (by simp)
set_option maxRecDepth 100000 in
set_option maxHeartbeats 8000000 in
theorem toModel_any (v : Value) (ds : List Int) (cs : List Con) (w : World) (hM : SMod w v ds cs) :
    Calls Tryz.prog 7 #[v] w (NewMod ds cs w) := by
  obtain ⟨ve, vc, rfl, hE, hC⟩ := hM
  obtain ⟨Ae, ce, rfl, -, -⟩ := hE.form
  obtain ⟨Ac, cc, rfl, -, -⟩ := hC.form
  obtain ⟨w0, hw0⟩ : ∃ w0, w0 = ((w.alloc (.cells #[.slice Ae ds.length ce, .slice Ac cs.length cc] 25)).alloc (.cells #[.slice none 0 0, .slice none 0 0] 31)).alloc (.cells #[.slice none 0 0, .slice none 0 0] 31) := ⟨_, rfl⟩
  have hx0 : Ext w w0 := by rw [hw0]; exact (((Ext.refl w).alloc _).alloc _).alloc _
  have hs0 : w0.heap.size = w.heap.size + 3 := by rw [hw0]; simp
  have k0 : w0.cell? ⟨w.heap.size, 0, none⟩ = some (.slice Ae ds.length ce) := by rw [hw0]; go_simp
  have k1 : w0.cell? ⟨w.heap.size, 1, none⟩ = some (.slice Ac cs.length cc) := by rw [hw0]; go_simp
  have r1 : w0.rowIs (w.heap.size + 1) 31 2 (fun _ => .slice none 0 0) := by
    rw [hw0]
    have h := World.rowIs_alloc (w.alloc (.cells #[.slice Ae ds.length ce, .slice Ac cs.length cc] 25)) #[.slice none 0 0, .slice none 0 0] 31 _ nil2_at
    rw [World.size_alloc] at h
    exact ((Ext.refl _).alloc _).row h
  have r2 : w0.rowIs (w.heap.size + 2) 31 2 (fun _ => .slice none 0 0) := by
    rw [hw0]
    have h := World.rowIs_alloc ((w.alloc (.cells #[.slice Ae ds.length ce, .slice Ac cs.length cc] 25)).alloc (.cells #[.slice none 0 0, .slice none 0 0] 31)) #[.slice none 0 0, .slice none 0 0] 31 _ nil2_at
    rw [World.size_alloc, World.size_alloc] at h
    exact h
  have HX0 := hide hx0
  have hE0 := hide (hE.ext hx0)
  have hC0 := hide hC
  have R1 := hide r1
  have R2 := hide r2
  clear hE hC hx0 r1 r2
  go_enter Tryz.func7, Tryz.ntmps7
  go_wp2_with fail
  rw [← hw0]
  clear hw0
  refine (toIntS_any _ ds _ hE0.out).mono ?_
  rintro e w1 ⟨bd, hbd, rfl, hrd, hx1⟩
  have HX1 := hide hx1
  have HRD := hide hrd
  have r2a := hx1.row R2.out
  have R2A := hide r2a
  have c20 := r2a.cell (i := 0) (by omega)
  have z20 := r2a.frozen 0
  have hs1 := hx1.size
  have k1 := (hx1.cells _ _ (show w.heap.size < w0.heap.size by omega)).trans k1
  clear hx1 hrd r2a k0
  go_wp2_with fail
  obtain ⟨u1, hu1⟩ : ∃ u1, u1 = w1.setCell ⟨w.heap.size + 2, 0, none⟩ (.slice (some ⟨bd, 0, none⟩) ds.length ds.length) := ⟨_, rfl⟩
  have HE1 := hide (show Ext w u1 by rw [hu1]; exact (HX0.out.trans HX1.out).set (p := ⟨w.heap.size + 2, 0, none⟩) (by show w.heap.size ≤ w.heap.size + 2; omega) _)
  have HRD1 := hide (show u1.rowIs bd 3 ds.length (icell ds ds.length) by rw [hu1]; exact HRD.out.setOther (by show bd ≠ w.heap.size + 2; omega) _)
  have R21 := hide (show u1.rowIs (w.heap.size + 2) 31 2 _ by rw [hu1]; exact R2A.out.set 0 _)
  have R11 := hide (show u1.rowIs (w.heap.size + 1) 31 2 _ by rw [hu1]; exact (HX1.out.row R1.out).setOther (by show w.heap.size + 1 ≠ w.heap.size + 2; omega) _)
  have hsu : w1.heap.size = u1.heap.size := by rw [hu1]; simp [World.setCell]
  rw [← hu1]
  clear hu1 c20 z20 k1
  refine (toConstraintS_any _ cs _ (hC0.out.ext HE1.out)).mono ?_
  rintro e w3 ⟨bo, F, hbo, rfl, hro, hca, hx3⟩
  have r2a := hx3.row R21.out
  have R2A := hide r2a
  have c20 : w3.cell? ⟨w.heap.size + 2, 0, none⟩ = some (.slice (some ⟨bd, 0, none⟩) ds.length ds.length) := r2a.cell (i := 0) (by omega)
  have c21 := r2a.cell (i := 1) (by omega)
  have z21 := r2a.frozen 1
  have hs3 := hx3.size
  have r1a := hx3.row R11.out
  have R1A := hide r1a
  have d0 := r1a.cell (i := 0) (by omega)
  have d1 := r1a.cell (i := 1) (by omega)
  have y0 := r1a.frozen 0
  have y1 := r1a.frozen 1
  have HRD3 := hide (hx3.row HRD1.out)
  have HRO := hide hro
  have HCA := hide hca
  have HE3 := hide (HE1.out.trans hx3)
  clear hx3 hro hca r2a r1a
  go_wp2_with fail
  (try simp only [Exit.inBlock, Exit.then])
  refine bodyPost_ret (v := modV ds cs bd bo) (by simp only [results, Tryz.results7]; go_simp; rfl) rfl ?_
  have p0 := R1A.out.setOther (a := ⟨w.heap.size + 2, 1, none⟩) (by show w.heap.size + 1 ≠ w.heap.size + 2; omega) (.slice (some ⟨bo, 0, none⟩) cs.length cs.length)
  have g1 : bd ≠ w.heap.size + 2 := by omega
  have g2 : bd ≠ w.heap.size + 1 := by omega
  have g3 : bo ≠ w.heap.size + 2 := by omega
  have g4 : bo ≠ w.heap.size + 1 := by omega
  refine ⟨bd, bo, F, rfl, ⟨by omega, by omega, ?_, ?_, fun i hi => ?_⟩, ?_⟩
  · exact ((HRD3.out.setOther g1 _).setOther g2 _).setOther g2 _
  · exact ((HRO.out.setOther g3 _).setOther g4 _).setOther g4 _
  · obtain ⟨bv, ba, br, e0, e1, e2, e3, e4, h5⟩ := (HCA.out i hi).ex
    have q0 := (h5.mono (show w.heap.size ≤ u1.heap.size by omega)).setTy (o := 1) R2A.out (by decide) (by decide) (.slice (some ⟨bo, 0, none⟩) cs.length cs.length)
    exact ⟨bv, ba, br, e0, e1, e2, e3, e4, (q0.setTy p0 (by decide) (by decide) _).setTy (p0.set 0 _) (by decide) (by decide) _⟩
  · exact ((HE3.out.set (p := ⟨w.heap.size + 2, 1, none⟩) (by show w.heap.size ≤ w.heap.size + 2; omega) _).set (p := ⟨w.heap.size + 1, 0, none⟩) (by show w.heap.size ≤ w.heap.size + 1; omega) _).set (p := ⟨w.heap.size + 1, 1, none⟩) (by show w.heap.size ≤ w.heap.size + 1; omega) _
end Go.Proofs.YtllgicpiddapeaaGreatDoor
/- Words for the walks of the exact laws. -/
namespace Go.Proofs.YtllgicpiddapeaaGreatDoor
open Go.RowKit

/-- A word on one value. -/
def RS.p (D : List Nat) (ψ : Value → World → Prop) (h : ∀ v W W', ψ v W → Ext W W' → ψ v W') : RS := ⟨D, fun _ v W => ψ v W, fun _ v W W' h' hx => h v W W' h' hx⟩
theorem CopC.scon {B : Nat} {W : World} {c : Con} {bv ba br : Nat} (h : CopC B W c bv ba br) (hk : OkCon c) : SCon W (conV c bv ba br) c := ⟨_, _, _, rfl, h.vars hk, h.args hk, h.rows hk⟩
theorem eqCon_same (c : Con) (v v' : Value) (w : World) (h : SCon w v c) (h' : SCon w v' c) : Calls Tryz.prog 56 #[v, v'] w (Ret (.bool true) w) := by
  obtain ⟨vv, va, vr, rfl, h1, h2, h3⟩ := h
  obtain ⟨vv', va', vr', rfl, h1', h2', h3'⟩ := h'
  exact eqConstraint_same c _ _ _ _ _ _ w h1 h2 h3 h1' h2' h3'
end Go.Proofs.YtllgicpiddapeaaGreatDoor
/- Marking a model of the law's own. -/
namespace Go.Proofs.YtllgicpiddapeaaGreatDoor
open Go.RowKit

theorem Keep.ofG {w w' : World} {r : Option Nat} (h : w.grownBy w' r) : Keep (fun k => r ≠ some k) w w' := ⟨h.os, h.tape, h.output, h.size, fun k hk hs => h.block k hk (fun e => hs e.symm)⟩
/-- Only what lies in the blocks B .. E - 1 may have changed; rows of numbers are rows of numbers still; what leads to them is as it was. -/
structure MkS (B E : Nat) (W W' : World) : Prop where
  keep : Keep (fun k => k < B ∨ E ≤ k) W W'
  ints : ∀ b n f, W.rowIs b 3 n f → ∃ f', W'.rowIs b 3 n f'
  hdrs : ∀ b n f, W.rowIs b 22 n f → W'.rowIs b 22 n f
  cons : ∀ b n f, W.rowIs b 60 n f → ∃ f', W'.rowIs b 60 n f' ∧ ∀ j, j % 5 ≠ 0 → j % 5 ≠ 3 → f' j = f j
theorem MkS.refl (B E : Nat) (W : World) : MkS B E W W := ⟨Keep.refl _ _, fun _ _ f h => ⟨f, h⟩, fun _ _ _ h => h, fun _ _ f h => ⟨f, h, fun _ _ _ => rfl⟩⟩
theorem MkS.trans {B E : Nat} {W W' W'' : World} (h : MkS B E W W') (k : MkS B E W' W'') : MkS B E W W'' := by
  refine ⟨h.keep.trans k.keep, fun b n f hr => ?_, fun b n f hr => k.hdrs b n f (h.hdrs b n f hr), fun b n f hr => ?_⟩
  · obtain ⟨f1, h1⟩ := h.ints b n f hr
    exact k.ints b n f1 h1
  · obtain ⟨f1, h1, e1⟩ := h.cons b n f hr
    obtain ⟨f2, h2, e2⟩ := k.cons b n f1 h1
    exact ⟨f2, h2, fun j j0 j3 => (e2 j j0 j3).trans (e1 j j0 j3)⟩
theorem MkS.setCon {B E : Nat} {W : World} {bo m j : Nat} {F : Nat → Value} (hr : W.rowIs bo 60 m F) (hb : B ≤ bo) (he : bo < E) (hj : j % 5 = 0 ∨ j % 5 = 3) (u : Value) : MkS B E W (W.setCell ⟨bo, j, none⟩ u) := by
  refine ⟨(Keep.refl _ _).set (fun _ h => by have h : bo < B ∨ E ≤ bo := h; omega) u, fun b n f h => ⟨f, h.setOther (rowNe h hr (by decide)) u⟩, fun b n f h => h.setOther (rowNe h hr (by decide)) u, fun b n f h => ?_⟩
  by_cases e : b = bo
  · subst e
    refine ⟨_, h.set j u, fun i i0 i3 => ?_⟩
    show (if i = j then _ else _) = _
    rw [if_neg (fun e => by subst e; omega)]
  · exact ⟨f, h.setOther e u, fun _ _ _ => rfl⟩
theorem rowLen {W : World} {b n m : Nat} {t : TypeId} {f g : Nat → Value} (h : W.rowIs b t n f) (k : W.rowIs b t m g) : n = m := by
  obtain ⟨x1, y1, z1, -⟩ := h
  obtain ⟨x2, y2, z2, -⟩ := k
  rw [y2] at y1
  injection y1 with y1
  injection y1 with y1 _
  rw [← z1, ← z2, y1]
theorem MkS.ofMarked {B E : Nat} {W W' : World} {r k0 : Int} {b n m : Nat} {f : Nat → Value} {e : Ending} (hr : W.rowIs b 3 m f) (hb : B ≤ b) (he : b < E) (hm : Marked r k0 b 3 n m f W e W') : MkS B E W W' := by
  obtain ⟨-, hg, hro⟩ := hm
  have hoff : ∀ b', b' ≠ b → ∀ {t : TypeId} {n : Nat} {f : Nat → Value}, W.rowIs b' t n f → W'.rowIs b' t n f := fun b' hb' _ _ _ h9 => upd_row hg h9 (fun _ => hb')
  refine ⟨Keep.mono (Keep.ofG hg) (fun k _ hk e => ?_), fun b' n' f' h => ?_, fun b' n' f' h => hoff b' (rowNe h hr (by decide)) h, fun b' n' f' h => ⟨f', hoff b' (rowNe h hr (by decide)) h, fun _ _ _ => rfl⟩⟩
  · unfold rowOf at e
    split at e
    · cases e
    · injection e with e; have hk : k < B ∨ E ≤ k := hk; omega
  · by_cases e : b' = b
    · subst e
      by_cases h0 : 0 < n
      · have := rowLen h hr
        subst this
        exact ⟨_, hro h0⟩
      · rw [rowOf, if_pos (by omega)] at hg
        exact ⟨f', h.of_block (hg.block _ h.lt (by simp))⟩
    · exact ⟨f', hoff b' e h⟩
/-- Rows of numbers that may be marked. -/
def ShI (B E : Nat) (W : World) (n b : Nat) : Prop := B ≤ b ∧ b < E ∧ ∃ f, W.rowIs b 3 n f
def ShR (B E : Nat) (W : World) (rs : List (List Int)) (br : Nat) : Prop := ∃ g, W.rowIs br 22 rs.length g ∧ ∀ i, i < rs.length → ∃ bi, g i = .slice (some ⟨bi, 0, none⟩) (rw0 rs i).length (rw0 rs i).length ∧ ShI B E W (rw0 rs i).length bi
theorem ShI.step {B E : Nat} {W W' : World} {n b : Nat} (h : ShI B E W n b) (k : MkS B E W W') : ShI B E W' n b := by
  obtain ⟨h1, h2, f, h3⟩ := h
  obtain ⟨f', h4⟩ := k.ints b n f h3
  exact ⟨h1, h2, f', h4⟩
theorem ShR.step {B E : Nat} {W W' : World} {rs : List (List Int)} {br : Nat} (h : ShR B E W rs br) (k : MkS B E W W') : ShR B E W' rs br := by
  obtain ⟨g, h1, h2⟩ := h
  refine ⟨g, k.hdrs _ _ _ h1, fun i hi => ?_⟩
  obtain ⟨bi, e, h3⟩ := h2 i hi
  exact ⟨bi, e, h3.step k⟩
/-- The marks have been made: k1 comes next. -/
def MkE (B E : Nat) (k0 : Int) (sz : Nat) (W : World) (e : Ending) (W' : World) : Prop := ∃ k1 : Int, e = .returned (.int .i64 k1) ∧ k0 ≤ k1 ∧ k1 ≤ k0 + sz ∧ MkS B E W W'
theorem markI_any {B E : Nat} {W : World} {n b : Nat} (h : ShI B E W n b) (k0 : Int) (h0 : 0 ≤ k0) (h1 : k0 ≤ 100000000) (hn : n ≤ 100000000) :
    Calls Tryz.prog 15 #[.slice (some ⟨b, 0, none⟩) n n, .int .i64 k0] W (MkE B E k0 n W) := by
  obtain ⟨g1, g2, f, hr⟩ := h
  refine (markIntS_any (some ⟨b, 0, none⟩) n n b n f k0 W h0 (by omega) (by omega) (hide fun _ => ⟨rfl, hr, Nat.le_refl _⟩)).mono ?_
  intro e w' hm
  exact ⟨_, hm.1, by omega, Int.le_refl _, MkS.ofMarked hr g1 g2 hm⟩
theorem szR_le2 {rs : List (List Int)} : ∀ {k n : Nat}, k ≤ n → szR rs k ≤ szR rs n := by
  intro k n h
  induction n with
  | zero =>
    obtain rfl : k = 0 := by omega
    exact Nat.le_refl _
  | succ n ih =>
    by_cases e : k = n + 1
    · subst e; exact Nat.le_refl _
    · have := ih (by omega); rw [szR]; omega
set_option maxHeartbeats 4000000 in
theorem markR_any {B E : Nat} {W : World} {rs : List (List Int)} {br : Nat} (h : ShR B E W rs br) (k0 : Int) (h0 : 0 ≤ k0) (h1 : k0 ≤ 90000000) (hn : szR rs rs.length ≤ 1048576) (hl : rs.length ≤ 1048576) :
    Calls Tryz.prog 74 #[.slice (some ⟨br, 0, none⟩) rs.length rs.length, .int .i64 k0] W (MkE B E k0 (szR rs rs.length) W) := by
  have H := hide h
  clear h
  go_enter Tryz.func74, Tryz.ntmps74
  go_wp2
  go_loopw [1, 5] (fun l i wr => ∃ (k : Nat) (kk : Int), k ≤ rs.length ∧ i = .int .i64 k ∧ l = .int .i64 kk ∧ k0 ≤ kk ∧ kk ≤ k0 + szR rs k ∧ MkS B E W wr) (fun _ i _ => rs.length - (intOf i).toNat)
  case atStart => exact ⟨0, k0, Nat.zero_le _, rfl, rfl, Int.le_refl _, by simp [szR], MkS.refl _ _ _⟩
  case round =>
    obtain ⟨k, kk, hk, rfl, rfl, hk1, hk2, hms⟩ := hrel
    have HM := hide hms
    have hsz := szR_le2 (rs := rs) (k := k) (n := rs.length) hk
    by_cases hlt : k < rs.length
    · have hkI : (k : Int) < rs.length := by omega
      obtain ⟨g, hg, hgi⟩ := H.out.step hms
      obtain ⟨bi, e, hsi⟩ := hgi k hlt
      have f0 := hg.cell hlt
      rw [e] at f0
      have HSI := hide hsi
      have h9 := szR_le2 (rs := rs) (k := k + 1) (n := rs.length) (by omega)
      rw [szR] at h9
      clear hms hg hgi e hsi
      go_wp2_with fail
      refine (markI_any HSI.out kk (by omega) (by omega) (by omega)).mono ?_
      rintro e w2 ⟨k1, rfl, hk3, hk4, hm2⟩
      have HM2 := hide (HM.out.trans hm2)
      clear hm2
      go_wp2
      go_roundw
      case rel => exact ⟨k + 1, k1, by omega, by go_num, rfl, by omega, by rw [szR]; omega, HM2.out⟩
      case measure => simp [intOf]; omega
    · obtain rfl : k = rs.length := by omega
      have hkI : ¬ ((rs.length : Int) < rs.length) := by omega
      go_wp2
      go_ret
      exact ⟨kk, rfl, hk1, hk2, HM.out⟩
/-- Constraints that may be marked. -/
def ShC (B E : Nat) (W : World) (c : Con) (F : Nat → Value) (i : Nat) : Prop := ∃ bv ba br, F (i * 5 + 1) = .slice (some ⟨bv, 0, none⟩) c.vars.length c.vars.length ∧ F (i * 5 + 2) = .slice (some ⟨ba, 0, none⟩) c.args.length c.args.length ∧ F (i * 5 + 4) = .slice (some ⟨br, 0, none⟩) c.rows.length c.rows.length ∧
  ShI B E W c.vars.length bv ∧ ShI B E W c.args.length ba ∧ ShR B E W c.rows br
def ShS (B E : Nat) (W : World) (cs : List Con) (bo : Nat) : Prop := B ≤ bo ∧ bo < E ∧ ∃ F, W.rowIs bo 60 (cs.length * 5) F ∧ ∀ i, i < cs.length → ShC B E W (con0 cs i) F i
theorem ShS.step {B E : Nat} {W W' : World} {cs : List Con} {bo : Nat} (h : ShS B E W cs bo) (k : MkS B E W W') : ShS B E W' cs bo := by
  obtain ⟨h1, h2, F, hr, hc⟩ := h
  obtain ⟨F', hr', he⟩ := k.cons _ _ _ hr
  refine ⟨h1, h2, F', hr', fun i hi => ?_⟩
  obtain ⟨bv, ba, br, e1, e2, e4, s1, s2, s3⟩ := hc i hi
  exact ⟨bv, ba, br, (he _ (by omega) (by omega)).trans e1, (he _ (by omega) (by omega)).trans e2, (he _ (by omega) (by omega)).trans e4, s1.step k, s2.step k, s3.step k⟩
theorem szCs_le {cs : List Con} : ∀ {k n : Nat}, k ≤ n → szCs cs k ≤ szCs cs n := by
  intro k n h
  induction n with
  | zero =>
    obtain rfl : k = 0 := by omega
    exact Nat.le_refl _
  | succ n ih =>
    by_cases e : k = n + 1
    · subst e; exact Nat.le_refl _
    · have := ih (by omega); rw [szCs]; omega
set_option maxHeartbeats 8000000 in
theorem markC_any {B E : Nat} {W : World} {cs : List Con} {bo : Nat} (h : ShS B E W cs bo) (k0 : Int) (h0 : 0 ≤ k0) (h1 : k0 ≤ 10000000) (hn : szCs cs cs.length ≤ 1048576) (hl : cs.length ≤ 1048576) :
    Calls Tryz.prog 38 #[.slice (some ⟨bo, 0, none⟩) cs.length cs.length, .int .i64 k0] W (MkE B E k0 (2 * cs.length + szCs cs cs.length) W) := by
  have H := hide h
  clear h
  go_enter Tryz.func38, Tryz.ntmps38
  go_wp2
  go_loopw [1, 5] (fun l i wr => ∃ (k : Nat) (kk : Int), k ≤ cs.length ∧ i = .int .i64 k ∧ l = .int .i64 kk ∧ k0 ≤ kk ∧ kk ≤ k0 + 2 * k + szCs cs k ∧ MkS B E W wr) (fun _ i _ => cs.length - (intOf i).toNat)
  case atStart => exact ⟨0, k0, Nat.zero_le _, rfl, rfl, Int.le_refl _, by simp [szCs], MkS.refl _ _ _⟩
  case round =>
    obtain ⟨k, kk, hk, rfl, rfl, hk1, hk2, hms⟩ := hrel
    have HM := hide hms
    have hsz := szCs_le (cs := cs) (k := k) (n := cs.length) hk
    by_cases hlt : k < cs.length
    · have hkI : (k : Int) < cs.length := by omega
      obtain ⟨g1, g2, F, hr, hc⟩ := H.out.step hms
      obtain ⟨bv, ba, br, e1, e2, e4, s1, s2, s3⟩ := hc k hlt
      have h9 := szCs_le (cs := cs) (k := k + 1) (n := cs.length) (by omega)
      rw [szCs, szC] at h9
      have c0 := hr.cell (i := k * 5) (by omega)
      have z0 := hr.frozen (k * 5)
      have c1 := hr.cell (i := k * 5 + 1) (by omega)
      rw [e1] at c1
      have m1 := hide (MkS.setCon (j := k * 5) hr g1 g2 (by omega) (.int .i64 kk))
      have S1 := hide (s1.step m1.out)
      have M1 := hide (HM.out.trans m1.out)
      clear hms hr hc e1 e2 e4 s1 s2 s3
      go_wp2_with fail
      refine (markI_any S1.out (kk + 1) (by omega) (by omega) (by omega)).mono ?_
      rintro e w2 ⟨k1, rfl, hk3, hk4, hm2⟩
      have M2 := hide (M1.out.trans hm2)
      obtain ⟨-, -, F2, hr2, hc2⟩ := H.out.step M2.out
      obtain ⟨bv2, ba2, br2, e1, e2, e4, s1, s2, s3⟩ := hc2 k hlt
      have c2 := hr2.cell (i := k * 5 + 2) (by omega)
      rw [e2] at c2
      have S2 := hide s2
      clear hm2 c0 z0 c1 hr2 hc2 e1 e2 e4 s1 s2 s3
      go_wp2_with fail
      refine (markI_any S2.out k1 (by omega) (by omega) (by omega)).mono ?_
      rintro e w3 ⟨k2, rfl, hk5, hk6, hm3⟩
      have M3 := hide (M2.out.trans hm3)
      obtain ⟨-, -, F3, hr3, hc3⟩ := H.out.step M3.out
      obtain ⟨bv3, ba3, br3, e1, e2, e4, s1, s2, s3⟩ := hc3 k hlt
      have c3 := hr3.cell (i := k * 5 + 3) (by omega)
      have z3 := hr3.frozen (k * 5 + 3)
      have c4 := hr3.cell (i := k * 5 + 4) (by omega)
      rw [e4] at c4
      have m4 := hide (MkS.setCon (j := k * 5 + 3) hr3 g1 g2 (by omega) (.int .i64 k2))
      have S3 := hide (s3.step m4.out)
      have M4 := hide (M3.out.trans m4.out)
      clear hm3 c2 hr3 hc3 e1 e2 e4 s1 s2 s3
      go_wp2_with fail
      refine (markR_any S3.out (k2 + 1) (by omega) (by omega) (by omega) (by omega)).mono ?_
      rintro e w5 ⟨k3, rfl, hk7, hk8, hm5⟩
      have M5 := hide (M4.out.trans hm5)
      clear hm5 c3 z3 c4
      go_wp2
      go_roundw
      case rel => exact ⟨k + 1, k3, by omega, by go_num, rfl, by omega, by rw [szCs, szC]; omega, M5.out⟩
      case measure => simp [intOf]; omega
    · obtain rfl : k = cs.length := by omega
      have hkI : ¬ ((cs.length : Int) < cs.length) := by omega
      go_wp2
      go_ret
      exact ⟨kk, rfl, hk1, by omega, HM.out⟩
set_option maxHeartbeats 4000000 in
theorem markM_any {B : Nat} {W : World} {ds : List Int} {cs : List Con} {bd bo : Nat} {F : Nat → Value} {W0 : World} (hc : CopM B W0 ds cs bd bo F) (hx : Ext W0 W) (h1 : ds.length + (cs.length + szCs cs cs.length) ≤ 1048576) :
    Calls Tryz.prog 14 #[modV ds cs bd bo, .int .i64 1] W (fun e W' => ∃ k1 : Int, e = .returned (.int .i64 k1) ∧ 0 ≤ k1 ∧ k1 ≤ 10000000 ∧ Keep (fun k => k < B ∨ W0.heap.size ≤ k) W W') := by
  have HD := hide (show ShI B W0.heap.size W ds.length bd from ⟨hc.gd, hc.rd.lt, _, hx.row hc.rd⟩)
  have HC := hide (show ShS B W0.heap.size W cs bo from ⟨hc.go, hc.ro.lt, F, hx.row hc.ro, fun i hi => by
    obtain ⟨bv, ba, br, e0, e1, e2, e3, e4, h⟩ := (hc.ca i hi).ex
    refine ⟨bv, ba, br, e1, e2, e4, ⟨h.gv, h.rv.lt, _, hx.row h.rv⟩, ⟨h.ga, h.ra.lt, _, hx.row h.ra⟩, ?_⟩
    obtain ⟨g, q1, -, q3⟩ := h.rr
    refine ⟨g, hx.row q1, fun j hj => ?_⟩
    obtain ⟨bi, r1, -, r3, r4⟩ := q3 j hj
    exact ⟨bi, r3, r1, r4.lt, _, hx.row r4⟩⟩)
  obtain ⟨w0, hw0⟩ : ∃ w0, w0 = W.alloc (.cells #[.slice (some ⟨bd, 0, none⟩) ds.length ds.length, .slice (some ⟨bo, 0, none⟩) cs.length cs.length] 31) := ⟨_, rfl⟩
  have hx0 : Ext W w0 := by rw [hw0]; exact (Ext.refl W).alloc _
  have k0 : w0.cell? ⟨W.heap.size, 0, none⟩ = some (.slice (some ⟨bd, 0, none⟩) ds.length ds.length) := by rw [hw0]; go_simp
  have k1 : w0.cell? ⟨W.heap.size, 1, none⟩ = some (.slice (some ⟨bo, 0, none⟩) cs.length cs.length) := by rw [hw0]; go_simp
  have ks : W.heap.size < w0.heap.size := by rw [hw0]; simp
  have hWs := hx.size
  have HX0 := hide hx0
  have HD0 := hide (show ShI B W0.heap.size w0 ds.length bd by obtain ⟨a, b, f, c⟩ := HD.out; exact ⟨a, b, f, hx0.row c⟩)
  have HC0 := hide (show ShS B W0.heap.size w0 cs bo by
    obtain ⟨a, b, F, c, d⟩ := HC.out
    refine ⟨a, b, F, hx0.row c, fun i hi => ?_⟩
    obtain ⟨bv, ba, br, e1, e2, e4, ⟨p1, p2, f3, p3⟩, ⟨q1, q2, f4, q3⟩, g, r1, r2⟩ := d i hi
    refine ⟨bv, ba, br, e1, e2, e4, ⟨p1, p2, f3, hx0.row p3⟩, ⟨q1, q2, f4, hx0.row q3⟩, g, hx0.row r1, fun j hj => ?_⟩
    obtain ⟨bi, t1, t2, t3, f5, t4⟩ := r2 j hj
    exact ⟨bi, t1, t2, t3, f5, hx0.row t4⟩)
  clear hc hx hx0
  rw [modV]
  go_enter Tryz.func14, Tryz.ntmps14
  go_wp2_with fail
  rw [← hw0]
  clear hw0
  refine (markI_any HD0.out 1 (by omega) (by omega) (by omega)).mono ?_
  rintro e w2 ⟨k2, rfl, hk1, hk2, hm2⟩
  have M2 := hide hm2
  have k1 := (hm2.keep.cell (p := ⟨W.heap.size, 1, none⟩) ks (.inr hWs)).trans k1
  have S2 := hide (HC0.out.step hm2)
  clear hm2 k0
  go_wp2_with fail
  refine (markC_any S2.out k2 (by omega) (by omega) (by omega) (by omega)).mono ?_
  rintro e w3 ⟨k3, rfl, hk3, hk4, hm3⟩
  have M3 := hide (M2.out.trans hm3)
  clear hm3 k1
  go_wp2
  go_ret
  exact ⟨k3, rfl, by omega, by omega, (HX0.out.keep _).trans M3.out.keep⟩
end Go.Proofs.YtllgicpiddapeaaGreatDoor
