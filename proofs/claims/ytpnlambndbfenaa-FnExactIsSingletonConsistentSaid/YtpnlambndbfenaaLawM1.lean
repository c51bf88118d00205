/- The laws' own helpers over constraints and models: sizes, copies, comparisons. -/
import Derived.Test.YtpnlambndbfenaaAutB
import Derived.Test.YtpnlambndbfenaaProp
namespace Go.Proofs.Ytpnlambndbfenaa
open Go.RowKit

/-- How many numbers and rows a constraint has. -/
def szC (c : Con) : Nat := c.vars.length + c.args.length + c.rows.length + szR c.rows c.rows.length
def szCs (cs : List Con) : Nat → Nat
  | 0 => 0
  | k + 1 => szCs cs k + szC (con0 cs k)
/-- What is left when m is paid for, or -1. -/
def SzN (m : Nat) (n : Int) (w : World) (e : Ending) (w' : World) : Prop :=
  ∃ r : Int, e = .returned (.int .i64 r) ∧ (r = -1 ∨ 0 ≤ r ∧ r = n - m) ∧ Ext w w'
set_option maxHeartbeats 2000000 in
theorem szConstraint_any (c : Con) (vv va vr : Value) (n : Int) (w : World) (hV : SInts w vv c.vars) (hA : SInts w va c.args) (hR : SRows w vr c.rows) (h1 : 0 ≤ n) (h2 : n ≤ 1048576) :
    Calls Try.prog 9 #[.agg #[.int .i64 c.kk, vv, va, .int .i64 c.bound, vr], .int .i64 n] w (SzN (szC c) n w) := by
  obtain ⟨Av, cv, rfl, -, hlv⟩ := hV.form
  obtain ⟨Aa, ca, rfl, -, hla⟩ := hA.form
  obtain ⟨Ar, cr, rfl, -, hlr⟩ := hR.form
  obtain ⟨w0, hw0⟩ : ∃ w0, w0 = w.alloc (.cells #[.int .i64 c.kk, .slice Av c.vars.length cv, .slice Aa c.args.length ca, .int .i64 c.bound, .slice Ar c.rows.length cr] 25) := ⟨_, rfl⟩
  have hx0 : Ext w w0 := by rw [hw0]; exact (Ext.refl w).alloc _
  have k1 : w0.cell? ⟨w.heap.size, 1, none⟩ = some (.slice Av c.vars.length cv) := by rw [hw0]; go_simp
  have k2 : w0.cell? ⟨w.heap.size, 2, none⟩ = some (.slice Aa c.args.length ca) := by rw [hw0]; go_simp
  have k4 : w0.cell? ⟨w.heap.size, 4, none⟩ = some (.slice Ar c.rows.length cr) := by rw [hw0]; go_simp
  have HX0 := hide hx0
  have hV0 := hide (hV.ext hx0)
  have hA0 := hide (hA.ext hx0)
  have hR0 := hide (hR.ext hx0)
  clear hV hA hR hx0
  go_enter Try.func9, Try.ntmps9
  go_wp2_with fail
  rw [← hw0]
  clear hw0
  refine (szIntS_any _ c.vars n _ hV0.out h1 h2).mono ?_
  rintro e w2 ⟨rfl, rfl⟩
  by_cases hf1 : (c.vars.length : Int) ≤ n
  · have e1 := left0_pos hf1
    have hnn : 0 ≤ left0 n c.vars.length := by rw [e1]; omega
    obtain ⟨r1, hr1⟩ : ∃ r, r = left0 n c.vars.length := ⟨_, rfl⟩
    have HR1 := hide (show r1 = n - c.vars.length by rw [hr1, e1])
    rw [← hr1] at hnn ⊢
    have hn2 : r1 ≤ 1048576 := by rw [hr1, e1]; omega
    have hnl : ¬ (r1 < 0) := by omega
    clear e1 hr1
    go_wp2_with fail
    refine (szIntS_any _ c.args r1 _ hA0.out hnn hn2).mono ?_
    rintro e w2 ⟨rfl, rfl⟩
    by_cases hf2 : (c.args.length : Int) ≤ r1
    · have e1 := left0_pos hf2
      have hnn2 : 0 ≤ left0 r1 c.args.length := by rw [e1]; omega
      obtain ⟨r2, hr2⟩ : ∃ r, r = left0 r1 c.args.length := ⟨_, rfl⟩
      have HR2 := hide (show r2 = r1 - c.args.length by rw [hr2, e1])
      rw [← hr2] at hnn2 ⊢
      have hn3 : r2 ≤ 1048576 := by rw [hr2, e1]; omega
      have hnl2 : ¬ (r2 < 0) := by omega
      clear e1 hr2
      go_wp2_with fail
      refine (szIntSS_any _ c.rows r2 _ hR0.out hnn2 hn3).mono ?_
      rintro e w2 ⟨r, rfl, hr, hx2⟩
      have HX2 := hide hx2
      clear hx2
      rcases hr with rfl | ⟨hr0, -, -, hr1, -⟩
      · go_wp2_with fail
        go_ret
        exact ⟨_, rfl, .inl rfl, HX0.out.trans HX2.out⟩
      · have HR := hide hr1
        have hnl3 : ¬ (r < 0) := by omega
        clear hr1
        go_wp2_with fail
        go_ret
        exact ⟨_, rfl, .inr ⟨hr0, by rw [HR.out, HR2.out, HR1.out, szC]; omega⟩, HX0.out.trans HX2.out⟩
    · have e1 : left0 r1 c.args.length = -1 := left0_neg (by omega)
      rw [e1]
      clear e1
      go_wp2_with fail
      go_ret
      exact ⟨_, rfl, .inl rfl, HX0.out⟩
  · have e1 : left0 n c.vars.length = -1 := left0_neg (by omega)
    rw [e1]
    clear e1
    go_wp2_with fail
    go_ret
    exact ⟨_, rfl, .inl rfl, HX0.out⟩
set_option maxHeartbeats 2000000 in
theorem szConstraintS_any (v : Value) (cs : List Con) (n : Int) (w : World) (hC : SCons w v cs) (h1 : 0 ≤ n) (h2 : n ≤ 1048576) :
    Calls Try.prog 53 #[v, .int .i64 n] w (SzN (cs.length + szCs cs cs.length) n w) := by
  have hC0 := hide hC
  obtain ⟨Ac, cc, rfl, -, hlc⟩ := hC.form
  clear hC
  by_cases hle : (cs.length : Int) ≤ n
  · go_enter Try.func53, Try.ntmps53
    go_wp2
    go_loopw [1, 5] (fun l i wr => ∃ (k : Nat) (r : Int), k ≤ cs.length ∧ i = .int .i64 k ∧ l = .int .i64 r ∧ 0 ≤ r ∧ r = n - cs.length - szCs cs k ∧ Ext w wr) (fun _ i _ => cs.length - (intOf i).toNat)
    case atStart => exact ⟨0, n - cs.length, Nat.zero_le _, rfl, rfl, by omega, by simp [szCs], Ext.refl w⟩
    case round =>
      obtain ⟨k, r, hk, rfl, rfl, hr0, hr1, hx⟩ := hrel
      have HR := hide hr1
      have hrn : r ≤ 1048576 := by omega
      have HX := hide hx
      clear hr1
      by_cases hlt : k < cs.length
      · have hkI : (k : Int) < cs.length := by omega
        obtain ⟨b, off, rfl, hbl, vv, va, vr, f1, f2, f3, f4, f5, s1, s2, s3⟩ := (hC0.out.ext hx).at_ hlt
        obtain ⟨Av, cv, rfl, -, -⟩ := s1.form
        obtain ⟨Aa, ca, rfl, -, -⟩ := s2.form
        obtain ⟨Ar, cr, rfl, -, -⟩ := s3.form
        have S1 := hide s1
        have S2 := hide s2
        have S3 := hide s3
        clear s1 s2 s3 hx
        go_wp2_with fail
        refine (szConstraint_any (con0 cs k) _ _ _ r _ S1.out S2.out S3.out hr0 hrn).mono ?_
        rintro e w2 ⟨r2, rfl, hr2, hx2⟩
        have HX2 := hide (HX.out.trans hx2)
        clear hx2
        rcases hr2 with rfl | ⟨hr20, hr21⟩
        · go_wp2_with fail
          go_ret
          exact ⟨_, rfl, .inl rfl, HX2.out⟩
        · have HR2 := hide hr21
          have hnl : ¬ (r2 < 0) := by omega
          clear hr21
          go_wp2_with fail
          go_roundw
          case rel => exact ⟨k + 1, r2, by omega, by go_num, by go_num, hr20, by rw [HR2.out, HR.out, szCs]; omega, HX2.out⟩
          case measure => simp [intOf]; omega
      · obtain rfl : k = cs.length := by omega
        have hkI : ¬ ((cs.length : Int) < cs.length) := by omega
        go_wp2
        go_ret
        exact ⟨r, rfl, .inr ⟨hr0, by rw [HR.out]; omega⟩, HX.out⟩
  · go_enter Try.func53, Try.ntmps53
    go_wp2
    go_ret
    exact ⟨_, rfl, .inl rfl, Ext.refl _⟩
set_option maxHeartbeats 2000000 in
theorem szModel_any (v : Value) (ds : List Int) (cs : List Con) (n : Int) (w : World) (hM : SMod w v ds cs) (h1 : 0 ≤ n) (h2 : n ≤ 1048576) :
    Calls Try.prog 18 #[v, .int .i64 n] w (SzN (ds.length + (cs.length + szCs cs cs.length)) n w) := by
  obtain ⟨ve, vc, rfl, hE, hC⟩ := hM
  obtain ⟨Ae, ce, rfl, -, hle⟩ := hE.form
  obtain ⟨Ac, cc, rfl, -, hlc⟩ := hC.form
  obtain ⟨w0, hw0⟩ : ∃ w0, w0 = w.alloc (.cells #[.slice Ae ds.length ce, .slice Ac cs.length cc] 43) := ⟨_, rfl⟩
  have hx0 : Ext w w0 := by rw [hw0]; exact (Ext.refl w).alloc _
  have k0 : w0.cell? ⟨w.heap.size, 0, none⟩ = some (.slice Ae ds.length ce) := by rw [hw0]; go_simp
  have k1 : w0.cell? ⟨w.heap.size, 1, none⟩ = some (.slice Ac cs.length cc) := by rw [hw0]; go_simp
  have HX0 := hide hx0
  have hE0 := hide (hE.ext hx0)
  have hC0 := hide (hC.ext hx0)
  clear hE hC hx0
  go_enter Try.func18, Try.ntmps18
  go_wp2_with fail
  rw [← hw0]
  clear hw0
  refine (szIntS_any _ ds n _ hE0.out h1 h2).mono ?_
  rintro e w2 ⟨rfl, rfl⟩
  by_cases hf1 : (ds.length : Int) ≤ n
  · have e1 := left0_pos hf1
    have hnn : 0 ≤ left0 n ds.length := by rw [e1]; omega
    obtain ⟨r1, hr1⟩ : ∃ r, r = left0 n ds.length := ⟨_, rfl⟩
    have HR1 := hide (show r1 = n - ds.length by rw [hr1, e1])
    rw [← hr1] at hnn ⊢
    have hn2 : r1 ≤ 1048576 := by rw [hr1, e1]; omega
    have hnl : ¬ (r1 < 0) := by omega
    clear e1 hr1
    go_wp2_with fail
    refine (szConstraintS_any _ cs r1 _ hC0.out hnn hn2).mono ?_
    rintro e w3 ⟨r, rfl, hr, hx3⟩
    have HX3 := hide (HX0.out.trans hx3)
    clear hx3
    rcases hr with rfl | ⟨hr0, hr1⟩
    · go_wp2_with fail
      go_ret
      exact ⟨_, rfl, .inl rfl, HX3.out⟩
    · have HR := hide hr1
      have hnl3 : ¬ (r < 0) := by omega
      clear hr1
      go_wp2_with fail
      go_ret
      exact ⟨_, rfl, .inr ⟨hr0, by rw [HR.out, HR1.out]; omega⟩, HX3.out⟩
  · have e1 : left0 n ds.length = -1 := left0_neg (by omega)
    rw [e1]
    clear e1
    go_wp2_with fail
    go_ret
    exact ⟨_, rfl, .inl rfl, HX0.out⟩
set_option maxHeartbeats 4000000 in
theorem eqConstraint_same (c : Con) (vv va vr vv' va' vr' : Value) (w : World) (hV : SInts w vv c.vars) (hA : SInts w va c.args) (hR : SRows w vr c.rows) (hV' : SInts w vv' c.vars) (hA' : SInts w va' c.args) (hR' : SRows w vr' c.rows) :
    Calls Try.prog 16 #[.agg #[.int .i64 c.kk, vv, va, .int .i64 c.bound, vr], .agg #[.int .i64 c.kk, vv', va', .int .i64 c.bound, vr']] w (Ret (.bool true) w) := by
  obtain ⟨Av, cv, rfl, -, -⟩ := hV.form
  obtain ⟨Aa, ca, rfl, -, -⟩ := hA.form
  obtain ⟨Ar, cr, rfl, -, -⟩ := hR.form
  obtain ⟨Bv, dv, rfl, -, -⟩ := hV'.form
  obtain ⟨Ba, da, rfl, -, -⟩ := hA'.form
  obtain ⟨Br, dr, rfl, -, -⟩ := hR'.form
  obtain ⟨w0, hw0⟩ : ∃ w0, w0 = (w.alloc (.cells #[.int .i64 c.kk, .slice Av c.vars.length cv, .slice Aa c.args.length ca, .int .i64 c.bound, .slice Ar c.rows.length cr] 32)).alloc (.cells #[.int .i64 c.kk, .slice Bv c.vars.length dv, .slice Ba c.args.length da, .int .i64 c.bound, .slice Br c.rows.length dr] 32) := ⟨_, rfl⟩
  have hx0 : Ext w w0 := by rw [hw0]; exact ((Ext.refl w).alloc _).alloc _
  have k0 : w0.cell? ⟨w.heap.size, 0, none⟩ = some (.int .i64 c.kk) := by rw [hw0]; go_simp
  have k1 : w0.cell? ⟨w.heap.size, 1, none⟩ = some (.slice Av c.vars.length cv) := by rw [hw0]; go_simp
  have k2 : w0.cell? ⟨w.heap.size, 2, none⟩ = some (.slice Aa c.args.length ca) := by rw [hw0]; go_simp
  have k3 : w0.cell? ⟨w.heap.size, 3, none⟩ = some (.int .i64 c.bound) := by rw [hw0]; go_simp
  have k4 : w0.cell? ⟨w.heap.size, 4, none⟩ = some (.slice Ar c.rows.length cr) := by rw [hw0]; go_simp
  have j0 : w0.cell? ⟨w.heap.size + 1, 0, none⟩ = some (.int .i64 c.kk) := by rw [hw0]; go_simp
  have j1 : w0.cell? ⟨w.heap.size + 1, 1, none⟩ = some (.slice Bv c.vars.length dv) := by rw [hw0]; go_simp
  have j2 : w0.cell? ⟨w.heap.size + 1, 2, none⟩ = some (.slice Ba c.args.length da) := by rw [hw0]; go_simp
  have j3 : w0.cell? ⟨w.heap.size + 1, 3, none⟩ = some (.int .i64 c.bound) := by rw [hw0]; go_simp
  have j4 : w0.cell? ⟨w.heap.size + 1, 4, none⟩ = some (.slice Br c.rows.length dr) := by rw [hw0]; go_simp
  have ks : w.heap.size < w0.heap.size := by rw [hw0]; simp; omega
  have js : w.heap.size + 1 < w0.heap.size := by rw [hw0]; simp
  have HX0 := hide hx0
  have hV0 := hide (hV.ext hx0)
  have hA0 := hide (hA.ext hx0)
  have hR0 := hide (hR.ext hx0)
  have hV1 := hide (hV'.ext hx0)
  have hA1 := hide (hA'.ext hx0)
  have hR1 := hide (hR'.ext hx0)
  clear hV hA hR hV' hA' hR' hx0
  go_enter Try.func16, Try.ntmps16
  go_wp2_with fail
  rw [← hw0]
  clear hw0
  refine (eqIntS_same _ _ c.vars _ hV0.out hV1.out).mono ?_
  rintro e w2 ⟨rfl, hx2⟩
  have k2 := (hx2.cells _ _ ks).trans k2
  have k3 := (hx2.cells _ _ ks).trans k3
  have k4 := (hx2.cells _ _ ks).trans k4
  have j2 := (hx2.cells _ _ js).trans j2
  have j3 := (hx2.cells _ _ js).trans j3
  have j4 := (hx2.cells _ _ js).trans j4
  have ks := Nat.lt_of_lt_of_le ks hx2.size
  have js := Nat.lt_of_lt_of_le js hx2.size
  have HX2 := hide hx2
  clear hx2 k0 k1 j0 j1
  go_wp2_with fail
  refine (eqIntS_same _ _ c.args _ (hA0.out.ext HX2.out) (hA1.out.ext HX2.out)).mono ?_
  rintro e w3 ⟨rfl, hx3⟩
  have k3 := (hx3.cells _ _ ks).trans k3
  have k4 := (hx3.cells _ _ ks).trans k4
  have j3 := (hx3.cells _ _ js).trans j3
  have j4 := (hx3.cells _ _ js).trans j4
  have HX3 := hide (HX2.out.trans hx3)
  clear hx3 k2 j2
  go_wp2_with fail
  refine (eqIntSS_same _ _ c.rows _ (hR0.out.ext HX3.out) (hR1.out.ext HX3.out)).mono ?_
  rintro e w4 ⟨rfl, hx4⟩
  have HX4 := hide ((HX0.out.trans HX3.out).trans hx4)
  clear hx4 k3 k4 j3 j4
  go_wp2
  go_ret
  exact Ret.mk rfl HX4.out
set_option maxHeartbeats 2000000 in
theorem eqConstraintS_same (v v' : Value) (cs : List Con) (w : World) (hC : SCons w v cs) (hC' : SCons w v' cs) :
    Calls Try.prog 65 #[v, v'] w (Ret (.bool true) w) := by
  have hC0 := hide hC
  have hC1 := hide hC'
  obtain ⟨Ac, cc, rfl, -, hlc⟩ := hC.form
  obtain ⟨Bc, dc, rfl, -, -⟩ := hC'.form
  clear hC hC'
  go_enter Try.func65, Try.ntmps65
  go_wp2
  go_loopw [5] (fun i wr => ∃ k : Nat, k ≤ cs.length ∧ i = .int .i64 k ∧ Ext w wr) (fun i _ => cs.length - (intOf i).toNat)
  case atStart => exact ⟨0, Nat.zero_le _, rfl, Ext.refl w⟩
  case round =>
    obtain ⟨k, hk, rfl, hx⟩ := hrel
    by_cases hlt : k < cs.length
    · have hkI : (k : Int) < cs.length := by omega
      obtain ⟨b, off, rfl, hbl, vv, va, vr, f1, f2, f3, f4, f5, s1, s2, s3⟩ := (hC0.out.ext hx).at_ hlt
      obtain ⟨b', off', rfl, hbl', vv', va', vr', f1', f2', f3', f4', f5', s1', s2', s3'⟩ := (hC1.out.ext hx).at_ hlt
      have S1 := hide s1
      have S2 := hide s2
      have S3 := hide s3
      have S1' := hide s1'
      have S2' := hide s2'
      have S3' := hide s3'
      clear s1 s2 s3 s1' s2' s3'
      go_wp2
      refine wp_region_ext (by kernel_rfl) (by kernel_rfl) ?_
      iterate 8 (apply quiet_val; (focus rfl); (focus (intro w' hw'; have hk' := hw'.cells; go_simp; all_goals exact rfl)); simp only [Act.put, List.setIfInBounds_toArray, List.set_cons_succ, List.set_cons_zero])
      apply quiet_call; (focus rfl); (focus (intro w' hw'; go_simp; all_goals (first | exact rfl | (apply And.intro <;> exact rfl))))
      · exact fun w' hw' => Ret.quiet (eqConstraint_same (con0 cs k) _ _ _ _ _ _ _ (S1.out.ext hw') (S2.out.ext hw') (S3.out.ext hw') (S1'.out.ext hw') (S2'.out.ext hw') (S3'.out.ext hw')) hw'
      (simp only [Act.put, List.setIfInBounds_toArray, List.set_cons_succ, List.set_cons_zero])
      (apply quiet_val; (focus rfl); (focus (intro w' hw'; have hk' := hw'.cells; go_simp; all_goals exact rfl)); simp only [Act.put, List.setIfInBounds_toArray, List.set_cons_succ, List.set_cons_zero])
      refine wpQuiet_nil ?_
      intro w2 hx2
      go_wp2
      go_roundw
      case rel => exact ⟨k + 1, by omega, by go_num, hx.trans hx2⟩
      case measure => simp [intOf]; omega
    · obtain rfl : k = cs.length := by omega
      have hkI : ¬ ((cs.length : Int) < cs.length) := by omega
      go_wp2
      go_ret
      exact Ret.mk rfl hx
set_option maxHeartbeats 2000000 in
theorem eqModel_same (v v' : Value) (ds : List Int) (cs : List Con) (w : World) (hM : SMod w v ds cs) (hM' : SMod w v' ds cs) :
    Calls Try.prog 22 #[v, v'] w (Ret (.bool true) w) := by
  obtain ⟨ve, vc, rfl, hE, hC⟩ := hM
  obtain ⟨ve', vc', rfl, hE', hC'⟩ := hM'
  obtain ⟨Ae, ce, rfl, -, -⟩ := hE.form
  obtain ⟨Ac, cc, rfl, -, -⟩ := hC.form
  obtain ⟨Be, de, rfl, -, -⟩ := hE'.form
  obtain ⟨Bc, dc, rfl, -, -⟩ := hC'.form
  obtain ⟨w0, hw0⟩ : ∃ w0, w0 = (w.alloc (.cells #[.slice Ae ds.length ce, .slice Ac cs.length cc] 48)).alloc (.cells #[.slice Be ds.length de, .slice Bc cs.length dc] 48) := ⟨_, rfl⟩
  have hx0 : Ext w w0 := by rw [hw0]; exact ((Ext.refl w).alloc _).alloc _
  have k0 : w0.cell? ⟨w.heap.size, 0, none⟩ = some (.slice Ae ds.length ce) := by rw [hw0]; go_simp
  have k1 : w0.cell? ⟨w.heap.size, 1, none⟩ = some (.slice Ac cs.length cc) := by rw [hw0]; go_simp
  have j0 : w0.cell? ⟨w.heap.size + 1, 0, none⟩ = some (.slice Be ds.length de) := by rw [hw0]; go_simp
  have j1 : w0.cell? ⟨w.heap.size + 1, 1, none⟩ = some (.slice Bc cs.length dc) := by rw [hw0]; go_simp
  have ks : w.heap.size < w0.heap.size := by rw [hw0]; simp; omega
  have js : w.heap.size + 1 < w0.heap.size := by rw [hw0]; simp
  have HX0 := hide hx0
  have hE0 := hide (hE.ext hx0)
  have hC0 := hide (hC.ext hx0)
  have hE1 := hide (hE'.ext hx0)
  have hC1 := hide (hC'.ext hx0)
  clear hE hC hE' hC' hx0
  go_enter Try.func22, Try.ntmps22
  go_wp2_with fail
  rw [← hw0]
  clear hw0
  refine (eqIntS_same _ _ ds _ hE0.out hE1.out).mono ?_
  rintro e w2 ⟨rfl, hx2⟩
  have k1 := (hx2.cells _ _ ks).trans k1
  have j1 := (hx2.cells _ _ js).trans j1
  have HX2 := hide hx2
  clear hx2 k0 j0
  go_wp2_with fail
  refine (eqConstraintS_same _ _ cs _ (hC0.out.ext HX2.out) (hC1.out.ext HX2.out)).mono ?_
  rintro e w3 ⟨rfl, hx3⟩
  have HX3 := hide ((HX0.out.trans HX2.out).trans hx3)
  clear hx3 k1 j1
  go_wp2
  go_ret
  exact Ret.mk rfl HX3.out
end Go.Proofs.Ytpnlambndbfenaa
