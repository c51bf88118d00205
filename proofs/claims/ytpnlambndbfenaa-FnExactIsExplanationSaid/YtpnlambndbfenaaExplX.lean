/- IsExplanation: the program's, and the reference's. -/
import Derived.Test.YtpnlambndbfenaaExpl
namespace Go.Proofs.Ytpnlambndbfenaa
open Go.RowKit

def expV (c : Con) (n : Int) (rs : List Rm) (r : Rm) : Bool := vCon c n && (okRms rs n && (okRm r n && explB c n.toNat rs r))
theorem okRms_one (r : Rm) (n : Int) : okRms [r] n = okRm r n := by
  unfold okRms anyB
  show (!(List.any (List.range 1) fun i => !okRm (rm0 [r] i) n) && true) = _
  simp [rm0, List.range_succ]
theorem SRm.one {w : World} {b : Nat} {r : Rm} (hb : b < w.heap.size) (h0 : w.cell? ⟨b, 0, none⟩ = some (.int .i64 r.x)) (h1 : w.cell? ⟨b, 1, none⟩ = some (.int .i64 r.v)) : SRm w (.slice (some ⟨b, 0, none⟩) 1 1) [r] :=
  ⟨_, _, rfl, Nat.le_refl _, by simp, fun _ => ⟨b, 0, rfl, hb, fun i hi => by
    obtain rfl : i = 0 := by simpa using hi
    exact ⟨h0, h1⟩⟩⟩
set_option maxHeartbeats 2000000 in
theorem IndexFuncRm_any (v : Value) (rs : List Rm) (g : Nat) (caps : Array Value) (p : Nat → Bool) (w : World) (hS : SRm w v rs)
    (hg : ∀ args W, (callFunc g args).run Try.prog W = .ok (.enter g args) W) (hp : Hid (∀ i, i < rs.length → ∀ W, Ext w W → Calls Try.prog g (#[.agg #[.int .i64 (rmX rs i), .int .i64 (rmV rs i)]] ++ caps) W (Ret (.bool (p i)) W))) :
    Calls Try.prog 95 #[v, .func (.func g) #[] caps] w (Ret (.int .i64 (fidx p rs.length)) w) := by
  have hS0 := hide hS
  obtain ⟨A, cp, rfl, hl, hlen⟩ := hS.form
  clear hS
  go_enter Try.func95, Try.ntmps95
  go_wp2
  go_loopw [8] (fun i wr => ∃ k : Nat, k ≤ rs.length ∧ i = .int .i64 k ∧ (∀ j, j < k → p j = false) ∧ Ext w wr) (fun i _ => rs.length - (intOf i).toNat)
  case atStart => exact ⟨0, Nat.zero_le _, rfl, fun j hj => absurd hj (by omega), Ext.refl w⟩
  case round =>
    obtain ⟨k, hk, rfl, hv, hx⟩ := hrel
    have Hv := hide hv; clear hv
    by_cases hlt : k < rs.length
    · have hkI : (k : Int) < rs.length := by omega
      obtain ⟨b, off, rfl, hbl, f1, f2⟩ := (hS0.out.ext hx).at_ hlt
      by_cases hpk : p k = true
      · go_wp2_with fail
        refine (hp.out k hlt _ hx).mono ?_
        rintro e w2 ⟨rfl, hx2⟩
        go_wp2
        go_ret
        exact Ret.mk (ret_i (fidx_some hlt hpk Hv.out).symm) (hx.trans hx2)
      · have hpk' : p k = false := Bool.eq_false_iff.2 hpk
        clear hpk
        go_wp2_with fail
        refine (hp.out k hlt _ hx).mono ?_
        rintro e w2 ⟨rfl, hx2⟩
        go_wp2
        go_roundw
        case rel => exact ⟨k + 1, by omega, by go_num, upto_succ Hv.out hpk', hx.trans hx2⟩
        case measure => simp [intOf]; omega
    · have hkl : k = rs.length := by omega
      subst hkl
      go_wp2
      go_ret
      exact Ret.mk (ret_i (fidx_none Hv.out).symm) hx
theorem ContainsFuncRm_any (v : Value) (rs : List Rm) (g : Nat) (caps : Array Value) (p : Nat → Bool) (w : World) (hS : SRm w v rs)
    (hg : ∀ args W, (callFunc g args).run Try.prog W = .ok (.enter g args) W) (hp : Hid (∀ i, i < rs.length → ∀ W, Ext w W → Calls Try.prog g (#[.agg #[.int .i64 (rmX rs i), .int .i64 (rmV rs i)]] ++ caps) W (Ret (.bool (p i)) W))) :
    Calls Try.prog 48 #[v, .func (.func g) #[] caps] w (Ret (.bool (anyB p rs.length)) w) := by
  go_enter Try.func48, Try.ntmps48
  go_wp2_with fail
  refine (IndexFuncRm_any v rs g caps p w hS hg hp).mono ?_
  rintro e w2 ⟨rfl, hx2⟩
  go_wp2
  go_ret
  exact Ret.mk (ret_b (fidx_any p _)) hx2
set_option maxHeartbeats 2000000 in
theorem isExp1_any (x v : Int) (bn n : Nat) (w : World) (hn4 : n ≤ 4) (hb : bn < w.heap.size) (hc : w.cell? ⟨bn, 0, none⟩ = some (.int .i64 n)) :
    Calls Try.prog 49 #[.agg #[.int .i64 x, .int .i64 v], .pointer (some ⟨bn, 0, none⟩)] w (Ret (.bool (!okRm ⟨x, v⟩ n)) w) := by
  obtain ⟨w0, hw0⟩ : ∃ w0, w0 = w.alloc (.cells #[.int .i64 x, .int .i64 v] 36) := ⟨_, rfl⟩
  have hx0 : Ext w w0 := by rw [hw0]; exact (Ext.refl w).alloc _
  have k0 : w0.cell? ⟨w.heap.size, 0, none⟩ = some (.int .i64 x) := by rw [hw0]; go_simp
  have k1 : w0.cell? ⟨w.heap.size, 1, none⟩ = some (.int .i64 v) := by rw [hw0]; go_simp
  have HX0 := hide hx0
  have hc := (hx0.cells _ _ hb).trans hc
  clear hx0
  go_enter Try.func49, Try.ntmps49
  go_wp2_with fail
  rw [← hw0]
  clear hw0
  refine (rmValid_any x v n _ (by omega) (by omega)).mono ?_
  rintro e w2 ⟨rfl, hx2⟩
  have HX2 := hide (HX0.out.trans hx2)
  clear hx2
  go_wp2
  go_ret
  exact Ret.mk rfl HX2.out
set_option maxRecDepth 100000 in
set_option maxHeartbeats 8000000 in
theorem IsExplanationI_any (c : Con) (v vs : Value) (n : Int) (rs : List Rm) (r : Rm) (w : World) (hC : SCon w v c) (hS : SRm w vs rs) :
    Calls Try.prog 15 #[v, .int .i64 n, vs, .agg #[.int .i64 r.x, .int .i64 r.v]] w (Ret (.bool (expV c n rs r)) w) := by
  have hC0 := hide hC
  obtain ⟨vv, va, vr, rfl, hV, hA, hR⟩ := hC
  obtain ⟨Av, cv, rfl, -, -⟩ := hV.form
  obtain ⟨Aa, ca, rfl, -, -⟩ := hA.form
  obtain ⟨Ar, cr, rfl, -, -⟩ := hR.form
  have hS0 := hide hS
  obtain ⟨As, c_s, rfl, -, hls⟩ := hS.form
  obtain ⟨w0, hw0⟩ : ∃ w0, w0 = ((w.alloc (.cells #[.int .i64 c.kk, .slice Av c.vars.length cv, .slice Aa c.args.length ca, .int .i64 c.bound, .slice Ar c.rows.length cr] 32)).alloc (.cells #[.int .i64 n] 3)).alloc (.cells #[.int .i64 r.x, .int .i64 r.v] 36) := ⟨_, rfl⟩
  have hx0 : Ext w w0 := by rw [hw0]; exact (((Ext.refl w).alloc _).alloc _).alloc _
  have hs0 : w0.heap.size = w.heap.size + 3 := by rw [hw0]; simp
  have k0 : w0.cell? ⟨w.heap.size, 0, none⟩ = some (.int .i64 c.kk) := by rw [hw0]; go_simp
  have k1 : w0.cell? ⟨w.heap.size, 1, none⟩ = some (.slice Av c.vars.length cv) := by rw [hw0]; go_simp
  have k2 : w0.cell? ⟨w.heap.size, 2, none⟩ = some (.slice Aa c.args.length ca) := by rw [hw0]; go_simp
  have k3 : w0.cell? ⟨w.heap.size, 3, none⟩ = some (.int .i64 c.bound) := by rw [hw0]; go_simp
  have k4 : w0.cell? ⟨w.heap.size, 4, none⟩ = some (.slice Ar c.rows.length cr) := by rw [hw0]; go_simp
  have q0 : w0.cell? ⟨w.heap.size + 1, 0, none⟩ = some (.int .i64 n) := by rw [hw0]; go_simp
  have j0 : w0.cell? ⟨w.heap.size + 1 + 1, 0, none⟩ = some (.int .i64 r.x) := by rw [hw0]; go_simp
  have j1 : w0.cell? ⟨w.heap.size + 1 + 1, 1, none⟩ = some (.int .i64 r.v) := by rw [hw0]; go_simp
  have ks : w.heap.size < w0.heap.size := by omega
  have qs : w.heap.size + 1 < w0.heap.size := by omega
  have js : w.heap.size + 1 + 1 < w0.heap.size := by omega
  have HX0 := hide hx0
  have HK := hide (And.intro k0 (And.intro k1 (And.intro k2 (And.intro k3 k4))))
  have HQ := hide q0
  have HJ := hide (And.intro j0 j1)
  have hV0 := hide (hV.ext hx0)
  have hA0 := hide (hA.ext hx0)
  have hR0 := hide (hR.ext hx0)
  clear hV hA hR hS hx0
  go_enter Try.func15, Try.ntmps15
  go_wp2_with fail
  rw [← hw0]
  clear hw0
  refine (ValidConstraintI_any c _ _ _ n _ (fits_all c) hV0.out hA0.out hR0.out).mono ?_
  rintro e w1 ⟨rfl, hx1⟩
  have HX1 := hide hx1
  clear hx1 k0 k1 k2 k3 k4 j0 j1 q0
  cases h1 : vCon c n with
  | false =>
    have HV := hide (show expV c n rs r = false by rw [expV, h1]; rfl)
    clear h1
    go_wp2
    go_ret
    exact Ret.mk (ret_b HV.out.symm) (HX0.out.trans HX1.out)
  | true =>
    have hvl := vCon_len h1
    obtain ⟨m, rfl⟩ : ∃ m : Nat, n = m := ⟨n.toNat, by omega⟩
    have hm1 : 1 ≤ m := by omega
    have hm4 : m ≤ 4 := by omega
    have H1 := hide h1
    have q0 := (HX1.out.cells _ _ qs).trans HQ.out
    have j0 := (HX1.out.cells _ _ js).trans HJ.out.1
    have j1 := (HX1.out.cells _ _ js).trans HJ.out.2
    clear hvl h1
    go_wp2_with fail
    refine (rmValid_any r.x r.v m _ (by omega) (by omega)).mono ?_
    rintro e w2 ⟨rfl, hx2⟩
    have HX2 := hide (HX1.out.trans hx2)
    clear hx2 q0 j0 j1
    cases h2 : okRm ⟨r.x, r.v⟩ m with
    | false =>
      have HV := hide (show expV c m rs r = false by rw [expV, show okRm r m = false from h2, Bool.false_and, Bool.and_false, Bool.and_false])
      clear h2
      go_wp2
      go_ret
      exact Ret.mk (ret_b HV.out.symm) (HX0.out.trans HX2.out)
    | true =>
      have H2 := hide (show okRm r m = true from h2)
      clear h2
      by_cases h3 : (24 : Int) < rs.length
      · have HV := hide (show expV c m rs r = false by
          rw [expV, show okRms rs m = false by rw [okRms, decide_eq_false (by omega), Bool.and_false], Bool.false_and, Bool.and_false])
        go_wp2
        go_ret
        exact Ret.mk (ret_b HV.out.symm) (HX0.out.trans HX2.out)
      · have h24 : rs.length ≤ 24 := by omega
        go_wp2_with fail
        refine (ContainsFuncRm_any _ rs 49 #[.pointer (some ⟨w.heap.size + 1, 0, none⟩)] (fun i => !okRm (rm0 rs i) m) _ (hS0.out.ext (HX0.out.trans HX2.out)) (fun args W => callFunc_body Try.func49 (by kernel_rfl) (by kernel_rfl) args W) (hide fun i hi W hW => isExp1_any (rmX rs i) (rmV rs i) (w.heap.size + 1) m W hm4 (Nat.lt_of_lt_of_le qs (HX2.out.trans hW).size) (((HX2.out.trans hW).cells _ _ qs).trans HQ.out))).mono ?_
        rintro e w3 ⟨rfl, hx3⟩
        have HX3 := hide (HX2.out.trans hx3)
        clear hx3
        cases h4 : anyB (fun i => !okRm (rm0 rs i) m) rs.length with
        | true =>
          have HV := hide (show expV c m rs r = false by
            rw [expV, show okRms rs m = false by rw [okRms, h4]; rfl, Bool.false_and, Bool.and_false])
          clear h4
          go_wp2
          go_ret
          exact Ret.mk (ret_b HV.out.symm) (HX0.out.trans HX3.out)
        | false =>
          have H4 := hide (show okRms rs m = true by rw [okRms, h4, decide_eq_true h24]; rfl)
          have HV := hide (show expV c m rs r = explB c m rs r by rw [expV, H1.out, H4.out, H2.out, Int.toNat_natCast]; rfl)
          have k0 := (HX3.out.cells _ _ ks).trans HK.out.1
          have k1 := (HX3.out.cells _ _ ks).trans HK.out.2.1
          have k2 := (HX3.out.cells _ _ ks).trans HK.out.2.2.1
          have k3 := (HX3.out.cells _ _ ks).trans HK.out.2.2.2.1
          have k4 := (HX3.out.cells _ _ ks).trans HK.out.2.2.2.2
          have q0 := (HX3.out.cells _ _ qs).trans HQ.out
          have j0 := (HX3.out.cells _ _ js).trans HJ.out.1
          have j1 := (HX3.out.cells _ _ js).trans HJ.out.2
          clear h4
          go_wp2_with fail
          refine (explainsI_any c _ _ m rs r _ (hC0.out.ext (HX0.out.trans HX3.out)) (hS0.out.ext (HX0.out.trans HX3.out)) H1.out H4.out H2.out hm1 hm4).mono ?_
          rintro e w4 ⟨rfl, hx4⟩
          have HX4 := hide ((HX0.out.trans HX3.out).trans hx4)
          clear hx4 k0 k1 k2 k3 k4 q0 j0 j1
          go_wp2
          go_ret
          exact Ret.mk (ret_b HV.out.symm) HX4.out
set_option maxRecDepth 100000 in
set_option maxHeartbeats 8000000 in
theorem IsExplanationS_any (c : Con) (v vs : Value) (n : Int) (rs : List Rm) (r : Rm) (w : World) (hC : SCon w v c) (hS : SRm w vs rs) :
    Calls Try.prog 11 #[v, .int .i64 n, vs, .agg #[.int .i64 r.x, .int .i64 r.v]] w (Ret (.bool (expV c n rs r)) w) := by
  have hC0 := hide hC
  obtain ⟨vv, va, vr, rfl, hV, hA, hR⟩ := hC
  obtain ⟨Av, cv, rfl, -, -⟩ := hV.form
  obtain ⟨Aa, ca, rfl, -, -⟩ := hA.form
  obtain ⟨Ar, cr, rfl, -, -⟩ := hR.form
  have hS0 := hide hS
  obtain ⟨As, c_s, rfl, -, hls⟩ := hS.form
  obtain ⟨w0, hw0⟩ : ∃ w0, w0 = (w.alloc (.cells #[.int .i64 c.kk, .slice Av c.vars.length cv, .slice Aa c.args.length ca, .int .i64 c.bound, .slice Ar c.rows.length cr] 32)).alloc (.cells #[.int .i64 r.x, .int .i64 r.v] 36) := ⟨_, rfl⟩
  have hx0 : Ext w w0 := by rw [hw0]; exact ((Ext.refl w).alloc _).alloc _
  have hs0 : w0.heap.size = w.heap.size + 2 := by rw [hw0]; simp
  have k0 : w0.cell? ⟨w.heap.size, 0, none⟩ = some (.int .i64 c.kk) := by rw [hw0]; go_simp
  have k1 : w0.cell? ⟨w.heap.size, 1, none⟩ = some (.slice Av c.vars.length cv) := by rw [hw0]; go_simp
  have k2 : w0.cell? ⟨w.heap.size, 2, none⟩ = some (.slice Aa c.args.length ca) := by rw [hw0]; go_simp
  have k3 : w0.cell? ⟨w.heap.size, 3, none⟩ = some (.int .i64 c.bound) := by rw [hw0]; go_simp
  have k4 : w0.cell? ⟨w.heap.size, 4, none⟩ = some (.slice Ar c.rows.length cr) := by rw [hw0]; go_simp
  have j0 : w0.cell? ⟨w.heap.size + 1, 0, none⟩ = some (.int .i64 r.x) := by rw [hw0]; go_simp
  have j1 : w0.cell? ⟨w.heap.size + 1, 1, none⟩ = some (.int .i64 r.v) := by rw [hw0]; go_simp
  have ks : w.heap.size < w0.heap.size := by omega
  have js : w.heap.size + 1 < w0.heap.size := by omega
  have HX0 := hide hx0
  have HK := hide (And.intro k0 (And.intro k1 (And.intro k2 (And.intro k3 k4))))
  have HJ := hide (And.intro j0 j1)
  have hV0 := hide (hV.ext hx0)
  have hA0 := hide (hA.ext hx0)
  have hR0 := hide (hR.ext hx0)
  clear hV hA hR hS hx0
  cases h0 : inR n 1 4 with
  | false =>
    have HV := hide (show expV c n rs r = false by rw [expV, vCon_vCs, h0]; rfl)
    have H0 := hide h0
    clear h0
    go_enter Try.func11, Try.ntmps11
    go_wp2_with fail
    rw [← hw0]
    clear hw0
    refine (inRange_any _ _ _ _).mono ?_
    rintro e w' ⟨rfl, rfl⟩
    rw [H0.out]
    go_wp2
    go_ret
    exact Ret.mk (ret_b HV.out.symm) HX0.out
  | true =>
    have hnb : 1 ≤ n ∧ n ≤ 4 := by simpa [inR] using h0
    obtain ⟨m, rfl⟩ : ∃ m : Nat, n = m := ⟨n.toNat, by omega⟩
    have hm1 : 1 ≤ m := by omega
    have hm4 : m ≤ 4 := by omega
    have H0 := hide h0
    clear hnb h0
    go_enter Try.func11, Try.ntmps11
    go_wp2_with fail
    rw [← hw0]
    clear hw0
    refine (inRange_any _ _ _ _).mono ?_
    rintro e w' ⟨rfl, rfl⟩
    rw [H0.out]
    go_wp2_with fail
    refine (validConstraintS_any c _ _ _ m _ hV0.out hA0.out hR0.out (by omega) (by omega)).mono ?_
    rintro e w1 ⟨rfl, hx1⟩
    have HX1 := hide hx1
    clear hx1 k0 k1 k2 k3 k4 j0 j1
    cases h1 : vCs c m with
    | false =>
      have HV := hide (show expV c m rs r = false by rw [expV, vCon_vCs, h1, Bool.and_false, Bool.false_and])
      clear h1
      go_wp2
      go_ret
      exact Ret.mk (ret_b HV.out.symm) (HX0.out.trans HX1.out)
    | true =>
      have H1 := hide (show vCon c m = true by rw [vCon_vCs, H0.out, h1]; rfl)
      clear h1
      go_wp2_with fail
      refine (validRemovals_any _ rs m _ (hS0.out.ext (HX0.out.trans HX1.out)) (by omega) (by omega)).mono ?_
      rintro e w' ⟨rfl, rfl⟩
      cases h2 : okRms rs m with
      | false =>
        have HV := hide (show expV c m rs r = false by rw [expV, h2, Bool.false_and, Bool.and_false])
        clear h2
        go_wp2
        go_ret
        exact Ret.mk (ret_b HV.out.symm) (HX0.out.trans HX1.out)
      | true =>
        have H2 := hide h2
        have j0 := (HX1.out.cells _ _ js).trans HJ.out.1
        have j1 := (HX1.out.cells _ _ js).trans HJ.out.2
        clear h2
        go_wp2_with fail
        obtain ⟨u, hu⟩ : ∃ u, u = w1.alloc (.cells #[.int .i64 r.x, .int .i64 r.v] 36) := ⟨_, rfl⟩
        have hxu : Ext w1 u := by rw [hu]; exact (Ext.refl w1).alloc _
        have u0 : u.cell? ⟨w1.heap.size, 0, none⟩ = some (.int .i64 r.x) := by rw [hu]; go_simp
        have u1 : u.cell? ⟨w1.heap.size, 1, none⟩ = some (.int .i64 r.v) := by rw [hu]; go_simp
        have us : w1.heap.size < u.heap.size := by rw [hu]; simp
        have HXU := hide (HX1.out.trans hxu)
        rw [← hu]
        clear hu hxu
        refine (validRemovals_any _ [r] m _ (SRm.one us u0 u1) (by omega) (by omega)).mono ?_
        rintro e w' ⟨rfl, rfl⟩
        rw [okRms_one]
        clear u0 u1 j0 j1
        cases h3 : okRm r m with
        | false =>
          have HV := hide (show expV c m rs r = false by rw [expV, h3, Bool.false_and, Bool.and_false, Bool.and_false])
          clear h3
          go_wp2
          go_ret
          exact Ret.mk (ret_b HV.out.symm) (HX0.out.trans HXU.out)
        | true =>
          have H3 := hide h3
          have HV := hide (show expV c m rs r = explB c m rs r by rw [expV, H1.out, H2.out, h3, Int.toNat_natCast]; rfl)
          have k0 := (HXU.out.cells _ _ ks).trans HK.out.1
          have k1 := (HXU.out.cells _ _ ks).trans HK.out.2.1
          have k2 := (HXU.out.cells _ _ ks).trans HK.out.2.2.1
          have k3 := (HXU.out.cells _ _ ks).trans HK.out.2.2.2.1
          have k4 := (HXU.out.cells _ _ ks).trans HK.out.2.2.2.2
          have j0 := (HXU.out.cells _ _ js).trans HJ.out.1
          have j1 := (HXU.out.cells _ _ js).trans HJ.out.2
          clear h3
          go_wp2_with fail
          refine (explainsS_any c _ _ m rs r _ (hC0.out.ext (HX0.out.trans HXU.out)) (hS0.out.ext (HX0.out.trans HXU.out)) H1.out H2.out H3.out hm1 hm4).mono ?_
          rintro e w4 ⟨rfl, hx4⟩
          have HX4 := hide ((HX0.out.trans HXU.out).trans hx4)
          clear hx4 k0 k1 k2 k3 k4 j0 j1
          go_wp2
          go_ret
          exact Ret.mk (ret_b HV.out.symm) HX4.out
end Go.Proofs.Ytpnlambndbfenaa
