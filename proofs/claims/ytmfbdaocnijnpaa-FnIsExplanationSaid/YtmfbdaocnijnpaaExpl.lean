/- Explanations: what removals leave of the domains, and whether a constraint then removes a value. -/
import Derived.Test.YtmfbdaocnijnpaaRmv
import Derived.Test.YtmfbdaocnijnpaaReptN
import Derived.Test.YtmfbdaocnijnpaaShvI
namespace Go.Proofs.Ytmfbdaocnijnpaa
open Go.RowKit
attribute [local go_sem] evalOf

/-- n full domains without the first k removals. -/
def resK (n : Nat) (rs : List Rm) : Nat → List Int
  | 0 => List.replicate n 63
  | k + 1 => (resK n rs k).set (rmX rs k).toNat (delV (at0 (resK n rs k) (rmX rs k).toNat) (rmV rs k).toNat)
def resL (n : Nat) (rs : List Rm) : List Int := resK n rs rs.length
theorem at0_rep (n : Nat) (x : Int) {i : Nat} (h : i < n) : at0 (List.replicate n x) i = x := by
  unfold at0; rw [getD_lt _ _ (by simpa using h)]; simp
theorem resK_ok {n : Nat} {rs : List Rm} (h : okRms rs n = true) : ∀ k, k ≤ rs.length → (resK n rs k).length = n ∧ DomL (resK n rs k)
  | 0, _ => ⟨by simp [resK], fun i hi => by
      have hi : i < n := by simpa [resK] using hi
      rw [resK, at0_rep _ _ hi]; omega⟩
  | k + 1, hk => by
    obtain ⟨h1, h2⟩ := resK_ok h k (by omega)
    obtain ⟨⟨x0, x1⟩, v0, v1⟩ := okRms_at h (i := k) (by omega)
    refine ⟨by rw [resK, List.length_set, h1], fun i hi => ?_⟩
    rw [resK, List.length_set] at hi
    rw [resK, at0_set _ _ _ _ (by omega)]
    split
    · have hd := h2 (rmX rs k).toNat (by omega)
      exact delV_bd hd.1 hd.2 (by omega)
    · exact h2 i hi
def explB (c : Con) (n : Nat) (rs : List Rm) (r : Rm) : Bool := !hasB (at0 (filtL c (resL n rs)) r.x.toNat) r.v.toNat
theorem okRm_nat {r : Rm} {n : Nat} (h : okRm r n = true) : ∃ x v : Nat, r.x = x ∧ r.v = v ∧ x < n ∧ v < 6 := by
  simp only [okRm, Bool.and_eq_true, inR, decide_eq_true_eq] at h
  exact ⟨r.x.toNat, r.v.toNat, by omega, by omega, by omega, by omega⟩
theorem okRms_nat {rs : List Rm} {n : Nat} (h : okRms rs n = true) {k : Nat} (hk : k < rs.length) : ∃ x v : Nat, rmX rs k = x ∧ rmV rs k = v ∧ x < n ∧ v < 6 := by
  obtain ⟨⟨x0, x1⟩, v0, v1⟩ := okRms_at h hk
  exact ⟨(rmX rs k).toNat, (rmV rs k).toNat, by omega, by omega, by omega, by omega⟩
theorem set_same (q : List Int) (x : Nat) : q.set x (at0 q x) = q := by
  refine List.ext_getElem (by simp) fun i h1 h2 => ?_
  rw [List.getElem_set]
  split
  · rename_i e; subst e; unfold at0; rw [getD_lt _ _ h2]
  · rfl
theorem delV_one {d : Int} {a : Nat} (h : hasB d a = true) : delV d a = d - 2 ^ a := by unfold delV; rw [if_pos h]
/-- The place of a number in a slice, and what lies there. -/
def RS.ix (D : List Nat) (xs : List Int) (i : Nat) : RS := ⟨D, fun _ v W => ∃ b, v = .pointer (some ⟨b, i, none⟩) ∧ b < W.heap.size ∧ W.cell? ⟨b, i, none⟩ = some (.int .i64 (at0 xs i)), fun _ _ _ _ h hx => by obtain ⟨b, h1, h2, h3⟩ := h; exact ⟨b, h1, Nat.lt_of_lt_of_le h2 hx.size, (hx.cells _ _ h2).trans h3⟩⟩
set_option maxRecDepth 100000 in
set_option maxHeartbeats 8000000 in
theorem restrict_any (v : Value) (rs : List Rm) (n : Nat) (w : World) (hS : SRm w v rs) (hok : okRms rs n = true) (hn : 1 ≤ n) (h4 : n ≤ 4) :
    Calls Try.prog 52 #[.int .i64 n, v] w (OwnRes (resL n rs) w) := by
  have hS0 := hide hS
  have HOK := hide hok
  obtain ⟨Ar, cr, rfl, -, hlr⟩ := hS.form
  have hr24 := okRms_len hok
  clear hS hok
  go_enter Try.func52, Try.ntmps52
  go_wp2
  have hA0 := AppI.empty w
  have HX0 := hide ((Ext.refl w).alloc (.cells #[] 3))
  have HA0 := hide hA0
  clear hA0
  go_loopw [5, 6] (fun o i wr => ∃ k : Nat, k ≤ n ∧ i = .int .i64 k ∧ Ext w wr ∧ AppI w.heap.size wr o (List.replicate k 63)) (fun _ i _ => n - (intOf i).toNat)
  case atStart => exact ⟨0, Nat.zero_le _, rfl, HX0.out, HA0.out⟩
  case round =>
    obtain ⟨k, hk, rfl, hx, hA⟩ := hrel
    have HX := hide hx
    have HA := hide hA
    obtain ⟨A, cc, hv, -⟩ := hA.form
    rw [List.length_replicate] at hv
    subst hv
    clear hA
    by_cases hlt : k < n
    · have hkI : (k : Int) < n := by omega
      have HK := hide (show List.replicate k (63 : Int) ++ [63] = List.replicate (k + 1) 63 by rw [List.replicate_succ'])
      have hs := hx.size
      clear hx
      go_wp2_with (at_builtin; go_must (refine wpList_app1 _ rfl _ _ rfl w.heap.size _ (List.replicate k 63) 63 _ 1 rfl rfl (HA.out.ext ((Ext.refl _).alloc _)) (by go_simp) (by rw [List.length_replicate]; omega) (by simp; omega) ?_); intro v' w2 hA2 hb2)
      go_roundw
      case rel => exact ⟨k + 1, by omega, by go_num, (HX.out.alloc _).below hb2, by rw [← HK.out]; exact hA2⟩
      case measure => simp [intOf]; omega
    · obtain rfl : k = n := by omega
      have hkI : ¬ ((k : Int) < k) := by omega
      have hres := HA.out.res HX.out (by rw [List.length_replicate]; omega)
      obtain ⟨A2, c2, b2, m2, f2, he, hc2, hd2, hb2, ho2, -⟩ := hres
      rw [List.length_replicate] at he hc2
      injection he with he
      injection he with e1 e2 e3
      subst e1 e3
      obtain ⟨rfl, hr2, hm2, hf2⟩ := ho2 (by rw [List.length_replicate]; omega)
      have HRS := hide (show RowS wr b2 m2 (resK k rs 0) from ⟨f2, hr2, hm2, hf2⟩)
      have hbl := hr2.lt
      clear hx ho2 hr2 hm2 hf2 hd2
      obtain ⟨W1, rfl⟩ : ∃ W1, W1 = wr := ⟨wr, rfl⟩
      go_wp2
      go_loopw [7] (fun i wr => ∃ t : Nat, t ≤ rs.length ∧ i = .int .i64 t ∧ Ext w wr ∧ RowS wr b2 m2 (resK k rs t)) (fun i _ => rs.length - (intOf i).toNat)
      case atStart => exact ⟨0, Nat.zero_le _, rfl, HX.out, HRS.out⟩
      case round =>
        obtain ⟨t, ht, rfl, hxt, hrt⟩ := hrel
        have HXT := hide hxt
        have HRT := hide hrt
        obtain ⟨q, hq⟩ : ∃ q, q = resK k rs t := ⟨_, rfl⟩
        have HQ := hide hq
        obtain ⟨hql, hqd⟩ := resK_ok HOK.out t ht
        rw [← hq] at HRT hql hqd
        have HQD := hide hqd
        clear hrt hq hqd
        by_cases htl : t < rs.length
        · have htI : (t : Int) < rs.length := by omega
          obtain ⟨b, off, rfl, hbr, f1, f2'⟩ := (hS0.out.ext hxt).at_ htl
          obtain ⟨x, y, hx, hy, hxn, hy6⟩ := okRms_nat HOK.out htl
          rw [hx] at f1
          rw [hy] at f2'
          have hxI : (x : Int) < k := by omega
          have hy5 : y ≤ 5 := by omega
          obtain ⟨f, hr, hm', hf⟩ := HRT.out
          have fx := hr.cell (i := x) (by omega)
          rw [hf x (by omega)] at fx
          have fz := hr.frozen x
          have hbw := hr.lt
          have hdb := HQD.out x (by omega)
          obtain ⟨d, hd⟩ : ∃ d, d = at0 q x := ⟨_, rfl⟩
          rw [← hd] at fx hdb
          have HD := hide hd
          have HNX := hide (show resK k rs (t + 1) = q.set x (delV d y) by rw [resK, ← HQ.out, hx, hy, Int.toNat_natCast, Int.toNat_natCast, ← HD.out])
          have hxq : x < q.length := by omega
          clear hr hf hd hx hy hxt
          cases hh : hasB d y with
          | false =>
            have HH := hide hh
            have HDV := hide (show delV d y = d by unfold delV; rw [hh]; rfl)
            clear hh
            go_wp2
            refine wp_region_ext (by kernel_rfl) (by kernel_rfl) ?_
            iterate 13 (apply quiet_val; (focus rfl); (focus (intro w' hw'; have hk' := hw'.cells; go_simp; all_goals exact rfl)); simp only [Act.put, List.setIfInBounds_toArray, List.set_cons_succ, List.set_cons_zero])
            apply quiet_call; (focus rfl); (focus (intro w' hw'; go_simp; all_goals (first | exact rfl | (apply And.intro <;> exact rfl))))
            · exact fun w' hw' => same_quiet (domainHas_any d y w' hdb.1 (by omega) hy5) hw'
            (simp only [Act.put, List.setIfInBounds_toArray, List.set_cons_succ, List.set_cons_zero])
            refine wpQuiet_nil ?_
            intro w2 hx2
            have HX2 := hide (HXT.out.trans hx2)
            have HRT2 := hide (HRT.out.ext hx2)
            clear hx2
            rw [HH.out]
            go_wp2
            go_roundw
            case rel => exact ⟨t + 1, by omega, by go_num, HX2.out, by rw [HNX.out, HDV.out, HD.out, set_same]; exact HRT2.out⟩
            case measure => simp [intOf]; omega
          | true =>
            have HH := hide hh
            have hdv := delV_one hh
            have hdb2 := delV_bd hdb.1 hdb.2 hy6
            have HDV := hide hdv
            rw [hdv] at hdb2
            have hpw := pow_bd hy6
            have kp : IntKind.i64.wrap (2 ^ y) = 2 ^ y := IntWalk.i64_in _ (by omega)
            have kb : IntKind.i64.wrap (d - 2 ^ y) = d - 2 ^ y := IntWalk.i64_in _ (by omega)
            clear hh hdv
            go_wp2
            refine wp_region_ext (by kernel_rfl) (by kernel_rfl) ?_
            iterate 13 (apply quiet_val; (focus rfl); (focus (intro w' hw'; have hk' := hw'.cells; go_simp; all_goals exact rfl)); simp only [Act.put, List.setIfInBounds_toArray, List.set_cons_succ, List.set_cons_zero])
            apply quiet_call; (focus rfl); (focus (intro w' hw'; go_simp; all_goals (first | exact rfl | (apply And.intro <;> exact rfl))))
            · exact fun w' hw' => same_quiet (domainHas_any d y w' hdb.1 (by omega) hy5) hw'
            (simp only [Act.put, List.setIfInBounds_toArray, List.set_cons_succ, List.set_cons_zero])
            refine wpQuiet_nil ?_
            intro w2 hx2
            have HX2 := hide (HXT.out.trans hx2)
            have HRT2 := hide (HRT.out.ext hx2)
            have fx := (hx2.cells _ _ hbw).trans fx
            have fz := (hx2.frz _ _ hbw).trans fz
            have hbw := Nat.lt_of_lt_of_le hbw hx2.size
            have f1 := (hx2.cells _ _ hbr).trans f1
            have f2' := (hx2.cells _ _ hbr).trans f2'
            have hbr := Nat.lt_of_lt_of_le hbr hx2.size
            clear hx2
            rw [HH.out]
            go_wp2
            refine wp_region_ext_tail 22 (by kernel_rfl) (by kernel_rfl) ?_
            simp only [List.take_succ_cons, List.take_zero, List.drop_succ_cons, List.drop_zero]
            iterate 22 (apply quiet_val; (focus rfl); (focus (intro w' hw'; have hk' := hw'.cells; go_simp; all_goals exact rfl)); simp only [Act.put, List.setIfInBounds_toArray, List.set_cons_succ, List.set_cons_zero])
            refine wpQuiet_nil ?_
            intro w5 hx5
            have HX5 := hide (HX2.out.trans hx5)
            have HRT5 := hide (HRT2.out.ext hx5)
            have fz := (hx5.frz _ _ hbw).trans fz
            have fx := (hx5.cells _ _ hbw).trans fx
            clear hx5 f1 f2'
            try simp only [kp, kb]
            go_wp2
            go_roundw
            case rel => exact ⟨t + 1, by omega, by go_num, HX5.out.set (p := ⟨b2, x, none⟩) hb2 _, by rw [HNX.out, HDV.out]; exact HRT5.out.set x _ hxq⟩
            case measure => simp [intOf]; omega
        · obtain rfl : t = rs.length := by omega
          have htI : ¬ ((rs.length : Int) < rs.length) := by omega
          have HE := hide (show OwnRes (resL k rs) w (.returned (.slice (some ⟨b2, 0, none⟩) k cc)) wr by
            rw [show resL k rs = q from HQ.out.symm]
            have := HRT.out.own (w := w) (c := cc) (by omega) (by omega) hb2 HXT.out
            rwa [hql] at this)
          go_wp2
          go_ret
          exact HE.out
theorem okFull {n : Nat} (rs : List Rm) (h : okRms rs n = true) : (resL n rs).length = n ∧ DomL (resL n rs) := resK_ok h _ (Nat.le_refl _)
set_option maxRecDepth 100000 in
set_option maxHeartbeats 8000000 in
theorem explainsI_any (c : Con) (v vs : Value) (n : Nat) (rs : List Rm) (r : Rm) (w : World) (hC : SCon w v c) (hS : SRm w vs rs) (hcv : vCon c n = true) (hok : okRms rs n = true) (hr : okRm r n = true) (hn : 1 ≤ n) (h4 : n ≤ 4) :
    Calls Try.prog 24 #[v, .int .i64 n, vs, .agg #[.int .i64 r.x, .int .i64 r.v]] w (Ret (.bool (explB c n rs r)) w) := by
  have hC0 := hide hC
  obtain ⟨vv, va, vr, rfl, hV, hA, hR⟩ := hC
  obtain ⟨Av, cv, rfl, -, -⟩ := hV.form
  obtain ⟨Aa, ca, rfl, -, -⟩ := hA.form
  obtain ⟨Ar, cr, rfl, -, -⟩ := hR.form
  have hS0 := hide hS
  have HOK := hide hok
  have HCV := hide hcv
  obtain ⟨As, c_s, rfl, -, hls⟩ := hS.form
  have hr24 := okRms_len hok
  obtain ⟨rx, rv, hrx, hrv, hrxn, hrv6⟩ := okRm_nat hr
  have HEB := hide (show explB c n rs r = !hasB (at0 (filtL c (resL n rs)) rx) rv by rw [explB, hrx, hrv, Int.toNat_natCast, Int.toNat_natCast])
  rw [hrx, hrv]
  obtain ⟨w0, hw0⟩ : ∃ w0, w0 = (w.alloc (.cells #[.int .i64 c.kk, .slice Av c.vars.length cv, .slice Aa c.args.length ca, .int .i64 c.bound, .slice Ar c.rows.length cr] 26)).alloc (.cells #[.int .i64 rx, .int .i64 rv] 29) := ⟨_, rfl⟩
  have hx0 : Ext w w0 := by rw [hw0]; exact ((Ext.refl w).alloc _).alloc _
  have hs0 : w0.heap.size = w.heap.size + 2 := by rw [hw0]; simp
  have k0 : w0.cell? ⟨w.heap.size, 0, none⟩ = some (.int .i64 c.kk) := by rw [hw0]; go_simp
  have k1 : w0.cell? ⟨w.heap.size, 1, none⟩ = some (.slice Av c.vars.length cv) := by rw [hw0]; go_simp
  have k2 : w0.cell? ⟨w.heap.size, 2, none⟩ = some (.slice Aa c.args.length ca) := by rw [hw0]; go_simp
  have k3 : w0.cell? ⟨w.heap.size, 3, none⟩ = some (.int .i64 c.bound) := by rw [hw0]; go_simp
  have k4 : w0.cell? ⟨w.heap.size, 4, none⟩ = some (.slice Ar c.rows.length cr) := by rw [hw0]; go_simp
  have j0 : w0.cell? ⟨w.heap.size + 1, 0, none⟩ = some (.int .i64 rx) := by rw [hw0]; go_simp
  have j1 : w0.cell? ⟨w.heap.size + 1, 1, none⟩ = some (.int .i64 rv) := by rw [hw0]; go_simp
  have ks : w.heap.size < w0.heap.size := by omega
  have js : w.heap.size + 1 < w0.heap.size := by omega
  have HX0 := hide hx0
  have K0 := hide k0
  have K1 := hide k1
  have K2 := hide k2
  have K3 := hide k3
  have K4 := hide k4
  have J0 := hide j0
  have J1 := hide j1
  clear hV hA hR hS hok hcv hr hrx hrv hx0 k0 k1 k2 k3 k4 j0 j1
  go_enter Try.func24, Try.ntmps24
  go_wp2_with fail
  rw [← hw0]
  clear hw0
  obtain ⟨u, hu⟩ : ∃ u, u = w0.alloc (.cells #[.int .i64 63] 3) := ⟨_, rfl⟩
  have hxu : Ext w0 u := by rw [hu]; exact (Ext.refl w0).alloc _
  have hui : u.cell? ⟨w.heap.size + 2, 0, none⟩ = some (.int .i64 63) := by rw [hu, ← hs0]; go_simp
  have hus : w.heap.size + 2 < u.heap.size := by rw [hu, World.size_alloc, hs0]; omega
  have HU := hide hxu
  rw [← hu]
  clear hu hxu
  refine (RepeatN_any 63 n (w.heap.size + 2) _ hn h4 hus hui).mono ?_
  rintro e w1 ⟨b1, hb1, rfl, hr1, hx1⟩
  have hrl : (List.replicate n (63 : Int)).length = n := by simp
  rw [hrl] at hr1 ⊢
  have HRS := hide (show RowS w1 b1 n (resK n rs 0) from ⟨_, hr1, by simp [resK], fun j hj => by
    have hj : j < n := by simpa [resK] using hj
    show icell (List.replicate n 63) n j = _
    rw [icell, if_pos hj]; rfl⟩)
  have HX1 := hide (HU.out.trans hx1)
  have hb1l := hr1.lt
  have hwb : w0.heap.size ≤ b1 := Nat.le_trans HU.out.size hb1
  have hwb2 : w.heap.size ≤ b1 := by omega
  clear hr1 hx1 hui hus
  go_wp2
  go_loopw [17] (fun i wr => ∃ t : Nat, i = .int .i64 t ∧ t ≤ rs.length ∧ Ext w0 wr ∧ RowS wr b1 n (resK n rs t)) (fun i _ => rs.length - (intOf i).toNat)
  case atStart => exact ⟨0, rfl, Nat.zero_le _, HX1.out, HRS.out⟩
  case round =>
    obtain ⟨t, rfl, ht, hxt, hrt⟩ := hrel
    have HXT := hide hxt
    obtain ⟨q, hq⟩ : ∃ q, q = resK n rs t := ⟨_, rfl⟩
    have HQ := hide hq
    obtain ⟨hql, hqd⟩ := resK_ok HOK.out t ht
    rw [← hq] at hrt hql hqd
    have HRT := hide hrt
    have HQD := hide hqd
    clear hrt hq hqd
    by_cases htl : t < rs.length
    · have htI : (t : Int) < rs.length := by omega
      obtain ⟨b, off, rfl, hbr, f1, f2'⟩ := (hS0.out.ext (HX0.out.trans hxt)).at_ htl
      obtain ⟨x, y, hx, hy, hxn, hy6⟩ := okRms_nat HOK.out htl
      rw [hx] at f1
      rw [hy] at f2'
      have hxI : (x : Int) < n := by omega
      have hy5 : y ≤ 5 := by omega
      have HNX0 := hide hx
      have HNY0 := hide hy
      clear hx hy
      go_wp2_with fail
      obtain ⟨z, hz⟩ : ∃ z, z = wr.alloc (.cells #[.int .i64 x, .int .i64 y] 29) := ⟨_, rfl⟩
      have hxz : Ext wr z := by rw [hz]; exact (Ext.refl wr).alloc _
      have z0 : z.cell? ⟨wr.heap.size, 0, none⟩ = some (.int .i64 x) := by rw [hz]; go_simp
      have z1 : z.cell? ⟨wr.heap.size, 1, none⟩ = some (.int .i64 y) := by rw [hz]; go_simp
      have zs : wr.heap.size < z.heap.size := by rw [hz]; simp
      have HXZ := hide (HXT.out.trans hxz)
      have HRZ := hide (HRT.out.ext hxz)
      rw [← hz]
      obtain ⟨f, hr, hm', hf⟩ := HRZ.out
      have fx := hr.cell (i := x) (by omega)
      rw [hf x (by omega)] at fx
      have fz := hr.frozen x
      have hbw := hr.lt
      have hdb := HQD.out x (by omega)
      obtain ⟨d, hd⟩ : ∃ d, d = at0 q x := ⟨_, rfl⟩
      rw [← hd] at fx hdb
      have HD := hide hd
      have HNX := hide (show resK n rs (t + 1) = q.set x (delV d y) by rw [resK, ← HQ.out, HNX0.out, HNY0.out, Int.toNat_natCast, Int.toNat_natCast, ← HD.out])
      have hxq : x < q.length := by omega
      have hpw := pow_bd hy6
      have kp : IntKind.i64.wrap (2 ^ y) = 2 ^ y := IntWalk.i64_in _ (by omega)
      have kb := bits_andNot hdb.1 hdb.2 hy6
      clear hz hxz hr hf hd hxt f1 f2'
      refine wp_region_ext_tail 10 (by kernel_rfl) (by kernel_rfl) ?_
      simp only [List.take_succ_cons, List.take_zero, List.drop_succ_cons, List.drop_zero]
      iterate 10 (apply quiet_val; (focus rfl); (focus (intro w' hw'; have hk' := hw'.cells; go_simp; all_goals exact rfl)); simp only [Act.put, List.setIfInBounds_toArray, List.set_cons_succ, List.set_cons_zero])
      refine wpQuiet_nil ?_
      intro w5 hx5
      have HX5 := hide (HXZ.out.trans hx5)
      have HRT5 := hide (HRZ.out.ext hx5)
      have fz := (hx5.frz _ _ hbw).trans fz
      have fx := (hx5.cells _ _ hbw).trans fx
      clear hx5 z0 z1
      try simp only [kp, kb]
      go_wp2
      go_roundw
      case rel => exact ⟨t + 1, by go_num, by omega, HX5.out.set (p := ⟨b1, x, none⟩) hwb _, by rw [HNX.out]; exact HRT5.out.set x _ hxq⟩
      case measure => simp [intOf]; omega
    · obtain rfl : t = rs.length := by omega
      have htI : ¬ ((rs.length : Int) < rs.length) := by omega
      have HSQ := hide (show SInts wr (.slice (some ⟨b1, 0, none⟩) n n) q by
        have := HRT.out.sints (c := n) (by omega) (by omega) (fun i hi => by have := HQD.out i hi; unfold I64; omega)
        rwa [hql] at this)
      have HFL := hide (show filtL c (resL n rs) = filtL c q by rw [HQ.out]; rfl)
      have hvar : VarOK c.vars q.length := by rw [hql]; exact vCon_var HCV.out
      have HFD := hide (show DomL (filtL c q) from filtP_dom hvar HQD.out)
      have hfl : (filtL c q).length = n := (filtP_len _ _ _).trans hql
      clear hvar
      go_wp2
      refine wp_region_relT (n := 11) (ts := [11]) (sp := [RS.q [] (fun _ => .agg #[.int .i64 c.kk, .slice Av c.vars.length cv, .slice Aa c.args.length ca, .int .i64 c.bound, .slice Ar c.rows.length cr]), RS.q [] (fun _ => .slice (some ⟨b1, 0, none⟩) n n), RS.ow [0, 1] (filtL c q) wr, RS.q [] (fun _ => .pointer (some ⟨w.heap.size + 1, 0, none⟩)), RS.q [3] (fun _ => .int .i64 rx), RS.ix [2, 4] (filtL c q) rx, RS.q [5] (fun _ => .int .i64 (at0 (filtL c q) rx)), RS.q [] (fun _ => .pointer (some ⟨w.heap.size + 1, 1, none⟩)), RS.q [7] (fun _ => .int .i64 rv), RS.q [6, 8] (fun _ => .bool (hasB (at0 (filtL c q) rx) rv)), RS.q [9] (fun _ => .bool (!hasB (at0 (filtL c q) rx) rv))])
        (fun W => Ext wr W) (by kernel_rfl) (relOK (D := [[], [], [0, 1], [], [3], [2, 4], [5], [], [7], [6, 8], [9]]) rfl (by kernel_rfl) rfl) (by kernel_rfl) (fun W W' h hx => h.trans hx) (Ext.refl wr).drew ?steps ?ends
      case steps =>
        refine ⟨?_, ?_, ?_, ?_, ?_, ?_, ?_, ?_, ?_, ?_, ?_, trivial⟩
        · intro V τ W hC hf ht h0
          have s4 : τ 4 = .pointer (some ⟨w.heap.size, 0, none⟩) := h0 4 (by kernel_rfl)
          have k0 := ((HXT.out.trans hC).cells _ _ ks).trans K0.out
          have k1 := ((HXT.out.trans hC).cells _ _ ks).trans K1.out
          have k2 := ((HXT.out.trans hC).cells _ _ ks).trans K2.out
          have k3 := ((HXT.out.trans hC).cells _ _ ks).trans K3.out
          have k4 := ((HXT.out.trans hC).cells _ _ ks).trans K4.out
          refine Does.val (w' := W) (v := .agg #[.int .i64 c.kk, .slice Av c.vars.length cv, .slice Aa c.args.length ca, .int .i64 c.bound, .slice Ar c.rows.length cr]) ?_ ⟨Ext.refl W, rfl⟩
          clear h0 ht hf
          go_simp
        · intro V τ W hC hf ht h0
          have s9 : τ 9 = .slice (some ⟨b1, 0, none⟩) n n := h0 9 (by kernel_rfl)
          refine Does.val (w' := W) (v := .slice (some ⟨b1, 0, none⟩) n n) ?_ ⟨Ext.refl W, rfl⟩
          go_simp
        · intro V τ W hC hf ht h0
          have f0 : V 0 = .agg #[.int .i64 c.kk, .slice Av c.vars.length cv, .slice Aa c.args.length ca, .int .i64 c.bound, .slice Ar c.rows.length cr] := hf 0 (by simp [RS.at_, RS.q, RS.ow, RS.ix])
          have f1 : V 1 = .slice (some ⟨b1, 0, none⟩) n n := hf 1 (by simp [RS.at_, RS.q, RS.ow, RS.ix])
          have s32 := (ht 0 (by simp [RS.at_, RS.q, RS.ow, RS.ix]) 32 rfl).trans f0
          have s33 := (ht 1 (by simp [RS.at_, RS.q, RS.ow, RS.ix]) 33 rfl).trans f1
          refine Does.call (w' := W) (f := 35) (args := #[.agg #[.int .i64 c.kk, .slice Av c.vars.length cv, .slice Aa c.args.length ca, .int .i64 c.bound, .slice Ar c.rows.length cr], .slice (some ⟨b1, 0, none⟩) n n]) (by go_simp; all_goals (first | exact rfl | (apply And.intro <;> exact rfl))) ?_
          refine (filter_any _ _ c q _ (hC0.out.ext ((HX0.out.trans HXT.out).trans hC)) (HSQ.out.ext hC) (by rw [hql]; exact HCV.out) HQD.out).mono ?_
          rintro e wa hres
          have hr2 := OwnRes.from hres hC
          obtain ⟨A3, c3, b3, m3, f3, rfl, -, -, -, -, hxa⟩ := hres
          exact ⟨_, rfl, hxa, hr2⟩
        · intro V τ W hC hf ht h0
          have s7 : τ 7 = .pointer (some ⟨w.heap.size + 1, 0, none⟩) := h0 7 (by kernel_rfl)
          refine Does.val (w' := W) (v := .pointer (some ⟨w.heap.size + 1, 0, none⟩)) ?_ ⟨Ext.refl W, rfl⟩
          go_simp
        · intro V τ W hC hf ht h0
          have f3 : V 3 = .pointer (some ⟨w.heap.size + 1, 0, none⟩) := hf 3 (by simp [RS.at_, RS.q, RS.ow, RS.ix])
          have s35 := (ht 3 (by simp [RS.at_, RS.q, RS.ow, RS.ix]) 35 rfl).trans f3
          have j0 := ((HXT.out.trans hC).cells _ _ js).trans J0.out
          refine Does.val (w' := W) (v := .int .i64 rx) ?_ ⟨Ext.refl W, rfl⟩
          go_simp
        · intro V τ W hC hf ht h0
          have f2 : OwnRes (filtL c q) wr (.returned (V 2)) W := hf 2 (by simp [RS.at_, RS.q, RS.ow, RS.ix])
          have f4 : V 4 = .int .i64 rx := hf 4 (by simp [RS.at_, RS.q, RS.ow, RS.ix])
          obtain ⟨A2, c2, b2, m2, g2, he, -, -, -, ho2, -⟩ := f2
          injection he with he
          rw [hfl] at he
          have s34 := (ht 2 (by simp [RS.at_, RS.q, RS.ow, RS.ix]) 34 rfl).trans he
          have s36 := (ht 4 (by simp [RS.at_, RS.q, RS.ow, RS.ix]) 36 rfl).trans f4
          obtain ⟨rfl, hr2, hm2, hg2⟩ := ho2 (by omega)
          have hrn : (rx : Int) < n := by omega
          have hcl := hr2.cell (i := rx) (by omega)
          rw [hg2 rx (by omega)] at hcl
          refine Does.val (w' := W) (v := .pointer (some ⟨b2, rx, none⟩)) ?_ ⟨Ext.refl W, b2, rfl, hr2.lt, hcl⟩
          clear hcl hr2 hg2 h0 ht hf
          go_simp
        · intro V τ W hC hf ht h0
          obtain ⟨b5, f5, hb5, hcl⟩ := (show ∃ b, V 5 = .pointer (some ⟨b, rx, none⟩) ∧ _ ∧ W.cell? ⟨b, rx, none⟩ = some (.int .i64 (at0 (filtL c q) rx)) from hf 5 (by simp [RS.at_, RS.q, RS.ow, RS.ix]))
          have s37 := (ht 5 (by simp [RS.at_, RS.q, RS.ow, RS.ix]) 37 rfl).trans f5
          refine Does.val (w' := W) (v := .int .i64 (at0 (filtL c q) rx)) ?_ ⟨Ext.refl W, rfl⟩
          go_simp
        · intro V τ W hC hf ht h0
          have s7 : τ 7 = .pointer (some ⟨w.heap.size + 1, 0, none⟩) := h0 7 (by kernel_rfl)
          refine Does.val (w' := W) (v := .pointer (some ⟨w.heap.size + 1, 1, none⟩)) ?_ ⟨Ext.refl W, rfl⟩
          go_simp
        · intro V τ W hC hf ht h0
          have f7 : V 7 = .pointer (some ⟨w.heap.size + 1, 1, none⟩) := hf 7 (by simp [RS.at_, RS.q, RS.ow, RS.ix])
          have s39 := (ht 7 (by simp [RS.at_, RS.q, RS.ow, RS.ix]) 39 rfl).trans f7
          have j1 := ((HXT.out.trans hC).cells _ _ js).trans J1.out
          refine Does.val (w' := W) (v := .int .i64 rv) ?_ ⟨Ext.refl W, rfl⟩
          go_simp
        · intro V τ W hC hf ht h0
          have f6 : V 6 = .int .i64 (at0 (filtL c q) rx) := hf 6 (by simp [RS.at_, RS.q, RS.ow, RS.ix])
          have f8 : V 8 = .int .i64 rv := hf 8 (by simp [RS.at_, RS.q, RS.ow, RS.ix])
          have s38 := (ht 6 (by simp [RS.at_, RS.q, RS.ow, RS.ix]) 38 rfl).trans f6
          have s40 := (ht 8 (by simp [RS.at_, RS.q, RS.ow, RS.ix]) 40 rfl).trans f8
          have hfb := HFD.out rx (by omega)
          refine Does.call (w' := W) (f := 36) (args := #[.int .i64 (at0 (filtL c q) rx), .int .i64 rv]) (by go_simp; all_goals (first | exact rfl | (apply And.intro <;> exact rfl))) ?_
          refine (has_any (at0 (filtL c q) rx) rv _ hfb.1 (by omega) (by omega)).mono ?_
          rintro e wa ⟨rfl, rfl⟩
          exact ⟨_, rfl, Ext.refl _, rfl⟩
        · intro V τ W hC hf ht h0
          have f9 : V 9 = .bool (hasB (at0 (filtL c q) rx) rv) := hf 9 (by simp [RS.at_, RS.q, RS.ow, RS.ix])
          have s41 := (ht 9 (by simp [RS.at_, RS.q, RS.ow, RS.ix]) 41 rfl).trans f9
          refine Does.val (w' := W) (v := .bool (!hasB (at0 (filtL c q) rx) rv)) ?_ ⟨Ext.refl W, rfl⟩
          go_simp
      case ends =>
        intro V W hC hf
        have f0 : V 0 = .agg #[.int .i64 c.kk, .slice Av c.vars.length cv, .slice Aa c.args.length ca, .int .i64 c.bound, .slice Ar c.rows.length cr] := hf 0 (by omega)
        have f1 : V 1 = .slice (some ⟨b1, 0, none⟩) n n := hf 1 (by omega)
        obtain ⟨A2, c2, f2⟩ := (show OwnRes (filtL c q) wr (.returned (V 2)) W from hf 2 (by omega)).form
        have f3 : V 3 = .pointer (some ⟨w.heap.size + 1, 0, none⟩) := hf 3 (by omega)
        have f4 : V 4 = .int .i64 rx := hf 4 (by omega)
        obtain ⟨b5, f5, -, -⟩ := (show ∃ b, V 5 = .pointer (some ⟨b, rx, none⟩) ∧ _ ∧ W.cell? ⟨b, rx, none⟩ = some (.int .i64 (at0 (filtL c q) rx)) from hf 5 (by omega))
        have f6 : V 6 = .int .i64 (at0 (filtL c q) rx) := hf 6 (by omega)
        have f7 : V 7 = .pointer (some ⟨w.heap.size + 1, 1, none⟩) := hf 7 (by omega)
        have f8 : V 8 = .int .i64 rv := hf 8 (by omega)
        have f9 : V 9 = .bool (hasB (at0 (filtL c q) rx) rv) := hf 9 (by omega)
        have f10 : V 10 = .bool (!hasB (at0 (filtL c q) rx) rv) := hf 10 (by omega)
        rw [hfl] at f2
        clear hf
        simp only [List.take_succ_cons, List.take_zero, putAll, Act.put, List.setIfInBounds_toArray, List.set_cons_succ, List.set_cons_zero, Nat.reduceAdd, f0, f1, f2, f3, f4, f5, f6, f7, f8, f9, f10]
        simp only [nths, nth1]
        clear f0 f1 f2 f3 f4 f5 f6 f7 f8 f9 f10
        have HB := hide (show explB c n rs r = !hasB (at0 (filtL c q) rx) rv by rw [HEB.out, HFL.out])
        have HXE := hide ((HX0.out.trans HXT.out).trans hC)
        clear hC
        go_wp2
        go_ret
        exact Ret.mk (ret_b HB.out.symm) HXE.out
set_option maxRecDepth 100000 in
set_option maxHeartbeats 8000000 in
theorem explainsS_any (c : Con) (v vs : Value) (n : Nat) (rs : List Rm) (r : Rm) (w : World) (hC : SCon w v c) (hS : SRm w vs rs) (hcv : vCon c n = true) (hok : okRms rs n = true) (hr : okRm r n = true) (hn : 1 ≤ n) (h4 : n ≤ 4) :
    Calls Try.prog 28 #[v, .int .i64 n, vs, .agg #[.int .i64 r.x, .int .i64 r.v]] w (Ret (.bool (explB c n rs r)) w) := by
  have hC0 := hide hC
  obtain ⟨vv, va, vr, rfl, hV, hA, hR⟩ := hC
  obtain ⟨Av, cv, rfl, -, -⟩ := hV.form
  obtain ⟨Aa, ca, rfl, -, -⟩ := hA.form
  obtain ⟨Ar, cr, rfl, -, -⟩ := hR.form
  have hS0 := hide hS
  have HOK := hide hok
  have HCV := hide hcv
  obtain ⟨As, c_s, rfl, -, hls⟩ := hS.form
  have hr24 := okRms_len hok
  obtain ⟨rx, rv, hrx, hrv, hrxn, hrv6⟩ := okRm_nat hr
  have HEB := hide (show explB c n rs r = !hasB (at0 (filtL c (resL n rs)) rx) rv by rw [explB, hrx, hrv, Int.toNat_natCast, Int.toNat_natCast])
  rw [hrx, hrv]
  obtain ⟨w0, hw0⟩ : ∃ w0, w0 = (w.alloc (.cells #[.int .i64 c.kk, .slice Av c.vars.length cv, .slice Aa c.args.length ca, .int .i64 c.bound, .slice Ar c.rows.length cr] 26)).alloc (.cells #[.int .i64 rx, .int .i64 rv] 29) := ⟨_, rfl⟩
  have hx0 : Ext w w0 := by rw [hw0]; exact ((Ext.refl w).alloc _).alloc _
  have hs0 : w0.heap.size = w.heap.size + 2 := by rw [hw0]; simp
  have k0 : w0.cell? ⟨w.heap.size, 0, none⟩ = some (.int .i64 c.kk) := by rw [hw0]; go_simp
  have k1 : w0.cell? ⟨w.heap.size, 1, none⟩ = some (.slice Av c.vars.length cv) := by rw [hw0]; go_simp
  have k2 : w0.cell? ⟨w.heap.size, 2, none⟩ = some (.slice Aa c.args.length ca) := by rw [hw0]; go_simp
  have k3 : w0.cell? ⟨w.heap.size, 3, none⟩ = some (.int .i64 c.bound) := by rw [hw0]; go_simp
  have k4 : w0.cell? ⟨w.heap.size, 4, none⟩ = some (.slice Ar c.rows.length cr) := by rw [hw0]; go_simp
  have j0 : w0.cell? ⟨w.heap.size + 1, 0, none⟩ = some (.int .i64 rx) := by rw [hw0]; go_simp
  have j1 : w0.cell? ⟨w.heap.size + 1, 1, none⟩ = some (.int .i64 rv) := by rw [hw0]; go_simp
  have ks : w.heap.size < w0.heap.size := by omega
  have js : w.heap.size + 1 < w0.heap.size := by omega
  have HX0 := hide hx0
  have K0 := hide k0
  have K1 := hide k1
  have K2 := hide k2
  have K3 := hide k3
  have K4 := hide k4
  have J0 := hide j0
  have J1 := hide j1
  clear hV hA hR hS hok hcv hr hrx hrv hx0 k0 k1 k2 k3 k4 j0 j1
  obtain ⟨q, hq⟩ : ∃ q, q = resL n rs := ⟨_, rfl⟩
  have HQ := hide hq
  obtain ⟨hql, hqd⟩ := okFull rs HOK.out
  rw [← hq] at hql hqd
  have HQD := hide hqd
  have HFL := hide (show filtL c (resL n rs) = filtL c q by rw [HQ.out])
  have hvar : VarOK c.vars q.length := by rw [hql]; exact vCon_var HCV.out
  have HFD := hide (show DomL (filtL c q) from filtP_dom hvar HQD.out)
  have hfl : (filtL c q).length = n := (filtP_len _ _ _).trans hql
  clear hvar hqd hq
  go_enter Try.func28, Try.ntmps28
  go_wp2
  rw [← hw0]
  clear hw0
  refine wp_region_relT (n := 13) (ts := [13]) (sp := [RS.q [] (fun _ => .agg #[.int .i64 c.kk, .slice Av c.vars.length cv, .slice Aa c.args.length ca, .int .i64 c.bound, .slice Ar c.rows.length cr]), RS.q [] (fun _ => .int .i64 n), RS.q [] (fun _ => .slice As rs.length c_s), RS.ow [1, 2] q w0, RS.ow [0, 3] (filtL c q) w0, RS.q [] (fun _ => .pointer (some ⟨w.heap.size + 1, 0, none⟩)), RS.q [5] (fun _ => .int .i64 rx), RS.ix [4, 6] (filtL c q) rx, RS.q [7] (fun _ => .int .i64 (at0 (filtL c q) rx)), RS.q [] (fun _ => .pointer (some ⟨w.heap.size + 1, 1, none⟩)), RS.q [9] (fun _ => .int .i64 rv), RS.q [8, 10] (fun _ => .bool (hasB (at0 (filtL c q) rx) rv)), RS.q [11] (fun _ => .bool (!hasB (at0 (filtL c q) rx) rv))])
    (fun W => Ext w0 W) (by kernel_rfl) (relOK (D := [[], [], [], [1, 2], [0, 3], [], [5], [4, 6], [7], [], [9], [8, 10], [11]]) rfl (by kernel_rfl) rfl) (by kernel_rfl) (fun W W' h hx => h.trans hx) (Ext.refl w0).drew ?steps ?ends
  case steps =>
    refine ⟨?_, ?_, ?_, ?_, ?_, ?_, ?_, ?_, ?_, ?_, ?_, ?_, ?_, trivial⟩
    · intro V τ W hC hf ht h0
      have s4 : τ 4 = .pointer (some ⟨w.heap.size, 0, none⟩) := h0 4 (by kernel_rfl)
      have k0 := (hC.cells _ _ ks).trans K0.out
      have k1 := (hC.cells _ _ ks).trans K1.out
      have k2 := (hC.cells _ _ ks).trans K2.out
      have k3 := (hC.cells _ _ ks).trans K3.out
      have k4 := (hC.cells _ _ ks).trans K4.out
      refine Does.val (w' := W) (v := .agg #[.int .i64 c.kk, .slice Av c.vars.length cv, .slice Aa c.args.length ca, .int .i64 c.bound, .slice Ar c.rows.length cr]) ?_ ⟨Ext.refl W, rfl⟩
      clear h0 ht hf
      go_simp
    · intro V τ W hC hf ht h0
      have s1 : τ 1 = .int .i64 n := h0 1 (by kernel_rfl)
      refine Does.val (w' := W) (v := .int .i64 n) ?_ ⟨Ext.refl W, rfl⟩
      go_simp
    · intro V τ W hC hf ht h0
      have s2 : τ 2 = .slice As rs.length c_s := h0 2 (by kernel_rfl)
      refine Does.val (w' := W) (v := .slice As rs.length c_s) ?_ ⟨Ext.refl W, rfl⟩
      go_simp
    · intro V τ W hC hf ht h0
      have f1 : V 1 = .int .i64 n := hf 1 (by simp [RS.at_, RS.q, RS.ow, RS.ix])
      have f2 : V 2 = .slice As rs.length c_s := hf 2 (by simp [RS.at_, RS.q, RS.ow, RS.ix])
      have s10 := (ht 1 (by simp [RS.at_, RS.q, RS.ow, RS.ix]) 10 rfl).trans f1
      have s11 := (ht 2 (by simp [RS.at_, RS.q, RS.ow, RS.ix]) 11 rfl).trans f2
      refine Does.call (w' := W) (f := 52) (args := #[.int .i64 n, .slice As rs.length c_s]) (by go_simp; all_goals (first | exact rfl | (apply And.intro <;> exact rfl))) ?_
      refine (restrict_any _ rs n _ (hS0.out.ext (HX0.out.trans hC)) HOK.out hn h4).mono ?_
      rintro e wa hres
      have hr2 : OwnRes q w0 e wa := by rw [HQ.out]; exact OwnRes.from hres hC
      obtain ⟨A3, c3, b3, m3, f3, rfl, -, -, -, -, hxa⟩ := hres
      exact ⟨_, rfl, hxa, hr2⟩
    · intro V τ W hC hf ht h0
      have f0 : V 0 = .agg #[.int .i64 c.kk, .slice Av c.vars.length cv, .slice Aa c.args.length ca, .int .i64 c.bound, .slice Ar c.rows.length cr] := hf 0 (by simp [RS.at_, RS.q, RS.ow, RS.ix])
      have f3 : OwnRes q w0 (.returned (V 3)) W := hf 3 (by simp [RS.at_, RS.q, RS.ow, RS.ix])
      have s9 := (ht 0 (by simp [RS.at_, RS.q, RS.ow, RS.ix]) 9 rfl).trans f0
      have s12 : τ 12 = V 3 := ht 3 (by simp [RS.at_, RS.q, RS.ow, RS.ix]) 12 rfl
      refine Does.call (w' := W) (f := 32) (args := #[.agg #[.int .i64 c.kk, .slice Av c.vars.length cv, .slice Aa c.args.length ca, .int .i64 c.bound, .slice Ar c.rows.length cr], V 3]) (by go_simp; all_goals (first | exact rfl | (apply And.intro <;> exact rfl))) ?_
      refine (supported_any _ _ c q _ (hC0.out.ext (HX0.out.trans hC)) (f3.ints (fun i hi => by have := HQD.out i hi; unfold I64; omega)) (by rw [hql]; exact HCV.out) HQD.out).mono ?_
      rintro e wa hres
      have hr2 := OwnRes.from hres hC
      obtain ⟨A3, c3, b3, m3, f3, rfl, -, -, -, -, hxa⟩ := hres
      exact ⟨_, rfl, hxa, hr2⟩
    · intro V τ W hC hf ht h0
      have s7 : τ 7 = .pointer (some ⟨w.heap.size + 1, 0, none⟩) := h0 7 (by kernel_rfl)
      refine Does.val (w' := W) (v := .pointer (some ⟨w.heap.size + 1, 0, none⟩)) ?_ ⟨Ext.refl W, rfl⟩
      go_simp
    · intro V τ W hC hf ht h0
      have f5 : V 5 = .pointer (some ⟨w.heap.size + 1, 0, none⟩) := hf 5 (by simp [RS.at_, RS.q, RS.ow, RS.ix])
      have s14 := (ht 5 (by simp [RS.at_, RS.q, RS.ow, RS.ix]) 14 rfl).trans f5
      have j0 := (hC.cells _ _ js).trans J0.out
      refine Does.val (w' := W) (v := .int .i64 rx) ?_ ⟨Ext.refl W, rfl⟩
      go_simp
    · intro V τ W hC hf ht h0
      have f4 : OwnRes (filtL c q) w0 (.returned (V 4)) W := hf 4 (by simp [RS.at_, RS.q, RS.ow, RS.ix])
      have f6 : V 6 = .int .i64 rx := hf 6 (by simp [RS.at_, RS.q, RS.ow, RS.ix])
      obtain ⟨A2, c2, b2, m2, g2, he, -, -, -, ho2, -⟩ := f4
      injection he with he
      rw [hfl] at he
      have s13 := (ht 4 (by simp [RS.at_, RS.q, RS.ow, RS.ix]) 13 rfl).trans he
      have s15 := (ht 6 (by simp [RS.at_, RS.q, RS.ow, RS.ix]) 15 rfl).trans f6
      obtain ⟨rfl, hr2, hm2, hg2⟩ := ho2 (by omega)
      have hrn : (rx : Int) < n := by omega
      have hcl := hr2.cell (i := rx) (by omega)
      rw [hg2 rx (by omega)] at hcl
      refine Does.val (w' := W) (v := .pointer (some ⟨b2, rx, none⟩)) ?_ ⟨Ext.refl W, b2, rfl, hr2.lt, hcl⟩
      clear hcl hr2 hg2 h0 ht hf
      go_simp
    · intro V τ W hC hf ht h0
      obtain ⟨b5, f7, hb5, hcl⟩ := (show ∃ b, V 7 = .pointer (some ⟨b, rx, none⟩) ∧ _ ∧ W.cell? ⟨b, rx, none⟩ = some (.int .i64 (at0 (filtL c q) rx)) from hf 7 (by simp [RS.at_, RS.q, RS.ow, RS.ix]))
      have s16 := (ht 7 (by simp [RS.at_, RS.q, RS.ow, RS.ix]) 16 rfl).trans f7
      refine Does.val (w' := W) (v := .int .i64 (at0 (filtL c q) rx)) ?_ ⟨Ext.refl W, rfl⟩
      go_simp
    · intro V τ W hC hf ht h0
      have s7 : τ 7 = .pointer (some ⟨w.heap.size + 1, 0, none⟩) := h0 7 (by kernel_rfl)
      refine Does.val (w' := W) (v := .pointer (some ⟨w.heap.size + 1, 1, none⟩)) ?_ ⟨Ext.refl W, rfl⟩
      go_simp
    · intro V τ W hC hf ht h0
      have f9 : V 9 = .pointer (some ⟨w.heap.size + 1, 1, none⟩) := hf 9 (by simp [RS.at_, RS.q, RS.ow, RS.ix])
      have s18 := (ht 9 (by simp [RS.at_, RS.q, RS.ow, RS.ix]) 18 rfl).trans f9
      have j1 := (hC.cells _ _ js).trans J1.out
      refine Does.val (w' := W) (v := .int .i64 rv) ?_ ⟨Ext.refl W, rfl⟩
      go_simp
    · intro V τ W hC hf ht h0
      have f8 : V 8 = .int .i64 (at0 (filtL c q) rx) := hf 8 (by simp [RS.at_, RS.q, RS.ow, RS.ix])
      have f10 : V 10 = .int .i64 rv := hf 10 (by simp [RS.at_, RS.q, RS.ow, RS.ix])
      have s17 := (ht 8 (by simp [RS.at_, RS.q, RS.ow, RS.ix]) 17 rfl).trans f8
      have s19 := (ht 10 (by simp [RS.at_, RS.q, RS.ow, RS.ix]) 19 rfl).trans f10
      have hfb := HFD.out rx (by omega)
      refine Does.call (w' := W) (f := 33) (args := #[.int .i64 (at0 (filtL c q) rx), .int .i64 rv]) (by go_simp; all_goals (first | exact rfl | (apply And.intro <;> exact rfl))) ?_
      refine (domainHas_any (at0 (filtL c q) rx) rv _ hfb.1 (by omega) (by omega)).mono ?_
      rintro e wa ⟨rfl, rfl⟩
      exact ⟨_, rfl, Ext.refl _, rfl⟩
    · intro V τ W hC hf ht h0
      have f11 : V 11 = .bool (hasB (at0 (filtL c q) rx) rv) := hf 11 (by simp [RS.at_, RS.q, RS.ow, RS.ix])
      have s20 := (ht 11 (by simp [RS.at_, RS.q, RS.ow, RS.ix]) 20 rfl).trans f11
      refine Does.val (w' := W) (v := .bool (!hasB (at0 (filtL c q) rx) rv)) ?_ ⟨Ext.refl W, rfl⟩
      go_simp
  case ends =>
    intro V W hC hf
    have f0 : V 0 = .agg #[.int .i64 c.kk, .slice Av c.vars.length cv, .slice Aa c.args.length ca, .int .i64 c.bound, .slice Ar c.rows.length cr] := hf 0 (by omega)
    have f1 : V 1 = .int .i64 n := hf 1 (by omega)
    have f2 : V 2 = .slice As rs.length c_s := hf 2 (by omega)
    obtain ⟨A3, c3, f3⟩ := (show OwnRes q w0 (.returned (V 3)) W from hf 3 (by omega)).form
    obtain ⟨A4, c4, f4⟩ := (show OwnRes (filtL c q) w0 (.returned (V 4)) W from hf 4 (by omega)).form
    have f5 : V 5 = .pointer (some ⟨w.heap.size + 1, 0, none⟩) := hf 5 (by omega)
    have f6 : V 6 = .int .i64 rx := hf 6 (by omega)
    obtain ⟨b7, f7, -, -⟩ := (show ∃ b, V 7 = .pointer (some ⟨b, rx, none⟩) ∧ _ ∧ W.cell? ⟨b, rx, none⟩ = some (.int .i64 (at0 (filtL c q) rx)) from hf 7 (by omega))
    have f8 : V 8 = .int .i64 (at0 (filtL c q) rx) := hf 8 (by omega)
    have f9 : V 9 = .pointer (some ⟨w.heap.size + 1, 1, none⟩) := hf 9 (by omega)
    have f10 : V 10 = .int .i64 rv := hf 10 (by omega)
    have f11 : V 11 = .bool (hasB (at0 (filtL c q) rx) rv) := hf 11 (by omega)
    have f12 : V 12 = .bool (!hasB (at0 (filtL c q) rx) rv) := hf 12 (by omega)
    rw [hql] at f3
    rw [hfl] at f4
    clear hf
    simp only [List.take_succ_cons, List.take_zero, putAll, Act.put, List.setIfInBounds_toArray, List.set_cons_succ, List.set_cons_zero, Nat.reduceAdd, f0, f1, f2, f3, f4, f5, f6, f7, f8, f9, f10, f11, f12]
    simp only [nths, nth1]
    clear f0 f1 f2 f3 f4 f5 f6 f7 f8 f9 f10 f11 f12
    have HB := hide (show explB c n rs r = !hasB (at0 (filtL c q) rx) rv by rw [HEB.out, HFL.out])
    have HXE := hide (HX0.out.trans hC)
    clear hC
    go_wp2
    go_ret
    exact Ret.mk (ret_b HB.out.symm) HXE.out
end Go.Proofs.Ytmfbdaocnijnpaa
/- IsExplanation: the program's, and the reference's. -/
namespace Go.Proofs.Ytmfbdaocnijnpaa
open Go.RowKit

def expV (c : Con) (n : Int) (rs : List Rm) (r : Rm) : Bool := vCon c n && (okRms rs n && (okRm r n && explB c n.toNat rs r))
theorem okRms_one (r : Rm) (n : Int) : okRms [r] n = okRm r n := by
  unfold okRms anyB
  show (!(List.any (List.range 1) fun i => !okRm (rm0 [r] i) n) && true) = _
  simp [rm0, List.range_succ]
theorem SRm.one {w : World} {b : Nat} {r : Rm} (hb : b < w.heap.size) (h0 : w.cell? ⟨b, 0, none⟩ = some (.int .i64 r.x)) (h1 : w.cell? ⟨b, 1, none⟩ = some (.int .i64 r.v)) : SRm w (.slice (some ⟨b, 0, none⟩) 1 1) [r] :=
  ⟨_, _, rfl, Nat.le_refl _, by simp, fun _ => ⟨b, 0, rfl, hb, fun i hi => by
    obtain rfl : i = 0 := by simpa using hi
    exact ⟨h0, h1⟩⟩⟩
set_option maxHeartbeats 2000000 in
theorem IndexFuncRm_any (v : Value) (rs : List Rm) (g : Nat) (caps : Array Value) (p : Nat → Bool) (w : World) (hS : SRm w v rs)
    (hg : ∀ args W, (callFunc g args).run Try.prog W = .ok (.enter g args) W) (hp : Hid (∀ i, i < rs.length → ∀ W, Ext w W → Calls Try.prog g (#[.agg #[.int .i64 (rmX rs i), .int .i64 (rmV rs i)]] ++ caps) W (Ret (.bool (p i)) W))) :
    Calls Try.prog 47 #[v, .func (.func g) #[] caps] w (Ret (.int .i64 (fidx p rs.length)) w) := by
  have hS0 := hide hS
  obtain ⟨A, cp, rfl, hl, hlen⟩ := hS.form
  clear hS
  go_enter Try.func47, Try.ntmps47
  go_wp2
  go_loopw [8] (fun i wr => ∃ k : Nat, k ≤ rs.length ∧ i = .int .i64 k ∧ (∀ j, j < k → p j = false) ∧ Ext w wr) (fun i _ => rs.length - (intOf i).toNat)
  case atStart => exact ⟨0, Nat.zero_le _, rfl, fun j hj => absurd hj (by omega), Ext.refl w⟩
  case round =>
    obtain ⟨k, hk, rfl, hv, hx⟩ := hrel
    have Hv := hide hv; clear hv
    by_cases hlt : k < rs.length
    · have hkI : (k : Int) < rs.length := by omega
      obtain ⟨b, off, rfl, hbl, f1, f2⟩ := (hS0.out.ext hx).at_ hlt
      by_cases hpk : p k = true
      · go_wp2_with fail
        refine (hp.out k hlt _ hx).mono ?_
        rintro e w2 ⟨rfl, hx2⟩
        go_wp2
        go_ret
        exact Ret.mk (ret_i (fidx_some hlt hpk Hv.out).symm) (hx.trans hx2)
      · have hpk' : p k = false := Bool.eq_false_iff.2 hpk
        clear hpk
        go_wp2_with fail
        refine (hp.out k hlt _ hx).mono ?_
        rintro e w2 ⟨rfl, hx2⟩
        go_wp2
        go_roundw
        case rel => exact ⟨k + 1, by omega, by go_num, upto_succ Hv.out hpk', hx.trans hx2⟩
        case measure => simp [intOf]; omega
    · have hkl : k = rs.length := by omega
      subst hkl
      go_wp2
      go_ret
      exact Ret.mk (ret_i (fidx_none Hv.out).symm) hx
theorem ContainsFuncRm_any (v : Value) (rs : List Rm) (g : Nat) (caps : Array Value) (p : Nat → Bool) (w : World) (hS : SRm w v rs)
    (hg : ∀ args W, (callFunc g args).run Try.prog W = .ok (.enter g args) W) (hp : Hid (∀ i, i < rs.length → ∀ W, Ext w W → Calls Try.prog g (#[.agg #[.int .i64 (rmX rs i), .int .i64 (rmV rs i)]] ++ caps) W (Ret (.bool (p i)) W))) :
    Calls Try.prog 22 #[v, .func (.func g) #[] caps] w (Ret (.bool (anyB p rs.length)) w) := by
  go_enter Try.func22, Try.ntmps22
  go_wp2_with fail
  refine (IndexFuncRm_any v rs g caps p w hS hg hp).mono ?_
  rintro e w2 ⟨rfl, hx2⟩
  go_wp2
  go_ret
  exact Ret.mk (ret_b (fidx_any p _)) hx2
set_option maxHeartbeats 2000000 in
theorem isExp1_any (x v : Int) (bn n : Nat) (w : World) (hn4 : n ≤ 4) (hb : bn < w.heap.size) (hc : w.cell? ⟨bn, 0, none⟩ = some (.int .i64 n)) :
    Calls Try.prog 23 #[.agg #[.int .i64 x, .int .i64 v], .pointer (some ⟨bn, 0, none⟩)] w (Ret (.bool (!okRm ⟨x, v⟩ n)) w) := by
  obtain ⟨w0, hw0⟩ : ∃ w0, w0 = w.alloc (.cells #[.int .i64 x, .int .i64 v] 29) := ⟨_, rfl⟩
  have hx0 : Ext w w0 := by rw [hw0]; exact (Ext.refl w).alloc _
  have k0 : w0.cell? ⟨w.heap.size, 0, none⟩ = some (.int .i64 x) := by rw [hw0]; go_simp
  have k1 : w0.cell? ⟨w.heap.size, 1, none⟩ = some (.int .i64 v) := by rw [hw0]; go_simp
  have HX0 := hide hx0
  have hc := (hx0.cells _ _ hb).trans hc
  clear hx0
  go_enter Try.func23, Try.ntmps23
  go_wp2_with fail
  rw [← hw0]
  clear hw0
  refine (rmValid_any x v n _ (by omega) (by omega)).mono ?_
  rintro e w2 ⟨rfl, hx2⟩
  have HX2 := hide (HX0.out.trans hx2)
  clear hx2
  go_wp2
  go_ret
  exact Ret.mk rfl HX2.out
set_option maxRecDepth 100000 in
set_option maxHeartbeats 8000000 in
theorem IsExplanationI_any (c : Con) (v vs : Value) (n : Int) (rs : List Rm) (r : Rm) (w : World) (hC : SCon w v c) (hS : SRm w vs rs) :
    Calls Try.prog 7 #[v, .int .i64 n, vs, .agg #[.int .i64 r.x, .int .i64 r.v]] w (Ret (.bool (expV c n rs r)) w) := by
  have hC0 := hide hC
  obtain ⟨vv, va, vr, rfl, hV, hA, hR⟩ := hC
  obtain ⟨Av, cv, rfl, -, -⟩ := hV.form
  obtain ⟨Aa, ca, rfl, -, -⟩ := hA.form
  obtain ⟨Ar, cr, rfl, -, -⟩ := hR.form
  have hS0 := hide hS
  obtain ⟨As, c_s, rfl, -, hls⟩ := hS.form
  obtain ⟨w0, hw0⟩ : ∃ w0, w0 = ((w.alloc (.cells #[.int .i64 c.kk, .slice Av c.vars.length cv, .slice Aa c.args.length ca, .int .i64 c.bound, .slice Ar c.rows.length cr] 26)).alloc (.cells #[.int .i64 n] 3)).alloc (.cells #[.int .i64 r.x, .int .i64 r.v] 29) := ⟨_, rfl⟩
  have hx0 : Ext w w0 := by rw [hw0]; exact (((Ext.refl w).alloc _).alloc _).alloc _
  have hs0 : w0.heap.size = w.heap.size + 3 := by rw [hw0]; simp
  have k0 : w0.cell? ⟨w.heap.size, 0, none⟩ = some (.int .i64 c.kk) := by rw [hw0]; go_simp
  have k1 : w0.cell? ⟨w.heap.size, 1, none⟩ = some (.slice Av c.vars.length cv) := by rw [hw0]; go_simp
  have k2 : w0.cell? ⟨w.heap.size, 2, none⟩ = some (.slice Aa c.args.length ca) := by rw [hw0]; go_simp
  have k3 : w0.cell? ⟨w.heap.size, 3, none⟩ = some (.int .i64 c.bound) := by rw [hw0]; go_simp
  have k4 : w0.cell? ⟨w.heap.size, 4, none⟩ = some (.slice Ar c.rows.length cr) := by rw [hw0]; go_simp
  have q0 : w0.cell? ⟨w.heap.size + 1, 0, none⟩ = some (.int .i64 n) := by rw [hw0]; go_simp
  have j0 : w0.cell? ⟨w.heap.size + 1 + 1, 0, none⟩ = some (.int .i64 r.x) := by rw [hw0]; go_simp
  have j1 : w0.cell? ⟨w.heap.size + 1 + 1, 1, none⟩ = some (.int .i64 r.v) := by rw [hw0]; go_simp
  have ks : w.heap.size < w0.heap.size := by omega
  have qs : w.heap.size + 1 < w0.heap.size := by omega
  have js : w.heap.size + 1 + 1 < w0.heap.size := by omega
  have HX0 := hide hx0
  have HK := hide (And.intro k0 (And.intro k1 (And.intro k2 (And.intro k3 k4))))
  have HQ := hide q0
  have HJ := hide (And.intro j0 j1)
  have hV0 := hide (hV.ext hx0)
  have hA0 := hide (hA.ext hx0)
  have hR0 := hide (hR.ext hx0)
  clear hV hA hR hS hx0
  go_enter Try.func7, Try.ntmps7
  go_wp2_with fail
  rw [← hw0]
  clear hw0
  refine (ValidConstraintI_any c _ _ _ n _ (fits_all c) hV0.out hA0.out hR0.out).mono ?_
  rintro e w1 ⟨rfl, hx1⟩
  have HX1 := hide hx1
  clear hx1 k0 k1 k2 k3 k4 j0 j1 q0
  cases h1 : vCon c n with
  | false =>
    have HV := hide (show expV c n rs r = false by rw [expV, h1]; rfl)
    clear h1
    go_wp2
    go_ret
    exact Ret.mk (ret_b HV.out.symm) (HX0.out.trans HX1.out)
  | true =>
    have hvl := vCon_len h1
    obtain ⟨m, rfl⟩ : ∃ m : Nat, n = m := ⟨n.toNat, by omega⟩
    have hm1 : 1 ≤ m := by omega
    have hm4 : m ≤ 4 := by omega
    have H1 := hide h1
    have q0 := (HX1.out.cells _ _ qs).trans HQ.out
    have j0 := (HX1.out.cells _ _ js).trans HJ.out.1
    have j1 := (HX1.out.cells _ _ js).trans HJ.out.2
    clear hvl h1
    go_wp2_with fail
    refine (rmValid_any r.x r.v m _ (by omega) (by omega)).mono ?_
    rintro e w2 ⟨rfl, hx2⟩
    have HX2 := hide (HX1.out.trans hx2)
    clear hx2 q0 j0 j1
    cases h2 : okRm ⟨r.x, r.v⟩ m with
    | false =>
      have HV := hide (show expV c m rs r = false by rw [expV, show okRm r m = false from h2, Bool.false_and, Bool.and_false, Bool.and_false])
      clear h2
      go_wp2
      go_ret
      exact Ret.mk (ret_b HV.out.symm) (HX0.out.trans HX2.out)
    | true =>
      have H2 := hide (show okRm r m = true from h2)
      clear h2
      by_cases h3 : (24 : Int) < rs.length
      · have HV := hide (show expV c m rs r = false by
          rw [expV, show okRms rs m = false by rw [okRms, decide_eq_false (by omega), Bool.and_false], Bool.false_and, Bool.and_false])
        go_wp2
        go_ret
        exact Ret.mk (ret_b HV.out.symm) (HX0.out.trans HX2.out)
      · have h24 : rs.length ≤ 24 := by omega
        go_wp2_with fail
        refine (ContainsFuncRm_any _ rs 23 #[.pointer (some ⟨w.heap.size + 1, 0, none⟩)] (fun i => !okRm (rm0 rs i) m) _ (hS0.out.ext (HX0.out.trans HX2.out)) (fun args W => callFunc_body Try.func23 (by kernel_rfl) (by kernel_rfl) args W) (hide fun i hi W hW => isExp1_any (rmX rs i) (rmV rs i) (w.heap.size + 1) m W hm4 (Nat.lt_of_lt_of_le qs (HX2.out.trans hW).size) (((HX2.out.trans hW).cells _ _ qs).trans HQ.out))).mono ?_
        rintro e w3 ⟨rfl, hx3⟩
        have HX3 := hide (HX2.out.trans hx3)
        clear hx3
        cases h4 : anyB (fun i => !okRm (rm0 rs i) m) rs.length with
        | true =>
          have HV := hide (show expV c m rs r = false by
            rw [expV, show okRms rs m = false by rw [okRms, h4]; rfl, Bool.false_and, Bool.and_false])
          clear h4
          go_wp2
          go_ret
          exact Ret.mk (ret_b HV.out.symm) (HX0.out.trans HX3.out)
        | false =>
          have H4 := hide (show okRms rs m = true by rw [okRms, h4, decide_eq_true h24]; rfl)
          have HV := hide (show expV c m rs r = explB c m rs r by rw [expV, H1.out, H4.out, H2.out, Int.toNat_natCast]; rfl)
          have k0 := (HX3.out.cells _ _ ks).trans HK.out.1
          have k1 := (HX3.out.cells _ _ ks).trans HK.out.2.1
          have k2 := (HX3.out.cells _ _ ks).trans HK.out.2.2.1
          have k3 := (HX3.out.cells _ _ ks).trans HK.out.2.2.2.1
          have k4 := (HX3.out.cells _ _ ks).trans HK.out.2.2.2.2
          have q0 := (HX3.out.cells _ _ qs).trans HQ.out
          have j0 := (HX3.out.cells _ _ js).trans HJ.out.1
          have j1 := (HX3.out.cells _ _ js).trans HJ.out.2
          clear h4
          go_wp2_with fail
          refine (explainsI_any c _ _ m rs r _ (hC0.out.ext (HX0.out.trans HX3.out)) (hS0.out.ext (HX0.out.trans HX3.out)) H1.out H4.out H2.out hm1 hm4).mono ?_
          rintro e w4 ⟨rfl, hx4⟩
          have HX4 := hide ((HX0.out.trans HX3.out).trans hx4)
          clear hx4 k0 k1 k2 k3 k4 q0 j0 j1
          go_wp2
          go_ret
          exact Ret.mk (ret_b HV.out.symm) HX4.out
set_option maxRecDepth 100000 in
set_option maxHeartbeats 8000000 in
theorem IsExplanationS_any (c : Con) (v vs : Value) (n : Int) (rs : List Rm) (r : Rm) (w : World) (hC : SCon w v c) (hS : SRm w vs rs) :
    Calls Try.prog 8 #[v, .int .i64 n, vs, .agg #[.int .i64 r.x, .int .i64 r.v]] w (Ret (.bool (expV c n rs r)) w) := by
  have hC0 := hide hC
  obtain ⟨vv, va, vr, rfl, hV, hA, hR⟩ := hC
  obtain ⟨Av, cv, rfl, -, -⟩ := hV.form
  obtain ⟨Aa, ca, rfl, -, -⟩ := hA.form
  obtain ⟨Ar, cr, rfl, -, -⟩ := hR.form
  have hS0 := hide hS
  obtain ⟨As, c_s, rfl, -, hls⟩ := hS.form
  obtain ⟨w0, hw0⟩ : ∃ w0, w0 = (w.alloc (.cells #[.int .i64 c.kk, .slice Av c.vars.length cv, .slice Aa c.args.length ca, .int .i64 c.bound, .slice Ar c.rows.length cr] 26)).alloc (.cells #[.int .i64 r.x, .int .i64 r.v] 29) := ⟨_, rfl⟩
  have hx0 : Ext w w0 := by rw [hw0]; exact ((Ext.refl w).alloc _).alloc _
  have hs0 : w0.heap.size = w.heap.size + 2 := by rw [hw0]; simp
  have k0 : w0.cell? ⟨w.heap.size, 0, none⟩ = some (.int .i64 c.kk) := by rw [hw0]; go_simp
  have k1 : w0.cell? ⟨w.heap.size, 1, none⟩ = some (.slice Av c.vars.length cv) := by rw [hw0]; go_simp
  have k2 : w0.cell? ⟨w.heap.size, 2, none⟩ = some (.slice Aa c.args.length ca) := by rw [hw0]; go_simp
  have k3 : w0.cell? ⟨w.heap.size, 3, none⟩ = some (.int .i64 c.bound) := by rw [hw0]; go_simp
  have k4 : w0.cell? ⟨w.heap.size, 4, none⟩ = some (.slice Ar c.rows.length cr) := by rw [hw0]; go_simp
  have j0 : w0.cell? ⟨w.heap.size + 1, 0, none⟩ = some (.int .i64 r.x) := by rw [hw0]; go_simp
  have j1 : w0.cell? ⟨w.heap.size + 1, 1, none⟩ = some (.int .i64 r.v) := by rw [hw0]; go_simp
  have ks : w.heap.size < w0.heap.size := by omega
  have js : w.heap.size + 1 < w0.heap.size := by omega
  have HX0 := hide hx0
  have HK := hide (And.intro k0 (And.intro k1 (And.intro k2 (And.intro k3 k4))))
  have HJ := hide (And.intro j0 j1)
  have hV0 := hide (hV.ext hx0)
  have hA0 := hide (hA.ext hx0)
  have hR0 := hide (hR.ext hx0)
  clear hV hA hR hS hx0
  cases h0 : inR n 1 4 with
  | false =>
    have HV := hide (show expV c n rs r = false by rw [expV, vCon_vCs, h0]; rfl)
    have H0 := hide h0
    clear h0
    go_enter Try.func8, Try.ntmps8
    go_wp2_with fail
    rw [← hw0]
    clear hw0
    refine (inRange_any _ _ _ _).mono ?_
    rintro e w' ⟨rfl, rfl⟩
    rw [H0.out]
    go_wp2
    go_ret
    exact Ret.mk (ret_b HV.out.symm) HX0.out
  | true =>
    have hnb : 1 ≤ n ∧ n ≤ 4 := by simpa [inR] using h0
    obtain ⟨m, rfl⟩ : ∃ m : Nat, n = m := ⟨n.toNat, by omega⟩
    have hm1 : 1 ≤ m := by omega
    have hm4 : m ≤ 4 := by omega
    have H0 := hide h0
    clear hnb h0
    go_enter Try.func8, Try.ntmps8
    go_wp2_with fail
    rw [← hw0]
    clear hw0
    refine (inRange_any _ _ _ _).mono ?_
    rintro e w' ⟨rfl, rfl⟩
    rw [H0.out]
    go_wp2_with fail
    refine (validConstraintS_any c _ _ _ m _ hV0.out hA0.out hR0.out (by omega) (by omega)).mono ?_
    rintro e w1 ⟨rfl, hx1⟩
    have HX1 := hide hx1
    clear hx1 k0 k1 k2 k3 k4 j0 j1
    cases h1 : vCs c m with
    | false =>
      have HV := hide (show expV c m rs r = false by rw [expV, vCon_vCs, h1, Bool.and_false, Bool.false_and])
      clear h1
      go_wp2
      go_ret
      exact Ret.mk (ret_b HV.out.symm) (HX0.out.trans HX1.out)
    | true =>
      have H1 := hide (show vCon c m = true by rw [vCon_vCs, H0.out, h1]; rfl)
      clear h1
      go_wp2_with fail
      refine (validRemovals_any _ rs m _ (hS0.out.ext (HX0.out.trans HX1.out)) (by omega) (by omega)).mono ?_
      rintro e w' ⟨rfl, rfl⟩
      cases h2 : okRms rs m with
      | false =>
        have HV := hide (show expV c m rs r = false by rw [expV, h2, Bool.false_and, Bool.and_false])
        clear h2
        go_wp2
        go_ret
        exact Ret.mk (ret_b HV.out.symm) (HX0.out.trans HX1.out)
      | true =>
        have H2 := hide h2
        have j0 := (HX1.out.cells _ _ js).trans HJ.out.1
        have j1 := (HX1.out.cells _ _ js).trans HJ.out.2
        clear h2
        go_wp2_with fail
        obtain ⟨u, hu⟩ : ∃ u, u = w1.alloc (.cells #[.int .i64 r.x, .int .i64 r.v] 29) := ⟨_, rfl⟩
        have hxu : Ext w1 u := by rw [hu]; exact (Ext.refl w1).alloc _
        have u0 : u.cell? ⟨w1.heap.size, 0, none⟩ = some (.int .i64 r.x) := by rw [hu]; go_simp
        have u1 : u.cell? ⟨w1.heap.size, 1, none⟩ = some (.int .i64 r.v) := by rw [hu]; go_simp
        have us : w1.heap.size < u.heap.size := by rw [hu]; simp
        have HXU := hide (HX1.out.trans hxu)
        rw [← hu]
        clear hu hxu
        refine (validRemovals_any _ [r] m _ (SRm.one us u0 u1) (by omega) (by omega)).mono ?_
        rintro e w' ⟨rfl, rfl⟩
        rw [okRms_one]
        clear u0 u1 j0 j1
        cases h3 : okRm r m with
        | false =>
          have HV := hide (show expV c m rs r = false by rw [expV, h3, Bool.false_and, Bool.and_false, Bool.and_false])
          clear h3
          go_wp2
          go_ret
          exact Ret.mk (ret_b HV.out.symm) (HX0.out.trans HXU.out)
        | true =>
          have H3 := hide h3
          have HV := hide (show expV c m rs r = explB c m rs r by rw [expV, H1.out, H2.out, h3, Int.toNat_natCast]; rfl)
          have k0 := (HXU.out.cells _ _ ks).trans HK.out.1
          have k1 := (HXU.out.cells _ _ ks).trans HK.out.2.1
          have k2 := (HXU.out.cells _ _ ks).trans HK.out.2.2.1
          have k3 := (HXU.out.cells _ _ ks).trans HK.out.2.2.2.1
          have k4 := (HXU.out.cells _ _ ks).trans HK.out.2.2.2.2
          have j0 := (HXU.out.cells _ _ js).trans HJ.out.1
          have j1 := (HXU.out.cells _ _ js).trans HJ.out.2
          clear h3
          go_wp2_with fail
          refine (explainsS_any c _ _ m rs r _ (hC0.out.ext (HX0.out.trans HXU.out)) (hS0.out.ext (HX0.out.trans HXU.out)) H1.out H2.out H3.out hm1 hm4).mono ?_
          rintro e w4 ⟨rfl, hx4⟩
          have HX4 := hide ((HX0.out.trans HXU.out).trans hx4)
          clear hx4 k0 k1 k2 k3 k4 j0 j1
          go_wp2
          go_ret
          exact Ret.mk (ret_b HV.out.symm) HX4.out
end Go.Proofs.Ytmfbdaocnijnpaa
