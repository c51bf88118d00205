/- Bounds consistency: the reference's walk. -/
import Derived.Test.YtllgicpiddapeaaDoorBndW
namespace Go.Proofs.YtllgicpiddapeaaDoor
open Go.RowKit

set_option maxRecDepth 100000 in
set_option maxHeartbeats 16000000 in
theorem trimAll_any (v vd : Value) (D ds : List Int) (cs : List Con) (w : World) (hM : SMod w v D cs) (hD : SInts w vd ds) (hG : GoodD cs ds.length ds) (h4 : ds.length ≤ 4) (h1 : 0 < ds.length) :
    Calls Tryd.prog 42 #[v, vd] w (OwnRes (bndL trimV cs ds) w) := by
  have hM0 := hide hM
  obtain ⟨ve, vc, rfl, hE, hC⟩ := hM
  have HG := hide hG
  have hD0 := hide hD
  obtain ⟨Ae, ce, rfl, -, hle⟩ := hE.form
  obtain ⟨Ac, cc, rfl, -, hlc⟩ := hC.form
  obtain ⟨Ad, cd, rfl, -, hld⟩ := hD.form
  obtain ⟨w0, hw0⟩ : ∃ w0, w0 = w.alloc (.cells #[.slice Ae D.length ce, .slice Ac cs.length cc] 37) := ⟨_, rfl⟩
  have hx0 : Ext w w0 := by rw [hw0]; exact (Ext.refl w).alloc _
  have k1 : w0.cell? ⟨w.heap.size, 1, none⟩ = some (.slice Ac cs.length cc) := by rw [hw0]; go_simp
  have ks : w.heap.size < w0.heap.size := by rw [hw0]; simp
  have HX0 := hide hx0
  have K1 := hide k1
  have hC0 := hide (hC.ext hx0)
  clear hE hC hD hG hx0 k1
  go_enter Tryd.func42, Tryd.ntmps42
  go_wp2_with fail
  rw [← hw0]
  clear hw0
  refine (copyInts_any _ ds _ (hD0.out.ext HX0.out) h1).mono ?_
  rintro e w1 ⟨A1, c1, b1, m1, f1, rfl, hc1, hd1, hb1, ho1, hx1⟩
  obtain ⟨rfl, hr1, hm1', hf1⟩ := ho1 h1
  have HRS := hide (show RowS w1 b1 m1 ds from ⟨f1, hr1, hm1', hf1⟩)
  have HX1 := hide hx1
  have hb1l := hr1.lt
  obtain ⟨n, hn⟩ : ∃ n, n = ds.length := ⟨_, rfl⟩
  have HG2 := hide (show GoodD cs n ds by rw [hn]; exact HG.out)
  rw [← hn] at h1 h4 hc1 hd1 ⊢
  have HC1 := hide hc1
  clear hn ho1 hr1 hf1 hx1 hm1'
  go_wp2
  go_loopw [6] (fun i wr => ∃ k : Nat, i = .int .i64 k ∧ k ≤ cs.length ∧ Ext w0 wr ∧ b1 < wr.heap.size ∧ RowS wr b1 m1 (bndK trimV cs ds k)) (fun i _ => cs.length - (intOf i).toNat)
  case atStart => exact ⟨0, rfl, Nat.zero_le _, HX1.out, hb1l, HRS.out⟩
  case round =>
    obtain ⟨k, rfl, hk, hx, hbw, hrow⟩ := hrel
    have HX := hide hx
    obtain ⟨q, hq⟩ : ∃ q, q = bndK trimV cs ds k := ⟨_, rfl⟩
    have HQ := hide hq
    have HGQ := hide (show GoodD cs n q by rw [hq]; exact (bndK_good trimOk HG2.out k).1)
    rw [← hq] at hrow
    have HROW := hide hrow
    have k1 := (hx.cells _ _ ks).trans K1.out
    have ksr := Nat.lt_of_lt_of_le ks hx.size
    clear hrow hq
    by_cases hlt : k < cs.length
    · have hkI : (k : Int) < cs.length := by omega
      obtain ⟨b, off, rfl, hbl, vv, va, vr, f1, f2, f3, f4, f5, s1, s2, s3⟩ := (hC0.out.ext hx).at_ hlt
      obtain ⟨Av, cv, rfl, -, -⟩ := s1.form
      obtain ⟨Aa, ca, rfl, -, -⟩ := s2.form
      obtain ⟨Ar, cr, rfl, -, -⟩ := s3.form
      have HC := hide (show SCon wr (.agg #[.int .i64 (con0 cs k).kk, .slice Av (con0 cs k).vars.length cv, .slice Aa (con0 cs k).args.length ca, .int .i64 (con0 cs k).bound, .slice Ar (con0 cs k).rows.length cr]) (con0 cs k) from ⟨_, _, _, rfl, s1, s2, s3⟩)
      have HV := hide (HG2.out.2.2 k hlt)
      have hql : q.length = n := HGQ.out.1
      have HSQ := hide (show SInts wr (.slice (some ⟨b1, 0, none⟩) n c1) q by
        have := HROW.out.sints (c := c1) (by rw [hql]; exact HC1.out) (by omega) HGQ.out.i64
        rwa [hql] at this)
      have HQL := hide hql
      clear s1 s2 s3 hx hql
      go_wp2_with fail
      refine (supported_any _ _ (con0 cs k) q _ HC.out HSQ.out (by rw [HQL.out]; exact HV.out) HGQ.out.2.1).mono ?_
      rintro e w2 ⟨A2, c2, b2, m2, f2', rfl, hc2, hb2, hn2, ho2, hx2⟩
      have hfl : (filtL (con0 cs k) q).length = n := by rw [filtL, filtP_len]; exact HQL.out
      have HG3 := hide ((HGQ.out.filt (i := k) hlt).1)
      have HO2 := hide ho2
      have HX2 := hide (HX.out.trans hx2)
      have HROW2 := hide (HROW.out.ext hx2)
      have hb2w : b1 < w2.heap.size := Nat.lt_of_lt_of_le hbw hx2.size
      have hb12 : b2 ≠ b1 := by omega
      have HFL := hide hfl
      rw [hfl]
      clear ho2 hx2 f1 f2 f3 f4 f5 hfl
      go_wp2_with fail
      go_loopw [8] (fun i wr2 => ∃ t : Nat, i = .int .i64 t ∧ t ≤ n ∧ Ext w0 wr2 ∧ RowS wr2 b1 m1 (mapP trimV (con0 cs k) q t) ∧ Keep (fun j => j ≠ b1) w2 wr2) (fun i _ => n - (intOf i).toNat)
      case atStart => exact ⟨0, rfl, Nat.zero_le _, HX2.out, by rw [mapP_zero]; exact HROW2.out, Keep.refl _ _⟩
      case round =>
        obtain ⟨t, rfl, ht, hxt, hrt, hkt⟩ := hrel
        have HXT := hide hxt
        have HKT := hide hkt
        have HRT := hide hrt
        by_cases htl : t < n
        · have htI : (t : Int) < n := by omega
          obtain ⟨rfl, hr2, hm2', hf2⟩ := HO2.out (by rw [HFL.out]; omega)
          have fa := (hkt.row hb12 hr2).cell (i := t) (by have := HFL.out; omega)
          rw [hf2 t (by rw [HFL.out]; exact htl)] at fa
          have hb2t := (hkt.row hb12 hr2).lt
          obtain ⟨g, hrg, hmg, hfg⟩ := hrt
          have hml : (mapP trimV (con0 cs k) q t).length = n := by rw [mapP_len]; exact HQL.out
          have fk := hrg.cell (i := t) (by omega)
          rw [hfg t (by omega), mapP_at _ _ _ _ (by rw [HQL.out]; exact htl), if_neg (by omega)] at fk
          have fz := hrg.frozen t
          have hb1t := hrg.lt
          have hdb := HGQ.out.2.1 t (by rw [HQL.out]; exact htl)
          have hkb := HG3.out.2.1 t (by rw [HFL.out]; exact htl)
          obtain ⟨x, hx⟩ : ∃ x, x = at0 q t := ⟨_, rfl⟩
          obtain ⟨y, hy⟩ : ∃ y, y = at0 (filtL (con0 cs k) q) t := ⟨_, rfl⟩
          rw [← hx] at fk hdb
          rw [← hy] at fa hkb
          obtain ⟨z, hz⟩ : ∃ z, z = trimV x y := ⟨_, rfl⟩
          have HZ := hide (show z = trimV (at0 q t) (at0 (filtL (con0 cs k) q) t) by rw [hz, hx, hy])
          have HZ2 := hide hz
          clear hxt hkt hr2 hf2 hrg hfg hml hx hy hz hm2' hmg
          go_wp2_with fail
          refine wp_region_ext_tail 12 (by kernel_rfl) (by kernel_rfl) ?_
          simp only [List.take_succ_cons, List.take_zero, List.drop_succ_cons, List.drop_zero]
          iterate 10 (apply quiet_val; (focus rfl); (focus (intro w' hw'; have hk' := hw'.cells; go_simp; all_goals exact rfl)); simp only [Act.put, List.setIfInBounds_toArray, List.set_cons_succ, List.set_cons_zero])
          apply quiet_call; (focus rfl); (focus (intro w' hw'; go_simp; all_goals (first | exact rfl | (apply And.intro <;> exact rfl))))
          · exact fun w' hw' => Ret.quiet ((trim_any x y w' hdb.1 hdb.2 hkb.1 hkb.2).mono fun e w2 h => by rw [← HZ2.out] at h; exact h) hw'
          (simp only [Act.put, List.setIfInBounds_toArray, List.set_cons_succ, List.set_cons_zero])
          (apply quiet_val; (focus rfl); (focus (intro w' hw'; have hk' := hw'.cells; go_simp; all_goals exact rfl)); simp only [Act.put, List.setIfInBounds_toArray, List.set_cons_succ, List.set_cons_zero])
          refine wpQuiet_nil ?_
          intro w5 hx5
          have HX5 := hide (HXT.out.trans hx5)
          have HRT5 := hide (HRT.out.ext hx5)
          have HKT5 := hide (HKT.out.ext hx5)
          have fz := (hx5.frz _ _ hb1t).trans fz
          have fk := (hx5.cells _ _ hb1t).trans fk
          clear hx5 fa
          go_wp2
          go_roundw
          case rel => exact ⟨t + 1, by go_num, by omega, HX5.out.set (p := ⟨b1, t, none⟩) hb1 _, by rw [mapP_succ _ _ _ (by rw [HQL.out]; exact htl), ← HZ.out]; exact HRT5.out.set t z (by rw [mapP_len, HQL.out]; exact htl), HKT5.out.set (fun _ hh => hh rfl) _⟩
          case measure => simp [intOf]; omega
        · obtain rfl : t = n := by omega
          have htI : ¬ ((t : Int) < t) := by omega
          have HNX := hide (show mapP trimV (con0 cs k) q t = bndK trimV cs ds (k + 1) by
            rw [show mapP trimV (con0 cs k) q t = mapF trimV (con0 cs k) q by rw [← mapP_all, HQL.out], HQ.out]; rfl)
          have hbt := Nat.lt_of_lt_of_le hb2w HKT.out.size
          clear hxt hkt hrt
          go_wp2
          go_roundw
          case rel => exact ⟨k + 1, by go_num, by omega, HXT.out, hbt, by rw [← HNX.out]; exact HRT.out⟩
          case measure => simp [intOf]; omega
    · obtain rfl : k = cs.length := by omega
      have hkI : ¬ ((cs.length : Int) < cs.length) := by omega
      have hql : q.length = n := HGQ.out.1
      have HE := hide (show OwnRes (bndL trimV cs ds) w (.returned (.slice (some ⟨b1, 0, none⟩) n c1)) wr by
        have h := HROW.out.own (c := c1) (w := w) (by rw [hql]; exact HC1.out) (by omega) (Nat.le_trans HX0.out.size hb1) (HX0.out.trans HX.out)
        rw [hql] at h
        rw [bndL, ← HQ.out]; exact h)
      go_wp2
      go_ret
      exact HE.out
set_option maxRecDepth 100000 in
set_option maxHeartbeats 8000000 in
theorem boundsFixpoint_any (v : Value) (ds : List Int) (cs : List Con) (w : World) (hM : SMod w v ds cs) (hG : GoodD cs ds.length ds) (h4 : ds.length ≤ 4) (h1 : 0 < ds.length) :
    Calls Tryd.prog 25 #[v] w (OwnRes (fixL (bndL trimV cs) 300 ds) w) := by
  have hM0 := hide hM
  obtain ⟨ve, vc, rfl, hE, hC⟩ := hM
  have HG := hide hG
  obtain ⟨Ae, ce, rfl, -, hle⟩ := hE.form
  obtain ⟨Ac, cc, rfl, -, hlc⟩ := hC.form
  obtain ⟨w0, hw0⟩ : ∃ w0, w0 = w.alloc (.cells #[.slice Ae ds.length ce, .slice Ac cs.length cc] 37) := ⟨_, rfl⟩
  have hx0 : Ext w w0 := by rw [hw0]; exact (Ext.refl w).alloc _
  have k0 : w0.cell? ⟨w.heap.size, 0, none⟩ = some (.slice Ae ds.length ce) := by rw [hw0]; go_simp
  have k1 : w0.cell? ⟨w.heap.size, 1, none⟩ = some (.slice Ac cs.length cc) := by rw [hw0]; go_simp
  have ks : w.heap.size < w0.heap.size := by rw [hw0]; simp
  have HX0 := hide hx0
  have K0 := hide k0
  have K1 := hide k1
  have hE0 := hide (hE.ext hx0)
  clear hE hC hx0 hG k1
  go_enter Tryd.func25, Tryd.ntmps25
  go_wp2_with fail
  rw [← hw0]
  clear hw0
  refine (copyInts_any _ ds _ hE0.out h1).mono ?_
  rintro e w1 ⟨A1, c1, b1, m1, f1, rfl, hc1, hb1, hn1, ho1, hx1⟩
  have HO := hide (show OwnRes ds w0 (.returned (.slice A1 ds.length c1)) w1 from ⟨A1, c1, b1, m1, f1, rfl, hc1, hb1, hn1, ho1, hx1⟩)
  obtain ⟨n, hn⟩ : ∃ n, n = ds.length := ⟨_, rfl⟩
  have HN := hide hn
  have HG2 := hide (show GoodD cs n ds by rw [hn]; exact HG.out)
  rw [← hn] at h4 h1 HO ⊢
  clear hn ho1 hx1 hb1 hn1 k0
  go_wp2_with fail
  go_loopg [3] 300 (fun gk v wr => ∃ (now : List Int), OwnRes now w0 (.returned v) wr ∧ GoodD cs n now ∧ fixL (bndL trimV cs) 300 ds = fixL (bndL trimV cs) gk now ∧ sumL now < gk)
  case atStart => exact ⟨ds, HO.out, HG2.out, rfl, by have := sumL_bd ds HG2.out.2.1; have := HN.out; omega⟩
  case round =>
    obtain ⟨now, how, hgn, hit, hsum⟩ := hrel
    obtain ⟨A, cc2, rfl⟩ := how.form
    have HOW := hide how
    have HGN := hide hgn
    have HIT := hide hit
    have HS := hide (how.ints hgn.i64)
    have hx := how.ext0
    have HX := hide hx
    have k0 := (hx.cells _ _ ks).trans K0.out
    have k1 := (hx.cells _ _ ks).trans K1.out
    have hsb := (sumL_bd now hgn.2.1).1
    obtain ⟨k, rfl⟩ : ∃ k, gk = k + 1 := ⟨gk - 1, by omega⟩
    have hnl : now.length = n := hgn.1
    rw [hnl] at HS HOW ⊢
    have HNL := hide hnl
    clear hgn hit hx how hnl
    go_wp2_with fail
    refine (trimAll_any _ _ ds now cs _ (hM0.out.ext (HX0.out.trans HX.out)) (by have := HS.out; exact this) (by rw [HNL.out]; exact HGN.out) (by rw [HNL.out]; exact h4) (by rw [HNL.out]; exact h1)).mono ?_
    rintro e w3 hres
    have hst := bnd_ok (cs := cs) (n := n) trimOk
    have HGS := hide (hst.stay now HGN.out)
    have hsl : (bndL trimV cs now).length = n := HGS.out.1
    have HO3 := hide (show OwnRes (bndL trimV cs now) w0 e w3 from OwnRes.from hres HX.out)
    obtain ⟨A3, c3, b3, m3, f3, rfl, hc3, hd3, hb3, ho3, hx3⟩ := hres
    have HS3 := hide (SInts.own hc3 hd3 ho3 HGS.out.i64)
    have HOW3 := hide (HOW.out.grow hx3)
    have HSW := hide (HS.out.ext hx3)
    have HSUB := hide (hst.sub now HGN.out)
    have HX3 := hide (HX.out.trans hx3)
    rw [hsl] at HS3 HO3 ⊢
    clear hc3 hd3 hb3 ho3 hx3 hst hsl k0 k1
    go_wp2_with fail
    refine (hasEmpty_any _ (bndL trimV cs now) _ HS3.out).mono ?_
    rintro e w4 ⟨rfl, rfl⟩
    cases hz : hasI (bndL trimV cs now) 0 with
    | true =>
      have HZ := hide (show fixL (bndL trimV cs) 300 ds = zer n by
        rw [HIT.out, fixL]
        cases h0 : hasI now 0 with
        | true => rw [if_pos rfl, HNL.out]
        | false =>
          rw [if_neg (by simp)]
          by_cases he : bndL trimV cs now = now
          · rw [he, h0] at hz; cases hz
          · rw [if_neg he]
            obtain ⟨k2, rfl⟩ : ∃ k2, k = k2 + 1 := ⟨k - 1, by
              have := SubD.sum HGS.out.2.1 HGN.out.2.1 HSUB.out he
              have := (sumL_bd (bndL trimV cs now) HGS.out.2.1).1
              omega⟩
            rw [fixL_empty hz, HGS.out.1])
      clear hz
      go_wp2_with (at_make; go_must (refine wpList_make_gen _ rfl _ _ 29 rfl 3 (.int .i64 0) 1 8 Tryd.underlying29 Tryd.infoI .i64 .i64 n rfl rfl (by omega) (by omega) (fun _ => .int .i64 0) (fun i _ => by simp [Value.cells, Nat.mod_one]) ?_); intro w5 hrow5 hsz5 hx5; rw [Nat.mul_one] at hrow5; have HROW5 := hide hrow5; have HX5 := hide hx5; clear hrow5 hsz5 hx5)
      go_ret
      rw [HZ.out]
      exact zer_own HROW5.out (Nat.le_trans HX0.out.size HX3.out.size) (HX0.out.trans (HX3.out.trans HX5.out)) h4
    | false =>
      have hn0 : hasI now 0 = false := by
        cases h0 : hasI now 0 with
        | false => rfl
        | true =>
          have := sub_hasI2 HSUB.out HGS.out.2.1 h0
          rw [this] at hz; cases hz
      have HN0 := hide hn0
      clear hz hn0
      go_wp2_with fail
      refine (equalIntsS_any _ _ (bndL trimV cs now) now _ HS3.out HSW.out).mono ?_
      rintro e w4 ⟨rfl, hx4⟩
      have HX4 := hide hx4
      clear hx4
      by_cases he : bndL trimV cs now = now
      · have HE := hide (show fixL (bndL trimV cs) 300 ds = now by rw [HIT.out, fixL_done HN0.out he])
        rw [decide_eq_true he]
        clear he
        go_wp2
        go_ret
        rw [HE.out]
        exact (HOW3.out.grow HX4.out).from HX0.out
      · have hlt := SubD.sum HGS.out.2.1 HGN.out.2.1 HSUB.out he
        have HIT2 := hide (show fixL (bndL trimV cs) 300 ds = fixL (bndL trimV cs) k (bndL trimV cs now) by
          rw [HIT.out, fixL, HN0.out, if_neg (by simp), if_neg he])
        rw [decide_eq_false he]
        clear he
        go_wp2
        go_roundg k
        case measure => omega
        case rel => exact ⟨bndL trimV cs now, HO3.out.grow HX4.out, HGS.out, HIT2.out, by omega⟩
end Go.Proofs.YtllgicpiddapeaaDoor
