/- Bounds consistency: the program's walk, and BoundsPropagate on both sides. -/
import Derived.Test.YtllgicpiddapeaaDoorBndX
import Derived.Test.YtllgicpiddapeaaDoorSpD
namespace Go.Proofs.YtllgicpiddapeaaDoor
open Go.RowKit

theorem edge_bits2 {d : Nat} (h1 : 1 ≤ d) (h2 : d ≤ 63) {k : Int} (k0 : 0 ≤ k) (k1 : k ≤ 63) : bits .andNot .i64 d (bits .andNot .i64 (bits .or .i64 (2 ^ lowB d) (2 ^ topB d)) k) = edgeV d k := by
  have : ∀ n : Fin 64, ∀ k : Fin 64, 1 ≤ n.val → bits .andNot .i64 (n.val : Int) (bits .andNot .i64 (bits .or .i64 (2 ^ lowB n.val) (2 ^ topB n.val)) (k.val : Int)) = edgeV (n.val : Int) (k.val : Int) := by decide +kernel
  obtain ⟨m, rfl⟩ : ∃ m : Nat, k = m := ⟨k.toNat, by omega⟩
  exact this ⟨d, by omega⟩ ⟨m, by omega⟩ h1
theorem lowB_lt {d : Nat} (h1 : 1 ≤ d) (h2 : d ≤ 63) : lowB d < 6 := by
  have : ∀ n : Fin 64, 1 ≤ n.val → lowB n.val < 6 := by decide +kernel
  exact this ⟨d, by omega⟩ h1
theorem mapP_skip (f : Int → Int → Int) (c : Con) (ds : List Int) {v : Nat} (hv : v < ds.length) (h : f (at0 ds v) (at0 (filtL c ds) v) = at0 ds v) : mapP f c ds (v + 1) = mapP f c ds v :=
  at0_ext (by rw [mapP_len, mapP_len]) fun i hi => by
    rw [mapP_len] at hi
    rw [mapP_at _ _ _ _ hi, mapP_at _ _ _ _ hi]
    by_cases e : i = v
    · subst e; rw [if_pos (by omega), if_neg (by omega), h]
    · by_cases h2 : i < v
      · rw [if_pos h2, if_pos (by omega)]
      · rw [if_neg h2, if_neg (by omega)]
set_option maxRecDepth 100000 in
set_option maxHeartbeats 16000000 in
theorem bounds1_any (Ae Ac : Option Addr) (ce cc bm : Nat) (vd : Value) (D ds : List Int) (cs : List Con) (w : World) (hm1 : w.cell? ⟨bm, 1, none⟩ = some (.slice Ac cs.length cc)) (hbm : bm < w.heap.size)
    (hM : SMod w (.agg #[.slice Ae D.length ce, .slice Ac cs.length cc]) D cs) (hD : SInts w vd ds) (hG : GoodD cs ds.length ds) (h4 : ds.length ≤ 4) (h1 : 0 < ds.length) (hT : TzTab w) (hb : 1 < w.heap.size) :
    Calls Tryd.prog 51 #[vd, .pointer (some ⟨bm, 0, none⟩)] w (OwnRes (bndL edgeV cs ds) w) := by
  have hM0 := hide hM
  obtain ⟨ve, vc, e1, hE, hC⟩ := hM
  injection e1 with e1
  obtain ⟨rfl, rfl⟩ : _ = ve ∧ _ = vc := by simpa using e1
  have HG := hide hG
  have hD0 := hide hD
  have hC0 := hide hC
  have HT := hide hT
  have K1 := hide hm1
  obtain ⟨Ad, cd, rfl, -, hld⟩ := hD.form
  have hlc : cs.length ≤ 5864062014805 := by obtain ⟨_, _, _, _, h⟩ := hC.form; exact h
  clear hE hC hD hG hT hm1 e1
  go_enter Tryd.func51, Tryd.ntmps51
  go_wp2_with fail
  refine (copied_any _ ds _ hD0.out).mono ?_
  rintro e w1 ⟨A1, c1, b1, m1, f1, rfl, hc1, hd1, hb1, ho1, hx1⟩
  obtain ⟨rfl, hr1, hm1', hf1⟩ := ho1 h1
  have HRS := hide (show RowS w1 b1 m1 ds from ⟨f1, hr1, hm1', hf1⟩)
  have HX1 := hide hx1
  have hb1l := hr1.lt
  have k1 := (hx1.cells _ _ hbm).trans K1.out
  obtain ⟨n, hn⟩ : ∃ n, n = ds.length := ⟨_, rfl⟩
  have HG2 := hide (show GoodD cs n ds by rw [hn]; exact HG.out)
  rw [← hn] at h1 h4 hc1 hd1 ⊢
  have HC1 := hide hc1
  clear hn ho1 hr1 hf1 hx1 hm1'
  go_wp2
  go_loopw [14] (fun i wr => ∃ k : Nat, i = .int .i64 k ∧ k ≤ cs.length ∧ Ext w wr ∧ b1 < wr.heap.size ∧ RowS wr b1 m1 (bndK edgeV cs ds k)) (fun i _ => cs.length - (intOf i).toNat)
  case atStart => exact ⟨0, rfl, Nat.zero_le _, HX1.out, hb1l, HRS.out⟩
  case round =>
    obtain ⟨k, rfl, hk, hx, hbw, hrow⟩ := hrel
    have HX := hide hx
    obtain ⟨q, hq⟩ : ∃ q, q = bndK edgeV cs ds k := ⟨_, rfl⟩
    have HQ := hide hq
    have HGQ := hide (show GoodD cs n q by rw [hq]; exact (bndK_good edgeOk HG2.out k).1)
    rw [← hq] at hrow
    have HROW := hide hrow
    clear hrow hq k1
    by_cases hlt : k < cs.length
    · have hkI : (k : Int) < cs.length := by omega
      obtain ⟨b, off, rfl, hbl, vv, va, vr, f1, f2, f3, f4, f5, s1, s2, s3⟩ := (hC0.out.ext hx).at_ hlt
      obtain ⟨Av, cv, rfl, -, -⟩ := s1.form
      obtain ⟨Aa, ca, rfl, -, -⟩ := s2.form
      obtain ⟨Ar, cr, rfl, -, -⟩ := s3.form
      have HC := hide (show SCon wr (.agg #[.int .i64 (con0 cs k).kk, .slice Av (con0 cs k).vars.length cv, .slice Aa (con0 cs k).args.length ca, .int .i64 (con0 cs k).bound, .slice Ar (con0 cs k).rows.length cr]) (con0 cs k) from ⟨_, _, _, rfl, s1, s2, s3⟩)
      have HV := hide (HG2.out.2.2 k hlt)
      have hql : q.length = n := HGQ.out.1
      obtain ⟨wz, hwz⟩ : ∃ wz, wz = wr.alloc (.cells #[.int .i64 (con0 cs k).kk, .slice Av (con0 cs k).vars.length cv, .slice Aa (con0 cs k).args.length ca, .int .i64 (con0 cs k).bound, .slice Ar (con0 cs k).rows.length cr] 66) := ⟨_, rfl⟩
      have hxz : Ext wr wz := by rw [hwz]; exact (Ext.refl wr).alloc _
      have HSQ := hide (show SInts wz (.slice (some ⟨b1, 0, none⟩) n c1) q by
        have := (HROW.out.ext hxz).sints (c := c1) (by rw [hql]; exact HC1.out) (by omega) HGQ.out.i64
        rwa [hql] at this)
      have HQL := hide hql
      have HXZ := hide hxz
      have HROWZ := hide (HROW.out.ext hxz)
      have hszz := hxz.size
      clear s1 s2 s3 hx hql hxz
      go_wp2_with fail
      rw [← hwz]
      clear hwz
      refine (filter_any _ _ (con0 cs k) q _ (HC.out.ext HXZ.out) HSQ.out (by rw [HQL.out]; exact HV.out) HGQ.out.2.1).mono ?_
      rintro e w2 ⟨A2, c2, b2, m2, f2', rfl, hc2, hb2, hn2, ho2, hx2⟩
      have hfl : (filtL (con0 cs k) q).length = n := by rw [filtL, filtP_len]; exact HQL.out
      have HG3 := hide ((HGQ.out.filt (i := k) hlt).1)
      have HO2 := hide ho2
      have HX2 := hide (HX.out.trans (HXZ.out.trans hx2))
      have HROW2 := hide (HROWZ.out.ext hx2)
      have hb2w : b1 < w2.heap.size := Nat.lt_of_lt_of_le hbw (Nat.le_trans hszz hx2.size)
      have hb12 : b2 ≠ b1 := by omega
      have HFL := hide hfl
      rw [hfl]
      clear ho2 hx2 f1 f2 f3 f4 f5 hfl
      go_wp2_with fail
      go_loopw [22] (fun i wr2 => ∃ t : Nat, i = .int .i64 t ∧ t ≤ n ∧ Ext w wr2 ∧ RowS wr2 b1 m1 (mapP edgeV (con0 cs k) q t) ∧ Keep (fun j => j ≠ b1) w2 wr2) (fun i _ => n - (intOf i).toNat)
      case atStart => exact ⟨0, rfl, Nat.zero_le _, HX2.out, by rw [mapP_zero]; exact HROW2.out, Keep.refl _ _⟩
      case round =>
        obtain ⟨t, rfl, ht, hxt, hrt, hkt⟩ := hrel
        have HXT := hide hxt
        have HKT := hide hkt
        have HRT := hide hrt
        by_cases htl : t < n
        · have htI : (t : Int) < n := by omega
          obtain ⟨rfl, hr2, hm2', hf2⟩ := HO2.out (by rw [HFL.out]; omega)
          have fa := (hkt.row hb12 hr2).cell (i := t) (by have := HFL.out; omega)
          rw [hf2 t (by rw [HFL.out]; exact htl)] at fa
          have hb2t := (hkt.row hb12 hr2).lt
          obtain ⟨g, hrg, hmg, hfg⟩ := hrt
          have hml : (mapP edgeV (con0 cs k) q t).length = n := by rw [mapP_len]; exact HQL.out
          have fk := hrg.cell (i := t) (by omega)
          rw [hfg t (by omega), mapP_at _ _ _ _ (by rw [HQL.out]; exact htl), if_neg (by omega)] at fk
          have fz := hrg.frozen t
          have hb1t := hrg.lt
          have hdb := HGQ.out.2.1 t (by rw [HQL.out]; exact htl)
          have hkb := HG3.out.2.1 t (by rw [HFL.out]; exact htl)
          obtain ⟨x, hx⟩ : ∃ x : Nat, at0 q t = x := ⟨(at0 q t).toNat, by omega⟩
          obtain ⟨y, hy⟩ : ∃ y, y = at0 (filtL (con0 cs k) q) t := ⟨_, rfl⟩
          rw [hx] at fk hdb
          rw [← hy] at fa hkb
          have HXX := hide hx
          have HYY := hide hy
          clear hxt hkt hr2 hf2 hrg hfg hml hx hy hm2' hmg
          by_cases hx0 : x = 0
          · subst hx0
            have HSK := hide (show mapP edgeV (con0 cs k) q (t + 1) = mapP edgeV (con0 cs k) q t from mapP_skip _ _ _ (by rw [HQL.out]; exact htl) (by rw [HXX.out]; exact edge_zero _))
            go_wp2_with fail
            go_roundw
            case rel => exact ⟨t + 1, by go_num, by omega, HXT.out, by rw [HSK.out]; exact HRT.out, HKT.out⟩
            case measure => simp [intOf]; omega
          · have hx1 : 1 ≤ x := by omega
            have hx2 : x ≤ 63 := by omega
            have hxn : ((x : Int) != 0) = true := by simp; omega
            have heb := edge_bits2 hx1 hx2 hkb.1 hkb.2
            have hl6 := lowB_lt hx1 hx2
            have ht6 := topB_lt hx2
            obtain ⟨lo, hlo⟩ : ∃ lo, lo = lowB x := ⟨_, rfl⟩
            obtain ⟨hi, hhi⟩ : ∃ hi, hi = topB x := ⟨_, rfl⟩
            rw [← hlo] at heb hl6
            rw [← hhi] at heb ht6
            have HLO := hide hlo
            have HHI := hide hhi
            have p1 := pow_bd hl6
            have p2 := pow_bd ht6
            have kp1 : IntKind.i64.wrap (2 ^ lo) = 2 ^ lo := IntWalk.i64_in _ (by omega)
            have kp2 : IntKind.i64.wrap (2 ^ hi) = 2 ^ hi := IntWalk.i64_in _ (by omega)
            obtain ⟨z, hz⟩ : ∃ z, z = edgeV x y := ⟨_, rfl⟩
            rw [← hz] at heb
            have HZ := hide (show z = edgeV (at0 q t) (at0 (filtL (con0 cs k) q) t) by rw [hz, HXX.out, HYY.out])
            have hTW := hide (TzTab.ext HT.out hb HXT.out)
            have hbW := Nat.lt_of_lt_of_le hb HXT.out.size
            clear hz hlo hhi p1 p2
            go_wp2_with fail
            refine wp_region_ext_tail 15 (by kernel_rfl) (by kernel_rfl) ?_
            simp only [List.take_succ_cons, List.take_zero, List.drop_succ_cons, List.drop_zero]
            iterate 5 (apply quiet_val; (focus rfl); (focus (intro w' hw'; have hk' := hw'.cells; go_simp; all_goals exact rfl)); simp only [Act.put, List.setIfInBounds_toArray, List.set_cons_succ, List.set_cons_zero])
            apply quiet_call; (focus rfl); (focus (intro w' hw'; go_simp; all_goals (first | exact rfl | (apply And.intro <;> exact rfl))))
            · exact fun w' hw' => same_quiet ((least_any x hx1 hx2 w' (hTW.out.ext hbW hw')).mono fun e w2 h => by rw [← HLO.out] at h; exact h) hw'
            (simp only [Act.put, List.setIfInBounds_toArray, List.set_cons_succ, List.set_cons_zero])
            iterate 2 (apply quiet_val; (focus rfl); (focus (intro w' hw'; have hk' := hw'.cells; go_simp; all_goals exact rfl)); simp only [Act.put, List.setIfInBounds_toArray, List.set_cons_succ, List.set_cons_zero])
            apply quiet_call; (focus rfl); (focus (intro w' hw'; go_simp; all_goals (first | exact rfl | (apply And.intro <;> exact rfl))))
            · exact fun w' hw' => same_quiet ((most_any x hx1 hx2 w').mono fun e w2 h => by rw [← HHI.out] at h; exact h) hw'
            (simp only [Act.put, List.setIfInBounds_toArray, List.set_cons_succ, List.set_cons_zero])
            iterate 6 (apply quiet_val; (focus rfl); (focus (intro w' hw'; have hk' := hw'.cells; go_simp; all_goals exact rfl)); simp only [Act.put, List.setIfInBounds_toArray, List.set_cons_succ, List.set_cons_zero])
            refine wpQuiet_nil ?_
            intro w5 hx5
            have HX5 := hide (HXT.out.trans hx5)
            have HRT5 := hide (HRT.out.ext hx5)
            have HKT5 := hide (HKT.out.ext hx5)
            have fz := (hx5.frz _ _ hb1t).trans fz
            have fk := (hx5.cells _ _ hb1t).trans fk
            clear hx5 fa
            try simp only [kp1, kp2, heb]
            go_wp2
            go_roundw
            case rel => exact ⟨t + 1, by go_num, by omega, HX5.out.set (p := ⟨b1, t, none⟩) hb1 _, by rw [mapP_succ _ _ _ (by rw [HQL.out]; exact htl), ← HZ.out]; exact HRT5.out.set t z (by rw [mapP_len, HQL.out]; exact htl), HKT5.out.set (fun _ hh => hh rfl) _⟩
            case measure => simp [intOf]; omega
        · obtain rfl : t = n := by omega
          have htI : ¬ ((t : Int) < t) := by omega
          have HNX := hide (show mapP edgeV (con0 cs k) q t = bndK edgeV cs ds (k + 1) by
            rw [show mapP edgeV (con0 cs k) q t = mapF edgeV (con0 cs k) q by rw [← mapP_all, HQL.out], HQ.out]; rfl)
          have hbt := Nat.lt_of_lt_of_le hb2w HKT.out.size
          clear hxt hkt hrt
          go_wp2
          go_roundw
          case rel => exact ⟨k + 1, by go_num, by omega, HXT.out, hbt, by rw [← HNX.out]; exact HRT.out⟩
          case measure => simp [intOf]; omega
    · obtain rfl : k = cs.length := by omega
      have hkI : ¬ ((cs.length : Int) < cs.length) := by omega
      have hql : q.length = n := HGQ.out.1
      have HE := hide (show OwnRes (bndL edgeV cs ds) w (.returned (.slice (some ⟨b1, 0, none⟩) n c1)) wr by
        have h := HROW.out.own (c := c1) (w := w) (by rw [hql]; exact HC1.out) (by omega) hb1 HX.out
        rw [hql] at h
        rw [bndL, ← HQ.out]; exact h)
      go_wp2
      go_ret
      exact HE.out
/-- What the bounds leave. -/
def bndR (cs : List Con) (ds : List Int) : List Int := fixL (bndL edgeV cs) 300 ds
set_option maxRecDepth 100000 in
set_option maxHeartbeats 4000000 in
theorem boundsI_any (v : Value) (ds : List Int) (cs : List Con) (w : World) (hM : SMod w v ds cs) (hG : GoodD cs ds.length ds) (h4 : ds.length ≤ 4) (h1 : 0 < ds.length) (hT : TzTab w) (hb : 1 < w.heap.size) :
    Calls Tryd.prog 29 #[v] w (OwnRes (bndR cs ds) w) := by
  have hM0 := hide hM
  obtain ⟨ve, vc, rfl, hE, hC⟩ := hM
  have HG := hide hG
  have HT := hide hT
  obtain ⟨Ae, ce, rfl, -, hle⟩ := hE.form
  obtain ⟨Ac, cc, rfl, -, hlc⟩ := hC.form
  obtain ⟨w0, hw0⟩ : ∃ w0, w0 = w.alloc (.cells #[.slice Ae ds.length ce, .slice Ac cs.length cc] 37) := ⟨_, rfl⟩
  have hx0 : Ext w w0 := by rw [hw0]; exact (Ext.refl w).alloc _
  have k0 : w0.cell? ⟨w.heap.size, 0, none⟩ = some (.slice Ae ds.length ce) := by rw [hw0]; go_simp
  have k1 : w0.cell? ⟨w.heap.size, 1, none⟩ = some (.slice Ac cs.length cc) := by rw [hw0]; go_simp
  have ks : w.heap.size < w0.heap.size := by rw [hw0]; simp
  have HX0 := hide hx0
  have K1 := hide k1
  have hE0 := hide (hE.ext hx0)
  clear hE hC hx0 hG hT
  go_enter Tryd.func29, Tryd.ntmps29
  go_wp2_with fail
  rw [← hw0]
  clear hw0
  refine (fixpointC_any _ ds 51 #[.pointer (some ⟨w.heap.size, 0, none⟩)] (bndL edgeV cs) (GoodD cs ds.length) _ hE0.out HG.out (bnd_ok edgeOk) h4 h1 (fun args W => callFunc_body Tryd.func51 (by kernel_rfl) (by kernel_rfl) args W)
    (hide fun now v' W hW hS hgn => (bounds1_any Ae Ac ce cc w.heap.size v' ds now cs W ((hW.cells _ _ ks).trans K1.out) (Nat.lt_of_lt_of_le ks hW.size) (hM0.out.ext (HX0.out.trans hW)) hS (by rw [hgn.1]; exact hgn) (by rw [hgn.1]; exact h4) (by rw [hgn.1]; exact h1) (TzTab.ext HT.out hb (HX0.out.trans hW)) (Nat.lt_of_lt_of_le hb (HX0.out.trans hW).size)).mono (fun _ _ h => .inl h))).mono ?_
  rintro e w2 hres
  have HRES := hide (show OwnRes (bndR cs ds) w e w2 from OwnRes.from hres HX0.out)
  obtain ⟨A3, c3, b3, m3, f3, rfl, -⟩ := hres
  obtain ⟨L, hL⟩ : ∃ L, L = (fixL (bndL edgeV cs) 300 ds).length := ⟨_, rfl⟩
  rw [← hL]
  have HRES := hide (show OwnRes (bndR cs ds) w (.returned (.slice A3 L c3)) w2 by rw [hL]; exact HRES.out)
  clear hL
  go_wp2
  go_ret
  exact HRES.out
def bndV (ds : List Int) (cs : List Con) : List Int := if vMod ds cs = true then bndR cs ds else []
theorem bndR_good {cs : List Con} {n : Nat} {ds : List Int} (h : GoodD cs n ds) (h4 : n ≤ 4) : GoodD cs n (bndR cs ds) := by
  have hsum : sumL ds < 300 := by have := (sumL_bd ds h.2.1).2; have := h.1; omega
  obtain ⟨i, hg, hc⟩ := fixL_orbit (bnd_ok (cs := cs) edgeOk) 300 ds h hsum
  rcases hc with ⟨-, hy⟩ | ⟨-, -, hy⟩
  · unfold bndR; rw [hy]; exact h.zer
  · unfold bndR; rw [hy]; exact hg
theorem bndV_i64 (ds : List Int) (cs : List Con) : ∀ j, j < (bndV ds cs).length → I64 (at0 (bndV ds cs) j) := by
  intro j hj
  unfold bndV at hj ⊢
  split at hj
  · rename_i h
    obtain ⟨hG, hp, h4⟩ := vMod_good h
    rw [if_pos h]
    exact (bndR_good hG h4).i64 j hj
  · simp at hj
theorem bndV_len (ds : List Int) (cs : List Con) : (bndV ds cs).length ≤ 4 := by
  unfold bndV
  split
  · rename_i h
    obtain ⟨hG, hp, h4⟩ := vMod_good h
    rw [(bndR_good hG h4).1]
    exact h4
  · simp
set_option maxRecDepth 100000 in
set_option maxHeartbeats 4000000 in
theorem BoundsPropagateI_any (v : Value) (ds : List Int) (cs : List Con) (w : World) (hM : SMod w v ds cs) (hT : TzTab w) (hb : 1 < w.heap.size) :
    Calls Tryd.prog 11 #[v] w (OwnRes (bndV ds cs) w) := by
  have hM0 := hide hM
  obtain ⟨ve, vc, rfl, hE, hC⟩ := hM
  obtain ⟨Ae, ce, rfl, -, hle⟩ := hE.form
  obtain ⟨Ac, cc, rfl, -, hlc⟩ := hC.form
  obtain ⟨w0, hw0⟩ : ∃ w0, w0 = w.alloc (.cells #[.slice Ae ds.length ce, .slice Ac cs.length cc] 37) := ⟨_, rfl⟩
  have hx0 : Ext w w0 := by rw [hw0]; exact (Ext.refl w).alloc _
  have k0 : w0.cell? ⟨w.heap.size, 0, none⟩ = some (.slice Ae ds.length ce) := by rw [hw0]; go_simp
  have k1 : w0.cell? ⟨w.heap.size, 1, none⟩ = some (.slice Ac cs.length cc) := by rw [hw0]; go_simp
  have ks : w.heap.size < w0.heap.size := by rw [hw0]; simp
  have HX0 := hide hx0
  have hE0 := hide hE
  have hC0 := hide hC
  have HT := hide hT
  clear hT
  clear hE hC hx0
  go_enter Tryd.func11, Tryd.ntmps11
  go_wp2_with fail
  rw [← hw0]
  clear hw0
  refine (ValidModelI_any _ _ ds cs _ (hE0.out.ext HX0.out) (hC0.out.ext HX0.out) (fun i _ => fits_all (con0 cs i))).mono ?_
  rintro e w1 ⟨rfl, hx1⟩
  have HX1 := hide (HX0.out.trans hx1)
  have k0 := (hx1.cells _ _ ks).trans k0
  have k1 := (hx1.cells _ _ ks).trans k1
  clear hx1
  cases hv : vMod ds cs with
  | false =>
    have HV := hide (show bndV ds cs = [] by rw [bndV, hv]; rfl)
    clear hv
    go_wp2
    go_ret
    rw [HV.out]
    exact OwnRes.nil_ rfl HX1.out
  | true =>
    have HV := hide (show bndV ds cs = bndR cs ds by rw [bndV, hv]; rfl)
    obtain ⟨hG, hp, h4⟩ := vMod_good hv
    have HG := hide hG
    have HBS := hide (bnd_same h4 hG)
    clear hv hG
    go_wp2_with fail
    refine (boundsI_any _ ds cs _ (hM0.out.ext HX1.out) HG.out h4 hp (TzTab.ext HT.out hb HX1.out) (Nat.lt_of_lt_of_le hb HX1.out.size)).mono ?_
    rintro e w2 hres
    have HRES := hide (show OwnRes (bndV ds cs) w e w2 by rw [HV.out]; exact OwnRes.from hres HX1.out)
    obtain ⟨A3, c3, b3, m3, f3, rfl, -⟩ := hres
    obtain ⟨L, hL⟩ : ∃ L, L = (bndR cs ds).length := ⟨_, rfl⟩
    rw [← hL] at HRES ⊢
    clear hL
    go_wp2
    go_ret
    exact HRES.out
set_option maxRecDepth 100000 in
set_option maxHeartbeats 4000000 in
theorem BoundsPropagateS_any (v : Value) (ds : List Int) (cs : List Con) (w : World) (hM : SMod w v ds cs) :
    Calls Tryd.prog 9 #[v] w (OwnRes (bndV ds cs) w) := by
  have hM0 := hide hM
  obtain ⟨ve, vc, rfl, hE, hC⟩ := hM
  obtain ⟨Ae, ce, rfl, -, hle⟩ := hE.form
  obtain ⟨Ac, cc, rfl, -, hlc⟩ := hC.form
  obtain ⟨w0, hw0⟩ : ∃ w0, w0 = w.alloc (.cells #[.slice Ae ds.length ce, .slice Ac cs.length cc] 37) := ⟨_, rfl⟩
  have hx0 : Ext w w0 := by rw [hw0]; exact (Ext.refl w).alloc _
  have k0 : w0.cell? ⟨w.heap.size, 0, none⟩ = some (.slice Ae ds.length ce) := by rw [hw0]; go_simp
  have k1 : w0.cell? ⟨w.heap.size, 1, none⟩ = some (.slice Ac cs.length cc) := by rw [hw0]; go_simp
  have ks : w.heap.size < w0.heap.size := by rw [hw0]; simp
  have HX0 := hide hx0
  have hE0 := hide hE
  have hC0 := hide hC
  clear hE hC hx0
  go_enter Tryd.func9, Tryd.ntmps9
  go_wp2_with fail
  rw [← hw0]
  clear hw0
  refine (validModelS_any _ ds cs _ (hM0.out.ext HX0.out)).mono ?_
  rintro e w1 ⟨rfl, hx1⟩
  have HX1 := hide (HX0.out.trans hx1)
  have k0 := (hx1.cells _ _ ks).trans k0
  have k1 := (hx1.cells _ _ ks).trans k1
  clear hx1
  cases hv : vMod ds cs with
  | false =>
    have HV := hide (show bndV ds cs = [] by rw [bndV, hv]; rfl)
    clear hv
    go_wp2
    go_ret
    rw [HV.out]
    exact OwnRes.nil_ rfl HX1.out
  | true =>
    have HV := hide (show bndV ds cs = bndR cs ds by rw [bndV, hv]; rfl)
    obtain ⟨hG, hp, h4⟩ := vMod_good hv
    have HG := hide hG
    have HBS := hide (bnd_same h4 hG)
    clear hv hG
    go_wp2_with fail
    refine (boundsFixpoint_any _ ds cs _ (hM0.out.ext HX1.out) HG.out h4 hp).mono ?_
    rintro e w2 hres
    rw [HBS.out] at hres
    change OwnRes (bndR cs ds) w1 e w2 at hres
    have HRES := hide (show OwnRes (bndV ds cs) w e w2 by rw [HV.out]; exact OwnRes.from hres HX1.out)
    obtain ⟨A3, c3, b3, m3, f3, rfl, -⟩ := hres
    obtain ⟨L, hL⟩ : ∃ L, L = (bndR cs ds).length := ⟨_, rfl⟩
    rw [← hL] at HRES ⊢
    clear hL
    go_wp2
    go_ret
    exact HRES.out
end Go.Proofs.YtllgicpiddapeaaDoor
