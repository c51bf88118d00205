/- Shaving: the reference's walk. -/
import Derived.Test.YtalgilgfoekioaaGreatDoorQ11
namespace Go.Proofs.YtalgilgfoekioaaGreatDoor
open Go.RowKit
attribute [local go_sem] evalOf

theorem delV_yes {d : Int} {a : Nat} (h : hasB d a = true) : delV d a = d - 2 ^ a := by unfold delV; rw [if_pos h]
set_option maxRecDepth 100000 in
set_option maxHeartbeats 8000000 in
theorem shaveOnce_any (v vd : Value) (D ds : List Int) (cs : List Con) (w : World) (hM : SMod w v D cs) (hS : SInts w vd ds) (hG : GoodD cs ds.length ds) (h4 : ds.length ≤ 4) (h1 : 0 < ds.length) :
    Calls Tryz.prog 42 #[v, vd] w (OwnRes (shvR cs ds) w) := by
  have hM0 := hide hM
  obtain ⟨ve, vc, rfl, hE, hC⟩ := hM
  have hS0 := hide hS
  obtain ⟨Ae, ce, rfl, -, hle⟩ := hE.form
  obtain ⟨Ac, cc, rfl, -, hlc⟩ := hC.form
  obtain ⟨An, cn, rfl, -, hln⟩ := hS.form
  obtain ⟨w0, hw0⟩ : ∃ w0, w0 = w.alloc (.cells #[.slice Ae D.length ce, .slice Ac cs.length cc] 26) := ⟨_, rfl⟩
  have hx0 : Ext w w0 := by rw [hw0]; exact (Ext.refl w).alloc _
  have k0 : w0.cell? ⟨w.heap.size, 0, none⟩ = some (.slice Ae D.length ce) := by rw [hw0]; go_simp
  have k1 : w0.cell? ⟨w.heap.size, 1, none⟩ = some (.slice Ac cs.length cc) := by rw [hw0]; go_simp
  have ks : w.heap.size < w0.heap.size := by rw [hw0]; simp
  have HX0 := hide hx0
  have K0 := hide k0
  have K1 := hide k1
  have HG2 := hide hG
  obtain ⟨n, hn⟩ : ∃ n, n = ds.length := ⟨_, rfl⟩
  rw [← hn] at hG h4 h1
  have HN := hide hn
  have HPR := hide (propL_R hG h4)
  clear hE hC hS hG hn hx0
  go_enter Tryz.func42, Tryz.ntmps42
  go_wp2_with fail
  rw [← hw0]
  clear hw0
  refine (fixpointS_any _ _ D ds cs _ (hM0.out.ext HX0.out) (hS0.out.ext HX0.out) HG2.out (by rw [← HN.out]; exact h4) (by rw [← HN.out]; exact h1)).mono ?_
  rintro e w1 ⟨A1, c1, b1, m1, f1, rfl, hc1, hd1, hb1, ho1, hx1⟩
  obtain ⟨p, hp⟩ : ∃ p, p = propL cs ds := ⟨_, rfl⟩
  have HP := hide hp
  rw [← hp] at hc1 hd1 ho1 HPR ⊢
  have hpl : p.length = n := HPR.out.good.1
  rw [hpl] at hc1 hd1
  obtain ⟨rfl, hr1, hm1', hf1⟩ := ho1 (by omega)
  have HRS := hide (show RowS w1 b1 m1 p from ⟨f1, hr1, hm1', hf1⟩)
  have HX1 := hide (HX0.out.trans hx1)
  have HW0 := hide hx1
  have hb1l := hr1.lt
  have hwb : w.heap.size ≤ b1 := Nat.le_trans HX0.out.size hb1
  rw [hpl]
  clear hp ho1 hr1 hf1 hx1 k0 k1
  go_wp2
  go_loopw [6] (fun i wr => ∃ k : Nat, i = .int .i64 k ∧ k ≤ n ∧ Ext w0 wr ∧ b1 < wr.heap.size ∧ RowS wr b1 m1 (shvK cs p k)) (fun i _ => n - (intOf i).toNat)
  case atStart => exact ⟨0, rfl, Nat.zero_le _, HW0.out, hb1l, HRS.out⟩
  case round =>
    obtain ⟨k, rfl, hk, hx, hbw, hrow⟩ := hrel
    have HX := hide hx
    have HROW := hide hrow
    obtain ⟨q, hq⟩ : ∃ q, q = shvK cs p k := ⟨_, rfl⟩
    have HQ := hide hq
    have HGQ := hide (show GoodD cs n q by rw [hq]; exact (shvK_ok HPR.out.good k hk).1)
    rw [← hq] at HROW
    clear hx hrow hq
    by_cases hlt : k < n
    · have hkI : (k : Int) < n := by omega
      have hql : q.length = n := HGQ.out.1
      obtain ⟨f, hr, hm', hf⟩ := HROW.out
      have fk := hr.cell (i := k) (by omega)
      rw [hf k (by omega)] at fk
      have hdb := HGQ.out.2.1 k (by omega)
      obtain ⟨d, hd⟩ : ∃ d, d = at0 q k := ⟨_, rfl⟩
      rw [← hd] at fk hdb
      have HD := hide hd
      have hdl := domL_len d
      clear hr hf hd hql
      go_wp2_with fail
      refine (domainValues_any d _ hdb.1 (by omega)).mono ?_
      rintro e w2 ⟨A2, c2, b2, m2, f2, rfl, hc2, hd2, hb2, ho2, hx2⟩
      have HO2 := hide ho2
      have HX2 := hide (HX.out.trans hx2)
      have HROW2 := hide (HROW.out.ext hx2)
      have hb2w : b1 < w2.heap.size := Nat.lt_of_lt_of_le hbw hx2.size
      have hb12 : b2 ≠ b1 := by omega
      clear ho2 hx2 fk
      go_wp2_with fail
      go_loopw [8] (fun i wr2 => ∃ t : Nat, i = .int .i64 t ∧ t ≤ (domL d).length ∧ Ext w0 wr2 ∧ RowS wr2 b1 m1 (shvI cs k (domL d) q t) ∧ Keep (fun j => j ≠ b1) w2 wr2) (fun i _ => (domL d).length - (intOf i).toNat)
      case atStart => exact ⟨0, rfl, Nat.zero_le _, HX2.out, HROW2.out, Keep.refl _ _⟩
      case round =>
        obtain ⟨t, rfl, ht, hxt, hrt, hkt⟩ := hrel
        have HXT := hide hxt
        have HKT := hide hkt
        obtain ⟨r, hr⟩ : ∃ r, r = shvI cs k (domL d) q t := ⟨_, rfl⟩
        have HRR := hide hr
        have HGR := hide (show GoodD cs n r by rw [hr]; exact (shvI_ok HGQ.out hlt d t ht).1)
        rw [← hr] at hrt
        have HRT := hide hrt
        clear hr hrt
        by_cases htl : t < (domL d).length
        · have htI : (t : Int) < (domL d).length := by omega
          obtain ⟨rfl, hr2, hm2', hf2⟩ := HO2.out (by omega)
          obtain ⟨a, ha, ha6⟩ := domL_val d htl
          have fa := (hkt.row hb12 hr2).cell (i := t) (by omega)
          rw [hf2 t htl, ha] at fa
          have hb2t := (hkt.row hb12 hr2).lt
          have HA := hide ha
          have hrl : r.length = n := HGR.out.1
          have HSR := hide (show SInts _ (.slice (some ⟨b1, 0, none⟩) n c1) r by
            have := HRT.out.sints (c := c1) (by omega) (by omega) HGR.out.i64
            rwa [hrl] at this)
          have g0 := (hxt.cells _ _ ks).trans K0.out
          have g1 := (hxt.cells _ _ ks).trans K1.out
          have gs := Nat.lt_of_lt_of_le ks hxt.size
          have HPL := hide (probL_R2 HGR.out h4 hlt ha6)
          have HRG := hide (show GoodD cs r.length r by rw [hrl]; exact HGR.out)
          obtain ⟨W3, rfl⟩ : ∃ W3, W3 = wr := ⟨wr, rfl⟩
          clear hxt hkt hr2 hf2 ha
          go_wp2_with fail
          refine wp_region_relT (n := 9) (ts := []) (sp := [RS.q [] (fun _ => .agg #[.slice Ae D.length ce, .slice Ac cs.length cc]), RS.q [] (fun _ => .slice (some ⟨b1, 0, none⟩) n c1), RS.q [] (fun _ => .int .i64 k), RS.q [] (fun _ => .slice (some ⟨b2, 0, none⟩) (domL d).length c2), RS.q [] (fun _ => .int .i64 t), RS.q [3, 4] (fun _ => .pointer (some ⟨b2, t, none⟩)), RS.q [5] (fun _ => .int .i64 a), RS.ow [0, 1, 2, 6] (probL cs r k a) W3, RS.q [7] (fun _ => .bool (hasI (probL cs r k a) 0))])
            (fun W => Ext W3 W) (by kernel_rfl) (relOK (D := [[], [], [], [], [], [3, 4], [5], [0, 1, 2, 6], [7]]) rfl (by kernel_rfl) rfl) (by kernel_rfl) (fun W W' h hx => h.trans hx) (Ext.refl W3).drew ?steps ?ends
          case steps =>
            refine ⟨?_, ?_, ?_, ?_, ?_, ?_, ?_, ?_, ?_, trivial⟩
            · intro V τ W hC hf ht h0
              have s2 : τ 2 = .pointer (some ⟨w.heap.size, 0, none⟩) := h0 2 (by kernel_rfl)
              have g0 := (hC.cells _ _ gs).trans g0
              have g1 := (hC.cells _ _ gs).trans g1
              refine Does.val (w' := W) (v := .agg #[.slice Ae D.length ce, .slice Ac cs.length cc]) ?_ ⟨Ext.refl W, rfl⟩
              go_simp
            · intro V τ W hC hf ht h0
              have s5 : τ 5 = .slice (some ⟨b1, 0, none⟩) n c1 := h0 5 (by kernel_rfl)
              refine Does.val (w' := W) (v := .slice (some ⟨b1, 0, none⟩) n c1) ?_ ⟨Ext.refl W, rfl⟩
              go_simp
            · intro V τ W hC hf ht h0
              have s6 : τ 6 = .int .i64 k := h0 6 (by kernel_rfl)
              refine Does.val (w' := W) (v := .int .i64 k) ?_ ⟨Ext.refl W, rfl⟩
              go_simp
            · intro V τ W hC hf ht h0
              have s7 : τ 7 = .slice (some ⟨b2, 0, none⟩) (domL d).length c2 := h0 7 (by kernel_rfl)
              refine Does.val (w' := W) (v := .slice (some ⟨b2, 0, none⟩) (domL d).length c2) ?_ ⟨Ext.refl W, rfl⟩
              go_simp
            · intro V τ W hC hf ht h0
              have s8 : τ 8 = .int .i64 t := h0 8 (by kernel_rfl)
              refine Does.val (w' := W) (v := .int .i64 t) ?_ ⟨Ext.refl W, rfl⟩
              go_simp
            · intro V τ W hC hf ht h0
              have f3 : V 3 = .slice (some ⟨b2, 0, none⟩) (domL d).length c2 := hf 3 (by simp [RS.at_, RS.q])
              have f4 : V 4 = .int .i64 t := hf 4 (by simp [RS.at_, RS.q])
              have s32 := (ht 3 (by simp [RS.at_, RS.q]) 32 rfl).trans f3
              have s33 := (ht 4 (by simp [RS.at_, RS.q]) 33 rfl).trans f4
              refine Does.val (w' := W) (v := .pointer (some ⟨b2, t, none⟩)) ?_ ⟨Ext.refl W, rfl⟩
              go_simp
            · intro V τ W hC hf ht h0
              have f5 : V 5 = .pointer (some ⟨b2, t, none⟩) := hf 5 (by simp [RS.at_, RS.q])
              have s34 := (ht 5 (by simp [RS.at_, RS.q]) 34 rfl).trans f5
              have fa := (hC.cells _ _ hb2t).trans fa
              refine Does.val (w' := W) (v := .int .i64 a) ?_ ⟨Ext.refl W, rfl⟩
              go_simp
            · intro V τ W hC hf ht h0
              have f0 : V 0 = .agg #[.slice Ae D.length ce, .slice Ac cs.length cc] := hf 0 (by simp [RS.at_, RS.ow])
              have f1 : V 1 = .slice (some ⟨b1, 0, none⟩) n c1 := hf 1 (by simp [RS.at_, RS.ow])
              have f2 : V 2 = .int .i64 k := hf 2 (by simp [RS.at_, RS.ow])
              have f6 : V 6 = .int .i64 a := hf 6 (by simp [RS.at_, RS.ow])
              have s29 := (ht 0 (by simp [RS.at_, RS.ow]) 29 rfl).trans f0
              have s30 := (ht 1 (by simp [RS.at_, RS.ow]) 30 rfl).trans f1
              have s31 := (ht 2 (by simp [RS.at_, RS.ow]) 31 rfl).trans f2
              have s35 := (ht 6 (by simp [RS.at_, RS.ow]) 35 rfl).trans f6
              have hXW := (HX0.out.trans HXT.out).trans hC
              refine Does.call (w' := W) (f := 72) (args := #[.agg #[.slice Ae D.length ce, .slice Ac cs.length cc], .slice (some ⟨b1, 0, none⟩) n c1, .int .i64 k, .int .i64 a]) (by go_simp; all_goals (first | exact rfl | (apply And.intro <;> exact rfl))) ?_
              refine (probeS_any _ _ D r cs k a _ (hM0.out.ext hXW) (HSR.out.ext hC) HRG.out (by rw [hrl]; exact hlt) ha6 (by rw [hrl]; exact h4)).mono ?_
              rintro e wa hres
              have hr2 := OwnRes.from hres hC
              obtain ⟨A3, c3, b3, m3, f3, rfl, -, -, -, -, hxa⟩ := hres
              exact ⟨_, rfl, hxa, hr2⟩
            · intro V τ W hC hf ht h0
              have f7 : OwnRes (probL cs r k a) W3 (.returned (V 7)) W := hf 7 (by simp [RS.at_, RS.q])
              have s36 : τ 36 = V 7 := ht 7 (by simp [RS.at_, RS.q]) 36 rfl
              refine Does.call (w' := W) (f := 19) (args := #[V 7]) (by go_simp; all_goals (first | exact rfl | (apply And.intro <;> exact rfl))) ?_
              refine (hasEmpty_any _ (probL cs r k a) _ (f7.ints HPL.out.good.i64)).mono ?_
              rintro e wa ⟨rfl, rfl⟩
              exact ⟨_, rfl, Ext.refl _, rfl⟩
          case ends =>
            intro V W hC hf
            have f0 : V 0 = .agg #[.slice Ae D.length ce, .slice Ac cs.length cc] := hf 0 (by omega)
            have e1 : V 1 = .slice (some ⟨b1, 0, none⟩) n c1 := hf 1 (by omega)
            have e2 : V 2 = .int .i64 k := hf 2 (by omega)
            have e3 : V 3 = .slice (some ⟨b2, 0, none⟩) (domL d).length c2 := hf 3 (by omega)
            have e4 : V 4 = .int .i64 t := hf 4 (by omega)
            have e5 : V 5 = .pointer (some ⟨b2, t, none⟩) := hf 5 (by omega)
            have e6 : V 6 = .int .i64 a := hf 6 (by omega)
            obtain ⟨A8, c8, e7⟩ := (show OwnRes (probL cs r k a) W3 (.returned (V 7)) W from hf 7 (by omega)).form
            have e8 : V 8 = .bool (hasI (probL cs r k a) 0) := hf 8 (by omega)
            obtain ⟨L, hL⟩ : ∃ L, L = (probL cs r k a).length := ⟨_, rfl⟩
            rw [← hL] at e7
            clear hf hL
            simp only [List.take_succ_cons, List.take_zero, putAll, Act.put, List.setIfInBounds_toArray, List.set_cons_succ, List.set_cons_zero, Nat.reduceAdd, f0, e1, e2, e3, e4, e5, e6, e7, e8]
            simp only [nths]
            clear f0 e1 e2 e3 e4 e5 e6 e7 e8
            have HX3 := hide (HXT.out.trans hC)
            have HRT3 := hide (HRT.out.ext hC)
            have HKT3 := hide (HKT.out.ext hC)
            have fa := (hC.cells _ _ hb2t).trans fa
            have hb2t := Nat.lt_of_lt_of_le hb2t hC.size
            clear hC g0 g1
            cases hzz : hasI (probL cs r k a) 0 with
            | false =>
              have HNX := hide (shvI_succ_no (cs := cs) (v := k) (l := domL d) (ds := q) (k := t) HA.out (by rw [← HRR.out]; exact hzz))
              clear hzz
              go_wp2
              go_roundw
              case rel => exact ⟨t + 1, by go_num, by omega, HX3.out, by rw [HNX.out, ← HRR.out]; exact HRT3.out, HKT3.out⟩
              case measure => simp [intOf]; omega
            | true =>
              have HNX := hide (shvI_succ_yes (cs := cs) (v := k) (l := domL d) (ds := q) (k := t) HA.out (by rw [← HRR.out]; exact hzz))
              obtain ⟨f5, hr5, hm5, hf5⟩ := HRT3.out
              have fk := hr5.cell (i := k) (by omega)
              rw [hf5 k (by omega)] at fk
              have fz := hr5.frozen k
              have hbl := hr5.lt
              have hyb := HGR.out.2.1 k (by omega)
              have hyh := shvI_has HGQ.out hlt t t (Nat.le_refl _) (by rw [← HD.out]; exact htl)
              rw [← HD.out, HA.out, Int.toNat_natCast, ← HRR.out] at hyh
              obtain ⟨y, hy⟩ : ∃ y, y = at0 r k := ⟨_, rfl⟩
              rw [← hy] at fk hyb hyh
              have HY := hide hy
              have hpw := pow_bd ha6
              have hdv := delV_yes hyh
              have hdb2 := delV_bd hyb.1 hyb.2 ha6
              have HDV := hide hdv
              rw [hdv] at hdb2
              have kp : IntKind.i64.wrap (2 ^ a) = 2 ^ a := IntWalk.i64_in _ (by omega)
              have kb : IntKind.i64.wrap (y - 2 ^ a) = y - 2 ^ a := IntWalk.i64_in _ (by omega)
              have hkr : k < r.length := by omega
              clear hr5 hf5 hy hzz hyh hdv
              go_wp2
              refine wp_region_ext_tail 13 (by kernel_rfl) (by kernel_rfl) ?_
              simp only [List.take_succ_cons, List.take_zero, List.drop_succ_cons, List.drop_zero]
              iterate 13 (apply quiet_val; (focus rfl); (focus (intro w' hw'; have hk' := hw'.cells; go_simp; all_goals exact rfl)); simp only [Act.put, List.setIfInBounds_toArray, List.set_cons_succ, List.set_cons_zero])
              refine wpQuiet_nil ?_
              intro w5 hx5
              have HX5 := hide (HX3.out.trans hx5)
              have HRT5 := hide (HRT3.out.ext hx5)
              have HKT5 := hide (HKT3.out.ext hx5)
              have fz := (hx5.frz _ _ hbl).trans fz
              have fk := (hx5.cells _ _ hbl).trans fk
              clear hx5 fa
              try simp only [kp, kb]
              go_wp2
              go_roundw
              case rel => exact ⟨t + 1, by go_num, by omega, HX5.out.set (p := ⟨b1, k, none⟩) hb1 _, by rw [HNX.out, ← HRR.out, ← HY.out, HDV.out]; exact HRT5.out.set k _ hkr, HKT5.out.set (fun _ hh => hh rfl) _⟩
              case measure => simp [intOf]; omega
        · obtain rfl : t = (domL d).length := by omega
          have htI : ¬ (((domL d).length : Int) < (domL d).length) := by omega
          have HNX := hide (show shvK cs p (k + 1) = r by rw [shvK, ← HQ.out, ← HD.out, HRR.out])
          have hbt := Nat.lt_of_lt_of_le hb2w HKT.out.size
          go_wp2
          go_roundw
          case rel => exact ⟨k + 1, by go_num, by omega, HXT.out, hbt, by rw [HNX.out]; exact HRT.out⟩
          case measure => simp [intOf]; omega
    · obtain rfl : k = n := by omega
      have hkI : ¬ ((k : Int) < k) := by omega
      have hql : q.length = k := HGQ.out.1
      have HSQ := hide (show SInts wr (.slice (some ⟨b1, 0, none⟩) k c1) q by
        have := HROW.out.sints (c := c1) (by omega) (by omega) HGQ.out.i64
        rwa [hql] at this)
      have HEQ := hide (show shvR cs ds = propL cs q by rw [HQ.out, shvR, shvL, ← HP.out, hpl])
      have g0 := (HX.out.cells _ _ ks).trans K0.out
      have g1 := (HX.out.cells _ _ ks).trans K1.out
      go_wp2_with fail
      refine (fixpointS_any _ _ D q cs _ (hM0.out.ext (HX0.out.trans HX.out)) HSQ.out (by rw [hql]; exact HGQ.out) (by rw [hql]; exact h4) (by rw [hql]; exact h1)).mono ?_
      rintro e w9 hres
      have HRES := hide (show OwnRes (shvR cs ds) w e w9 by rw [HEQ.out]; exact OwnRes.from hres (HX0.out.trans HX.out))
      obtain ⟨A9, c9, b9, m9, f9, rfl, -⟩ := hres
      obtain ⟨L, hL⟩ : ∃ L, L = (propL cs q).length := ⟨_, rfl⟩
      rw [← hL] at HRES ⊢
      clear hL
      go_wp2
      go_ret
      exact HRES.out
set_option maxRecDepth 100000 in
set_option maxHeartbeats 8000000 in
theorem shaveS_any (v : Value) (ds : List Int) (cs : List Con) (w : World) (hM : SMod w v ds cs) (hG : GoodD cs ds.length ds) (h4 : ds.length ≤ 4) (h1 : 0 < ds.length) :
    Calls Tryz.prog 18 #[v] w (OwnRes (shaveL cs ds) w) := by
  have hM0 := hide hM
  obtain ⟨ve, vc, rfl, hE, hC⟩ := hM
  have HG := hide hG
  obtain ⟨Ae, ce, rfl, -, hle⟩ := hE.form
  obtain ⟨Ac, cc, rfl, -, hlc⟩ := hC.form
  obtain ⟨w0, hw0⟩ : ∃ w0, w0 = w.alloc (.cells #[.slice Ae ds.length ce, .slice Ac cs.length cc] 26) := ⟨_, rfl⟩
  have hx0 : Ext w w0 := by rw [hw0]; exact (Ext.refl w).alloc _
  have k0 : w0.cell? ⟨w.heap.size, 0, none⟩ = some (.slice Ae ds.length ce) := by rw [hw0]; go_simp
  have k1 : w0.cell? ⟨w.heap.size, 1, none⟩ = some (.slice Ac cs.length cc) := by rw [hw0]; go_simp
  have ks : w.heap.size < w0.heap.size := by rw [hw0]; simp
  have HX0 := hide hx0
  have K0 := hide k0
  have K1 := hide k1
  have hE0 := hide (hE.ext hx0)
  clear hE hC hx0 hG k1
  go_enter Tryz.func18, Tryz.ntmps18
  go_wp2_with fail
  rw [← hw0]
  clear hw0
  refine (copyInts_any _ ds _ hE0.out h1).mono ?_
  rintro e w1 ⟨A1, c1, b1, m1, f1, rfl, hc1, hb1, hn1, ho1, hx1⟩
  have HO := hide (show OwnRes ds w0 (.returned (.slice A1 ds.length c1)) w1 from ⟨A1, c1, b1, m1, f1, rfl, hc1, hb1, hn1, ho1, hx1⟩)
  obtain ⟨n, hn⟩ : ∃ n, n = ds.length := ⟨_, rfl⟩
  have HN := hide hn
  have HG2 := hide (show GoodD cs n ds by rw [hn]; exact HG.out)
  rw [← hn] at h4 h1 HO ⊢
  clear hn ho1 hx1 hb1 hn1 k0
  go_wp2_with fail
  go_loopg [3] 300 (fun gk v wr => ∃ (now : List Int) (j : Nat), OwnRes now w0 (.returned v) wr ∧ GoodD cs n now ∧ itr (shvR cs) j ds = now ∧ sumL now < gk)
  case atStart => exact ⟨ds, 0, HO.out, HG2.out, rfl, by have := sumL_bd ds HG2.out.2.1; have := HN.out; omega⟩
  case round =>
    obtain ⟨now, j, how, hgn, hit, hsum⟩ := hrel
    obtain ⟨A, cc2, rfl⟩ := how.form
    have HOW := hide how
    have HGN := hide hgn
    have HIT := hide hit
    have HS := hide (how.ints hgn.i64)
    have hx := how.ext0
    have HX := hide hx
    have k0 := (hx.cells _ _ ks).trans K0.out
    have k1 := (hx.cells _ _ ks).trans K1.out
    have hsb := (sumL_bd now hgn.2.1).1
    obtain ⟨k, rfl⟩ : ∃ k, gk = k + 1 := ⟨gk - 1, by omega⟩
    have hnl : now.length = n := hgn.1
    rw [hnl] at HS HOW ⊢
    clear hgn hit hx how
    go_wp2_with fail
    refine (shaveOnce_any _ _ ds now cs _ (hM0.out.ext (HX0.out.trans HX.out)) HS.out (by rw [hnl]; exact HGN.out) (by rw [hnl]; exact h4) (by rw [hnl]; exact h1)).mono ?_
    rintro e w3 hres
    have hst := shvR_ok (cs := cs) h4
    have HGS := hide (hst.stay now HGN.out)
    have hsl : (shvR cs now).length = n := HGS.out.1
    have HO3 := hide (show OwnRes (shvR cs now) w0 e w3 from OwnRes.from hres HX.out)
    obtain ⟨A3, c3, b3, m3, f3, rfl, hc3, hd3, hb3, ho3, hx3⟩ := hres
    have HS3 := hide (SInts.own hc3 hd3 ho3 HGS.out.i64)
    have HOW3 := hide (HOW.out.grow hx3)
    have HSW := hide (HS.out.ext hx3)
    have HSUB := hide (hst.sub now HGN.out)
    rw [hsl] at HS3 HO3 ⊢
    clear hc3 hd3 hb3 ho3 hx3 hst k0 k1
    go_wp2_with fail
    refine (equalIntsS_any _ _ (shvR cs now) now _ HS3.out HSW.out).mono ?_
    rintro e w4 ⟨rfl, hx4⟩
    have HX4 := hide hx4
    clear hx4
    by_cases he : shvR cs now = now
    · have HE := hide (shave_eq h4 h1 HG2.out HIT.out he)
      rw [decide_eq_true he]
      clear he
      go_wp2
      go_ret
      rw [← HE.out]
      exact (HOW3.out.grow HX4.out).from HX0.out
    · have hlt := SubD.sum HGS.out.2.1 HGN.out.2.1 HSUB.out he
      have HIT2 := hide (show itr (shvR cs) (j + 1) ds = shvR cs now by rw [itr, HIT.out])
      rw [decide_eq_false he]
      clear he
      go_wp2
      go_roundg k
      case measure => omega
      case rel => exact ⟨shvR cs now, j + 1, HO3.out.grow HX4.out, HGS.out, HIT2.out, by omega⟩
end Go.Proofs.YtalgilgfoekioaaGreatDoor
