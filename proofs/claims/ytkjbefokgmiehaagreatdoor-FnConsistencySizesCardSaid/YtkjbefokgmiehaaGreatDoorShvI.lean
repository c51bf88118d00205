/- Shaving: the program's walk. -/
import Derived.Test.YtkjbefokgmiehaaGreatDoorPrbZ
import Derived.Test.YtkjbefokgmiehaaGreatDoorPrpZ
import Derived.Test.YtkjbefokgmiehaaGreatDoorSpD
namespace Go.Proofs.YtkjbefokgmiehaaGreatDoor
open Go.RowKit
attribute [local go_sem] evalOf

/-- Block b holds xs at its head. -/
def RowS (W : World) (b m : Nat) (xs : List Int) : Prop := ∃ f, W.rowIs b 3 m f ∧ xs.length ≤ m ∧ ∀ j, j < xs.length → f j = .int .i64 (at0 xs j)
theorem RowS.ext {W W' : World} {b m : Nat} {xs : List Int} (h : RowS W b m xs) (hx : Ext W W') : RowS W' b m xs := by
  obtain ⟨f, h1, h2, h3⟩ := h
  exact ⟨f, hx.row h1, h2, h3⟩
theorem RowS.keep {S : Nat → Prop} {W W' : World} {b m : Nat} {xs : List Int} (h : RowS W b m xs) (hk : Keep S W W') (hb : S b) : RowS W' b m xs := by
  obtain ⟨f, h1, h2, h3⟩ := h
  exact ⟨f, hk.row hb h1, h2, h3⟩
theorem RowS.set {W : World} {b m : Nat} {xs : List Int} (h : RowS W b m xs) (i : Nat) (x : Int) (hi : i < xs.length) : RowS (W.setCell ⟨b, i, none⟩ (.int .i64 x)) b m (xs.set i x) := by
  obtain ⟨f, h1, h2, h3⟩ := h
  refine ⟨_, h1.set i _, by rw [List.length_set]; exact h2, fun j hj => ?_⟩
  rw [List.length_set] at hj
  show (if j = i then _ else f j) = _
  rw [at0_set _ _ _ _ hi]
  by_cases e : j = i
  · subst e; rw [if_pos rfl, if_pos rfl]
  · rw [if_neg e, if_neg (fun h => e h.symm)]; exact h3 j hj
theorem RowS.sints {W : World} {b m c : Nat} {xs : List Int} (h : RowS W b m xs) (hc : xs.length ≤ c) (h8 : xs.length * 8 ≤ 140737488355328) (hb : ∀ i, i < xs.length → I64 (at0 xs i)) : SInts W (.slice (some ⟨b, 0, none⟩) xs.length c) xs := by
  obtain ⟨f, h1, h2, h3⟩ := h
  exact SInts.own (b := b) (m := m) (f := f) hc h8 (fun _ => ⟨rfl, h1, h2, h3⟩) hb
theorem RowS.own {w W : World} {b m c : Nat} {xs : List Int} (h : RowS W b m xs) (hc : xs.length ≤ c) (h8 : xs.length * 8 ≤ 140737488355328) (hb : w.heap.size ≤ b) (hx : Ext w W) : OwnRes xs w (.returned (.slice (some ⟨b, 0, none⟩) xs.length c)) W := by
  obtain ⟨f, h1, h2, h3⟩ := h
  exact ⟨_, c, b, m, f, rfl, hc, h8, hb, fun _ => ⟨rfl, h1, h2, h3⟩, hx⟩
theorem shvI_succ_yes {cs : List Con} {v : Nat} {l ds : List Int} {k a : Nat} (ha : at0 l k = a) (h : hasI (probL cs (shvI cs v l ds k) v a) 0 = true) : shvI cs v l ds (k + 1) = (shvI cs v l ds k).set v (delV (at0 (shvI cs v l ds k) v) a) := by
  rw [shvI, ha, Int.toNat_natCast, if_pos h]
theorem shvI_succ_no {cs : List Con} {v : Nat} {l ds : List Int} {k a : Nat} (ha : at0 l k = a) (h : hasI (probL cs (shvI cs v l ds k) v a) 0 = false) : shvI cs v l ds (k + 1) = shvI cs v l ds k := by
  rw [shvI, ha, Int.toNat_natCast, h, if_neg (by simp)]
theorem probL_R2 {cs : List Con} {n : Nat} {ds : List Int} (h : GoodD cs n ds) (h4 : n ≤ 4) {v a : Nat} (hv : v < n) (ha : a < 6) : PropR cs n (probD ds v a) (probL cs ds v a) := propL_R (h.prob hv ha) h4
theorem probL_first2 {cs : List Con} {n : Nat} {ds : List Int} (h : GoodD cs n ds) (h4 : n ≤ 4) (h0 : 0 < n) {v a : Nat} (hv : v < n) (ha : a < 6) : (at0 (probL cs ds v a) 0 == 0) = hasI (probL cs ds v a) 0 := propL_first (h.prob hv ha) h4 h0
set_option maxRecDepth 100000 in
set_option maxHeartbeats 8000000 in
theorem shave1_any (Ae Ac : Option Addr) (ce cc bm : Nat) (v' : Value) (ds now : List Int) (cs : List Con) (w : World) (hm0 : w.cell? ⟨bm, 0, none⟩ = some (.slice Ae ds.length ce)) (hm1 : w.cell? ⟨bm, 1, none⟩ = some (.slice Ac cs.length cc)) (hbm : bm < w.heap.size)
    (hM : SMod w (.agg #[.slice Ae ds.length ce, .slice Ac cs.length cc]) ds cs) (hS : SInts w v' now) (hG : GoodD cs now.length now) (h4 : now.length ≤ 4) (h1 : 0 < now.length) :
    Calls Tryz.prog 69 #[v', .pointer (some ⟨bm, 0, none⟩)] w (OwnRes (shvP cs now) w) := by
  have hM0 := hide hM
  have hS0 := hide hS
  have M0 := hide hm0
  have M1 := hide hm1
  obtain ⟨n, hn⟩ : ∃ n, n = now.length := ⟨_, rfl⟩
  rw [← hn] at hG h4 h1
  have HN := hide hn
  have HPR := hide (propL_R hG h4)
  have HG2 := hide (show GoodD cs now.length now by rw [← hn]; exact hG)
  obtain ⟨An, cn, rfl, -, hln⟩ := hS.form
  clear hM hS hG hn
  go_enter Tryz.func69, Tryz.ntmps69
  go_wp2_with fail
  refine (propagate_any _ _ ds now cs _ hM0.out hS0.out HG2.out (by rw [← HN.out]; exact h4) (by rw [← HN.out]; exact h1)).mono ?_
  rintro e w1 ⟨A1, c1, b1, m1, f1, rfl, hc1, hd1, hb1, ho1, hx1⟩
  obtain ⟨p, hp⟩ : ∃ p, p = propL cs now := ⟨_, rfl⟩
  have HP := hide hp
  rw [← hp] at hc1 hd1 ho1 HPR ⊢
  have hpl : p.length = n := HPR.out.good.1
  rw [hpl] at hc1 hd1
  obtain ⟨rfl, hr1, hm1', hf1⟩ := ho1 (by omega)
  have HRS := hide (show RowS w1 b1 m1 p from ⟨f1, hr1, hm1', hf1⟩)
  have HX1 := hide hx1
  have hb1l := hr1.lt
  rw [hpl]
  clear hp ho1 hr1 hf1 hx1 hm0 hm1
  go_wp2
  go_loopw [12] (fun i wr => ∃ k : Nat, i = .int .i64 k ∧ k ≤ n ∧ Ext w wr ∧ b1 < wr.heap.size ∧ RowS wr b1 m1 (shvK cs p k)) (fun i _ => n - (intOf i).toNat)
  case atStart => exact ⟨0, rfl, Nat.zero_le _, HX1.out, hb1l, HRS.out⟩
  case round =>
    obtain ⟨k, rfl, hk, hx, hbw, hrow⟩ := hrel
    have HX := hide hx
    have HROW := hide hrow
    obtain ⟨q, hq⟩ : ∃ q, q = shvK cs p k := ⟨_, rfl⟩
    have HQ := hide hq
    have HGQ := hide (show GoodD cs n q by rw [hq]; exact (shvK_ok HPR.out.good k hk).1)
    rw [← hq] at HROW
    clear hx hrow hq
    by_cases hlt : k < n
    · have hkI : (k : Int) < n := by omega
      have hql : q.length = n := HGQ.out.1
      obtain ⟨f, hr, hm', hf⟩ := HROW.out
      have fk := hr.cell (i := k) (by omega)
      rw [hf k (by omega)] at fk
      have hdb := HGQ.out.2.1 k (by omega)
      obtain ⟨d, hd⟩ : ∃ d, d = at0 q k := ⟨_, rfl⟩
      rw [← hd] at fk hdb
      have HD := hide hd
      have hdl := domL_len d
      clear hr hf hd hql
      go_wp2_with fail
      refine (valuesOf_any d _ hdb.1 (by omega)).mono ?_
      rintro e w2 ⟨A2, c2, b2, m2, f2, rfl, hc2, hd2, hb2, ho2, hx2⟩
      have HO2 := hide ho2
      have HX2 := hide (HX.out.trans hx2)
      have HROW2 := hide (HROW.out.ext hx2)
      have hb2w : b1 < w2.heap.size := Nat.lt_of_lt_of_le hbw hx2.size
      have hb12 : b2 ≠ b1 := by omega
      clear ho2 hx2 fk
      go_wp2_with fail
      go_loopw [21] (fun i wr2 => ∃ t : Nat, i = .int .i64 t ∧ t ≤ (domL d).length ∧ Ext w wr2 ∧ RowS wr2 b1 m1 (shvI cs k (domL d) q t) ∧ Keep (fun j => j ≠ b1) w2 wr2) (fun i _ => (domL d).length - (intOf i).toNat)
      case atStart => exact ⟨0, rfl, Nat.zero_le _, HX2.out, HROW2.out, Keep.refl _ _⟩
      case round =>
        obtain ⟨t, rfl, ht, hxt, hrt, hkt⟩ := hrel
        have HXT := hide hxt
        have HKT := hide hkt
        obtain ⟨r, hr⟩ : ∃ r, r = shvI cs k (domL d) q t := ⟨_, rfl⟩
        have HRR := hide hr
        have HGR := hide (show GoodD cs n r by rw [hr]; exact (shvI_ok HGQ.out hlt d t ht).1)
        rw [← hr] at hrt
        have HRT := hide hrt
        clear hr hrt
        by_cases htl : t < (domL d).length
        · have htI : (t : Int) < (domL d).length := by omega
          obtain ⟨rfl, hr2, hm2', hf2⟩ := HO2.out (by omega)
          obtain ⟨a, ha, ha6⟩ := domL_val d htl
          have fa := (hkt.row hb12 hr2).cell (i := t) (by omega)
          rw [hf2 t htl, ha] at fa
          have hb2t := (hkt.row hb12 hr2).lt
          have HA := hide ha
          have hrl : r.length = n := HGR.out.1
          have HSR := hide (show SInts _ (.slice (some ⟨b1, 0, none⟩) n c1) r by
            have := HRT.out.sints (c := c1) (by omega) (by omega) HGR.out.i64
            rwa [hrl] at this)
          have g0 := (hxt.cells _ _ hbm).trans M0.out
          have g1 := (hxt.cells _ _ hbm).trans M1.out
          have HF := hide (probL_first2 HGR.out h4 h1 hlt ha6)
          have HPL := hide (probL_R2 HGR.out h4 hlt ha6).good.1
          have HRG := hide (show GoodD cs r.length r by rw [hrl]; exact HGR.out)
          clear hxt hkt hr2 hf2 ha
          go_wp2_with fail
          refine (probeI_any _ _ ds r cs k a _ (hM0.out.ext HXT.out) HSR.out HRG.out (by rw [hrl]; exact hlt) ha6 (by rw [hrl]; exact h4)).mono ?_
          rintro e w3 ⟨A3, c3, b3, m3, f3, rfl, hc3, hd3, hb3, ho3, hx3⟩
          have hl3 := HPL.out
          obtain ⟨rfl, hr3, hm3', hf3⟩ := ho3 (by omega)
          have fc := hr3.cell (i := 0) (by omega)
          rw [hf3 0 (by omega)] at fc
          obtain ⟨z, hz⟩ : ∃ z, z = at0 (probL cs r k a) 0 := ⟨_, rfl⟩
          have HF2 := hide (show (z == 0) = hasI (probL cs r k a) 0 by rw [hz]; exact HF.out)
          rw [← hz] at fc
          have HX3 := hide (HXT.out.trans hx3)
          have HRT3 := hide (HRT.out.ext hx3)
          have HKT3 := hide (HKT.out.ext hx3)
          have fa := (hx3.cells _ _ hb2t).trans fa
          rw [hl3]
          clear hz hr3 hf3 ho3 hl3 hx3 g0 g1
          cases hzz : (z == 0) with
          | false =>
            have HNX := hide (shvI_succ_no (cs := cs) (v := k) (l := domL d) (ds := q) (k := t) HA.out (by rw [← HRR.out, ← HF2.out]; exact hzz))
            go_wp2
            go_roundw
            case rel => exact ⟨t + 1, by go_num, by omega, HX3.out, by rw [HNX.out, ← HRR.out]; exact HRT3.out, HKT3.out⟩
            case measure => simp [intOf]; omega
          | true =>
            have HNX := hide (shvI_succ_yes (cs := cs) (v := k) (l := domL d) (ds := q) (k := t) HA.out (by rw [← HRR.out, ← HF2.out]; exact hzz))
            obtain ⟨f5, hr5, hm5, hf5⟩ := HRT3.out
            have fk := hr5.cell (i := k) (by omega)
            rw [hf5 k (by omega)] at fk
            have fz := hr5.frozen k
            have hbl := hr5.lt
            have hyb := HGR.out.2.1 k (by omega)
            obtain ⟨y, hy⟩ : ∃ y, y = at0 r k := ⟨_, rfl⟩
            rw [← hy] at fk hyb
            have HY := hide hy
            have hpw := pow_bd ha6
            have kp : IntKind.i64.wrap (2 ^ a) = 2 ^ a := IntWalk.i64_in _ (by omega)
            have kb := bits_andNot hyb.1 hyb.2 ha6
            have hkr : k < r.length := by omega
            clear hr5 hf5 hy
            go_wp2
            refine wp_region_ext_tail 8 (by kernel_rfl) (by kernel_rfl) ?_
            simp only [List.take_succ_cons, List.take_zero, List.drop_succ_cons, List.drop_zero]
            iterate 8 (apply quiet_val; (focus rfl); (focus (intro w' hw'; have hk' := hw'.cells; go_simp; all_goals exact rfl)); simp only [Act.put, List.setIfInBounds_toArray, List.set_cons_succ, List.set_cons_zero])
            refine wpQuiet_nil ?_
            intro w5 hx5
            have HX5 := hide (HX3.out.trans hx5)
            have HRT5 := hide (HRT3.out.ext hx5)
            have HKT5 := hide (HKT3.out.ext hx5)
            have fz := (hx5.frz _ _ hbl).trans fz
            have fk := (hx5.cells _ _ hbl).trans fk
            clear hx5 fa fc
            try simp only [kp, kb]
            go_wp2
            go_roundw
            case rel => exact ⟨t + 1, by go_num, by omega, HX5.out.set (p := ⟨b1, k, none⟩) hb1 _, by rw [HNX.out, ← HRR.out, ← HY.out]; exact HRT5.out.set k _ hkr, HKT5.out.set (fun _ hh => hh rfl) _⟩
            case measure => simp [intOf]; omega
        · obtain rfl : t = (domL d).length := by omega
          have htI : ¬ (((domL d).length : Int) < (domL d).length) := by omega
          have HNX := hide (show shvK cs p (k + 1) = r by rw [shvK, ← HQ.out, ← HD.out, HRR.out])
          have hbt := Nat.lt_of_lt_of_le hb2w HKT.out.size
          go_wp2
          go_roundw
          case rel => exact ⟨k + 1, by go_num, by omega, HXT.out, hbt, by rw [HNX.out]; exact HRT.out⟩
          case measure => simp [intOf]; omega
    · obtain rfl : k = n := by omega
      have hkI : ¬ ((k : Int) < k) := by omega
      have HE := hide (show OwnRes (shvP cs now) w (.returned (.slice (some ⟨b1, 0, none⟩) k c1)) wr by
        have hql : q.length = k := HGQ.out.1
        have e : shvP cs now = q := by rw [HQ.out, shvP, shvL, ← HP.out, hpl]
        rw [e]
        have := HROW.out.own (w := w) (c := c1) (by omega) (by omega) hb1 HX.out
        rwa [hql] at this)
      go_wp2
      go_ret
      exact HE.out
set_option maxRecDepth 100000 in
set_option maxHeartbeats 8000000 in
theorem shaveI_any (v : Value) (ds : List Int) (cs : List Con) (w : World) (hM : SMod w v ds cs) (hG : GoodD cs ds.length ds) (h4 : ds.length ≤ 4) (h1 : 0 < ds.length) :
    Calls Tryz.prog 35 #[v] w (OwnRes (shaveL cs ds) w) := by
  have hM0 := hide hM
  obtain ⟨ve, vc, rfl, hE, hC⟩ := hM
  have HG := hide hG
  obtain ⟨Ae, ce, rfl, -, hle⟩ := hE.form
  obtain ⟨Ac, cc, rfl, -, hlc⟩ := hC.form
  obtain ⟨w0, hw0⟩ : ∃ w0, w0 = w.alloc (.cells #[.slice Ae ds.length ce, .slice Ac cs.length cc] 26) := ⟨_, rfl⟩
  have hx0 : Ext w w0 := by rw [hw0]; exact (Ext.refl w).alloc _
  have k0 : w0.cell? ⟨w.heap.size, 0, none⟩ = some (.slice Ae ds.length ce) := by rw [hw0]; go_simp
  have k1 : w0.cell? ⟨w.heap.size, 1, none⟩ = some (.slice Ac cs.length cc) := by rw [hw0]; go_simp
  have ks : w.heap.size < w0.heap.size := by rw [hw0]; simp
  have HX0 := hide hx0
  have K0 := hide k0
  have K1 := hide k1
  have hE0 := hide (hE.ext hx0)
  clear hE hC hx0 hG
  go_enter Tryz.func35, Tryz.ntmps35
  go_wp2_with fail
  rw [← hw0]
  clear hw0
  refine (fixpointC_any _ ds 69 #[.pointer (some ⟨w.heap.size, 0, none⟩)] (shvP cs) (GoodD cs ds.length) _ hE0.out HG.out (shvP_ok h4) h4 h1 (fun args W => callFunc_body Tryz.func69 (by kernel_rfl) (by kernel_rfl) args W)
    (hide fun now v' W hW hS hgn => (shave1_any Ae Ac ce cc w.heap.size v' ds now cs W ((hW.cells _ _ ks).trans K0.out) ((hW.cells _ _ ks).trans K1.out) (Nat.lt_of_lt_of_le ks hW.size) (hM0.out.ext (HX0.out.trans hW)) hS (by rw [hgn.1]; exact hgn) (by rw [hgn.1]; exact h4) (by rw [hgn.1]; exact h1)).mono (fun _ _ h => .inl h))).mono ?_
  rintro e w2 hres
  have HRES := hide (show OwnRes (shaveL cs ds) w e w2 from OwnRes.from hres HX0.out)
  obtain ⟨A3, c3, b3, m3, f3, rfl, -⟩ := hres
  obtain ⟨L, hL⟩ : ∃ L, L = (fixL (shvP cs) 300 ds).length := ⟨_, rfl⟩
  rw [← hL]
  have HRES := hide (show OwnRes (shaveL cs ds) w (.returned (.slice A3 L c3)) w2 by rw [hL]; exact HRES.out)
  clear hL
  go_wp2
  go_ret
  exact HRES.out
def shvV (ds : List Int) (cs : List Con) : List Int := if vMod ds cs = true then shaveL cs ds else []
theorem shaveL_good {cs : List Con} {n : Nat} {ds : List Int} (h : GoodD cs n ds) (h4 : n ≤ 4) : GoodD cs n (shaveL cs ds) := by
  have hsum : sumL ds < 300 := by have := (sumL_bd ds h.2.1).2; have := h.1; omega
  obtain ⟨i, hg, hc⟩ := fixL_orbit (shvP_ok (cs := cs) h4) 300 ds h hsum
  rcases hc with ⟨-, hy⟩ | ⟨-, -, hy⟩
  · unfold shaveL; rw [hy]; exact h.zer
  · unfold shaveL; rw [hy]; exact hg
theorem shvV_i64 (ds : List Int) (cs : List Con) : ∀ j, j < (shvV ds cs).length → I64 (at0 (shvV ds cs) j) := by
  intro j hj
  unfold shvV at hj ⊢
  split at hj
  · rename_i h
    obtain ⟨hG, hp, h4⟩ := vMod_good h
    rw [if_pos h]
    exact (shaveL_good hG h4).i64 j hj
  · simp at hj
theorem shvV_len (ds : List Int) (cs : List Con) : (shvV ds cs).length ≤ 4 := by
  unfold shvV
  split
  · rename_i h
    obtain ⟨hG, hp, h4⟩ := vMod_good h
    rw [(shaveL_good hG h4).1]
    exact h4
  · simp
set_option maxRecDepth 100000 in
set_option maxHeartbeats 4000000 in
theorem ShaveI_any (v : Value) (ds : List Int) (cs : List Con) (w : World) (hM : SMod w v ds cs) :
    Calls Tryz.prog 18 #[v] w (OwnRes (shvV ds cs) w) := by
  have hM0 := hide hM
  obtain ⟨ve, vc, rfl, hE, hC⟩ := hM
  obtain ⟨Ae, ce, rfl, -, hle⟩ := hE.form
  obtain ⟨Ac, cc, rfl, -, hlc⟩ := hC.form
  obtain ⟨w0, hw0⟩ : ∃ w0, w0 = w.alloc (.cells #[.slice Ae ds.length ce, .slice Ac cs.length cc] 26) := ⟨_, rfl⟩
  have hx0 : Ext w w0 := by rw [hw0]; exact (Ext.refl w).alloc _
  have k0 : w0.cell? ⟨w.heap.size, 0, none⟩ = some (.slice Ae ds.length ce) := by rw [hw0]; go_simp
  have k1 : w0.cell? ⟨w.heap.size, 1, none⟩ = some (.slice Ac cs.length cc) := by rw [hw0]; go_simp
  have ks : w.heap.size < w0.heap.size := by rw [hw0]; simp
  have HX0 := hide hx0
  have hE0 := hide (hE.ext hx0)
  have hC0 := hide (hC.ext hx0)
  clear hE hC hx0
  go_enter Tryz.func18, Tryz.ntmps18
  go_wp2_with fail
  rw [← hw0]
  clear hw0
  refine (ValidModelI_any _ _ ds cs _ hE0.out hC0.out (fun i _ => fits_all _)).mono ?_
  rintro e w1 ⟨rfl, hx1⟩
  have HX1 := hide (HX0.out.trans hx1)
  have k0 := (hx1.cells _ _ ks).trans k0
  have k1 := (hx1.cells _ _ ks).trans k1
  clear hx1
  cases hv : vMod ds cs with
  | false =>
    have HV := hide (show shvV ds cs = [] by rw [shvV, hv]; rfl)
    clear hv
    go_wp2
    go_ret
    rw [HV.out]
    exact OwnRes.nil_ rfl HX1.out
  | true =>
    have HV := hide (show shvV ds cs = shaveL cs ds by rw [shvV, hv]; rfl)
    obtain ⟨hG, hp, h4⟩ := vMod_good hv
    have HG := hide hG
    clear hv hG
    go_wp2_with fail
    refine (shaveI_any _ ds cs _ (hM0.out.ext HX1.out) HG.out h4 hp).mono ?_
    rintro e w2 hres
    have HRES := hide (show OwnRes (shvV ds cs) w e w2 by rw [HV.out]; exact OwnRes.from hres HX1.out)
    obtain ⟨A3, c3, b3, m3, f3, rfl, -⟩ := hres
    obtain ⟨L, hL⟩ : ∃ L, L = (shaveL cs ds).length := ⟨_, rfl⟩
    rw [← hL] at HRES ⊢
    clear hL
    go_wp2
    go_ret
    exact HRES.out
end Go.Proofs.YtkjbefokgmiehaaGreatDoor
