/- The program's TimetableFilter. -/
import Derived.Test.YtjpdebgejlfeaaaDoorTtI
import Derived.Deep.CutBlock
import Derived.Deep.DeepCutAuto
namespace Go.Proofs.YtjpdebgejlfeaaaDoor
open Go.RowKit

/-- Block b holds xs at its head. -/
def RowT (W : World) (b m : Nat) (xs : List Int) : Prop := ∃ f, W.rowIs b 3 m f ∧ xs.length ≤ m ∧ ∀ j, j < xs.length → f j = .int .i64 (at0 xs j)
theorem RowT.ext {W W' : World} {b m : Nat} {xs : List Int} (h : RowT W b m xs) (hx : Ext W W') : RowT W' b m xs := by
  obtain ⟨f, h1, h2, h3⟩ := h
  exact ⟨f, hx.row h1, h2, h3⟩
theorem RowT.set {W : World} {b m : Nat} {xs : List Int} (h : RowT W b m xs) (i : Nat) (x : Int) (hi : i < xs.length) : RowT (W.setCell ⟨b, i, none⟩ (.int .i64 x)) b m (xs.set i x) := by
  obtain ⟨f, h1, h2, h3⟩ := h
  refine ⟨_, h1.set i _, by rw [List.length_set]; exact h2, fun j hj => ?_⟩
  rw [List.length_set] at hj
  show (if j = i then _ else f j) = _
  rw [at0_set _ _ _ _ hi]
  by_cases e : j = i
  · subst e; rw [if_pos rfl, if_pos rfl]
  · rw [if_neg e, if_neg (fun h => e h.symm)]; exact h3 j hj
theorem RowT.own {w W : World} {b m c : Nat} {xs : List Int} (h : RowT W b m xs) (hc : xs.length ≤ c) (h8 : xs.length * 8 ≤ 140737488355328) (hb : w.heap.size ≤ b) (hx : Ext w W) : OwnRes xs w (.returned (.slice (some ⟨b, 0, none⟩) xs.length c)) W := by
  obtain ⟨f, h1, h2, h3⟩ := h
  exact ⟨_, c, b, m, f, rfl, hc, h8, hb, fun _ => ⟨rfl, h1, h2, h3⟩, hx⟩
theorem ttI_yes {ts : List Tk} {c : Int} {now : List Int} {k : Nat} {l q : List Int} {t a : Nat} (ha : at0 l t = a) (h : crB ts c now k a = true) : ttI ts c now k l q (t + 1) = (ttI ts c now k l q t).set k (delV (at0 (ttI ts c now k l q t) k) a) := by
  rw [ttI, ha, Int.toNat_natCast, if_pos h]
theorem ttI_no {ts : List Tk} {c : Int} {now : List Int} {k : Nat} {l q : List Int} {t a : Nat} (ha : at0 l t = a) (h : crB ts c now k a = false) : ttI ts c now k l q (t + 1) = ttI ts c now k l q t := by
  rw [ttI, ha, Int.toNat_natCast, h, if_neg (by simp)]
set_option maxRecDepth 100000 in
set_option maxHeartbeats 8000000 in
theorem tt1_any (At : Option Addr) (ct bm bc : Nat) (v' : Value) (ts : List Tk) (now : List Int) (c : Int) (w : World) (hm0 : w.cell? ⟨bm, 0, none⟩ = some (.slice At ts.length ct)) (hm1 : w.cell? ⟨bc, 0, none⟩ = some (.int .i64 c)) (hbm : bm < w.heap.size) (hbc : bc < w.heap.size)
    (hS : STasks w (.slice At ts.length ct) ts) (hN : SInts w v' now) (hv : vTks ts = true) (hl : now.length = ts.length) (hd : ∀ k, k < now.length → 1 ≤ at0 now k ∧ at0 now k ≤ 63) (hT : TzTab w) (hb : 1 < w.heap.size) :
    Calls Tryd.prog 27 #[v', .pointer (some ⟨bm, 0, none⟩), .pointer (some ⟨bc, 0, none⟩)] w (OwnRes (ttS ts c now) w) := by
  have HS := hide hS
  have HNO := hide hN
  have HT := hide hT
  have HV := hide hv
  have HD := hide hd
  have HL := hide hl
  have M0 := hide hm0
  have M1 := hide hm1
  obtain ⟨hn1, hn4, -⟩ := vTks_bits hv
  obtain ⟨n, hn⟩ : ∃ n, n = now.length := ⟨_, rfl⟩
  have HN := hide hn
  have hn0 : 1 ≤ n := by omega
  have hnle : n ≤ 4 := by omega
  have HDN := hide (show DomL now from fun i hi => by have := hd i hi; omega)
  obtain ⟨An, cn, rfl, -, -⟩ := hN.form
  rw [← hn]
  clear hS hN hT hv hd hl hn hm0 hm1
  go_enter Tryd.func27, Tryd.ntmps27
  go_wp2_with fail
  refine (copied_any _ now _ (by have h := HNO.out; rw [← HN.out] at h; exact h)).mono ?_
  rintro e w1 ⟨A1, c1, b1, m1, f1, rfl, hc1, hd1, hb1, ho1, hx1⟩
  obtain ⟨rfl, hr1, hm1', hf1⟩ := ho1 (by rw [← HN.out]; omega)
  rw [← HN.out] at hc1 hd1
  have HRS := hide (show RowT w1 b1 m1 now from ⟨f1, hr1, hm1', hf1⟩)
  have HX1 := hide hx1
  have hb1l := hr1.lt
  rw [← HN.out]
  clear ho1 hr1 hf1 hx1 hm1'
  go_wp2_with fail
  go_loopw [14] (fun i wr => ∃ k : Nat, i = .int .i64 k ∧ k ≤ n ∧ Ext w wr ∧ b1 < wr.heap.size ∧ RowT wr b1 m1 (ttQ ts c now k)) (fun i _ => n - (intOf i).toNat)
  case atStart => exact ⟨0, rfl, Nat.zero_le _, HX1.out, hb1l, HRS.out⟩
  case round =>
    obtain ⟨k, rfl, hk, hx, hbw, hrow⟩ := hrel
    have HX := hide hx
    have HROW := hide hrow
    obtain ⟨q, hq⟩ : ∃ q, q = ttQ ts c now k := ⟨_, rfl⟩
    have HQ := hide hq
    obtain ⟨q1, q2, q3⟩ := ttQ_ok (ts := ts) (c := c) HDN.out k (by rw [← HN.out]; exact hk)
    rw [← hq] at HROW q1 q2 q3
    rw [← HN.out] at q1
    have HQD := hide q2
    have HQL := hide q1
    clear hx hrow hq q3 q2 q1
    by_cases hlt : k < n
    · have hkI : (k : Int) < n := by omega
      have hkn : k < now.length := by rw [← HN.out]; exact hlt
      obtain ⟨bn, on, hAn, hbn, fk⟩ := HNO.out.at_ hkn
      subst hAn
      have fk := (HX.out.cells _ _ hbn).trans fk
      have hdb := HD.out k hkn
      obtain ⟨d, hd⟩ : ∃ d, d = at0 now k := ⟨_, rfl⟩
      rw [← hd] at fk hdb
      have HDD := hide hd
      have hdl := domL_len d
      clear hd
      go_wp2_with fail
      refine (valuesOf_any d _ (by omega) (by omega)).mono ?_
      rintro e w2 ⟨A2, c2, b2, m2, f2, rfl, hc2, hd2, hb2, ho2, hx2⟩
      have HO2 := hide ho2
      have HX2 := hide (HX.out.trans hx2)
      have HROW2 := hide (HROW.out.ext hx2)
      have hb2w : b1 < w2.heap.size := Nat.lt_of_lt_of_le hbw hx2.size
      have hb12 : b2 ≠ b1 := by omega
      clear ho2 hx2 fk
      go_wp2_with fail
      go_loopw [22] (fun i wr2 => ∃ t : Nat, i = .int .i64 t ∧ t ≤ (domL d).length ∧ Ext w wr2 ∧ RowT wr2 b1 m1 (ttI ts c now k (domL d) q t) ∧ Keep (fun j => j ≠ b1) w2 wr2) (fun i _ => (domL d).length - (intOf i).toNat)
      case atStart => exact ⟨0, rfl, Nat.zero_le _, HX2.out, HROW2.out, Keep.refl _ _⟩
      case round =>
        obtain ⟨t, rfl, ht, hxt, hrt, hkt⟩ := hrel
        have HXT := hide hxt
        have HKT := hide hkt
        obtain ⟨r, hr⟩ : ∃ r, r = ttI ts c now k (domL d) q t := ⟨_, rfl⟩
        have HRR := hide hr
        obtain ⟨g1, g2, -, -⟩ := ttI_ok (ts := ts) (c := c) (now := now) (k := k) (l := domL d) HQD.out (by rw [HQL.out]; exact hlt) (fun s hs => domL_val _ hs) t ht
        rw [← hr] at hrt g1 g2
        have HRT := hide hrt
        have hrl : r.length = n := by rw [g1, HQL.out]
        have HRL := hide hrl
        have HRD := hide g2
        clear hr hrt g1 g2 hrl
        by_cases htl : t < (domL d).length
        · have htI : (t : Int) < (domL d).length := by omega
          obtain ⟨rfl, hr2, hm2', hf2⟩ := HO2.out (by omega)
          obtain ⟨a, ha, ha6⟩ := domL_val d htl
          have fa := (hkt.row hb12 hr2).cell (i := t) (by omega)
          rw [hf2 t htl, ha] at fa
          have hb2t := (hkt.row hb12 hr2).lt
          have HA := hide ha
          have g0 := (hxt.cells _ _ hbm).trans M0.out
          have g1 := (hxt.cells _ _ hbc).trans M1.out
          clear hxt hkt hr2 hf2 ha
          go_wp2_with fail
          refine (crowded_any _ _ ts now c k a _ (HS.out.ext HXT.out) (by have h := HNO.out.ext HXT.out; rw [← HN.out] at h; exact h) HV.out HL.out HD.out (by rw [← HL.out]; exact hkn) ha6 (TzTab.ext HT.out hb HXT.out) (Nat.lt_of_lt_of_le hb HXT.out.size)).mono ?_
          rintro e w3 ⟨rfl, hx3⟩
          have HX3 := hide (HXT.out.trans hx3)
          have HRT3 := hide (HRT.out.ext hx3)
          have HKT3 := hide (HKT.out.ext hx3)
          have fa := (hx3.cells _ _ hb2t).trans fa
          clear hx3 g0 g1
          cases hzz : crB ts c now k a with
          | false =>
            have HNX := hide (ttI_no (ts := ts) (c := c) (now := now) (k := k) (l := domL d) (q := q) (t := t) HA.out hzz)
            clear hzz
            go_wp2_with fail
            go_roundw
            case rel => exact ⟨t + 1, by go_num, by omega, HX3.out, by rw [HNX.out, ← HRR.out]; exact HRT3.out, HKT3.out⟩
            case measure => simp [intOf]; omega
          | true =>
            have HNX := hide (ttI_yes (ts := ts) (c := c) (now := now) (k := k) (l := domL d) (q := q) (t := t) HA.out hzz)
            obtain ⟨f5, hr5, hm5, hf5⟩ := HRT3.out
            have hrl := HRL.out
            have fk := hr5.cell (i := k) (by omega)
            rw [hf5 k (by omega)] at fk
            have fz := hr5.frozen k
            have hbl := hr5.lt
            have hyb := HRD.out k (by omega)
            obtain ⟨y, hy⟩ : ∃ y, y = at0 r k := ⟨_, rfl⟩
            rw [← hy] at fk hyb
            have HY := hide hy
            have hpw := pow_bd ha6
            have kp : IntKind.i64.wrap (2 ^ a) = 2 ^ a := IntWalk.i64_in _ (by omega)
            have kb := bits_andNot hyb.1 hyb.2 ha6
            have hkr : k < r.length := by omega
            clear hr5 hf5 hy hzz hrl
            go_wp2_with fail
            refine wp_region_ext_tail 8 (by kernel_rfl) (by kernel_rfl) ?_
            simp only [List.take_succ_cons, List.take_zero, List.drop_succ_cons, List.drop_zero]
            iterate 8 (apply quiet_val; (focus rfl); (focus (intro w' hw'; have hk' := hw'.cells; go_simp; all_goals exact rfl)); simp only [Act.put, List.setIfInBounds_toArray, List.set_cons_succ, List.set_cons_zero])
            refine wpQuiet_nil ?_
            intro w5 hx5
            have HX5 := hide (HX3.out.trans hx5)
            have HRT5 := hide (HRT3.out.ext hx5)
            have HKT5 := hide (HKT3.out.ext hx5)
            have fz := (hx5.frz _ _ hbl).trans fz
            have fk := (hx5.cells _ _ hbl).trans fk
            clear hx5 fa
            try simp only [kp, kb]
            go_wp2_with fail
            go_roundw
            case rel => exact ⟨t + 1, by go_num, by omega, HX5.out.set (p := ⟨b1, k, none⟩) hb1 _, by rw [HNX.out, ← HRR.out, ← HY.out]; exact HRT5.out.set k _ hkr, HKT5.out.set (fun _ hh => hh rfl) _⟩
            case measure => simp [intOf]; omega
        · obtain rfl : t = (domL d).length := by omega
          have htI : ¬ (((domL d).length : Int) < (domL d).length) := by omega
          have HNX := hide (show ttQ ts c now (k + 1) = r by rw [ttQ, ← HQ.out, ← HDD.out, HRR.out])
          have hbt := Nat.lt_of_lt_of_le hb2w HKT.out.size
          go_wp2_with fail
          go_roundw
          case rel => exact ⟨k + 1, by go_num, by omega, HXT.out, hbt, by rw [HNX.out]; exact HRT.out⟩
          case measure => simp [intOf]; omega
    · obtain rfl : k = n := by omega
      have hkI : ¬ ((k : Int) < k) := by omega
      have HE := hide (show OwnRes (ttS ts c now) w (.returned (.slice (some ⟨b1, 0, none⟩) k c1)) wr by
        have e : ttS ts c now = q := by rw [HQ.out, ttS, ← HN.out]
        have hql := HQL.out
        rw [e]
        have := HROW.out.own (w := w) (c := c1) (by omega) (by omega) hb1 HX.out
        rwa [hql] at this)
      go_wp2_with fail
      go_ret
      exact HE.out
set_option maxRecDepth 100000 in
set_option maxHeartbeats 8000000 in
theorem TimetableI_any (v : Value) (ts : List Tk) (c : Int) (w : World) (hS : STasks w v ts) (hT : TzTab w) (hb : 1 < w.heap.size) :
    Calls Tryd.prog 8 #[v, .int .i64 c] w (OwnRes (ttV ts c) w) := by
  have HS := hide hS
  have HT := hide hT
  obtain ⟨At, ct, rfl, -, -⟩ := hS.form
  obtain ⟨w0, hw0⟩ : ∃ w0, w0 = (w.alloc (.cells #[.slice At ts.length ct] 26)).alloc (.cells #[.int .i64 c] 3) := ⟨_, rfl⟩
  have HX0 := hide (show Ext w w0 by rw [hw0]; exact ((Ext.refl w).alloc _).alloc _)
  have k0 : w0.cell? ⟨w.heap.size, 0, none⟩ = some (.slice At ts.length ct) := by rw [hw0]; go_simp
  have k1 : w0.cell? ⟨w.heap.size + 1, 0, none⟩ = some (.int .i64 c) := by rw [hw0]; go_simp
  have ks : w.heap.size + 1 < w0.heap.size := by rw [hw0]; simp
  have ks0 : w.heap.size < w0.heap.size := by omega
  clear hS hT
  go_enter Tryd.func8, Tryd.ntmps8
  go_wp2_with fail
  rw [← hw0]
  clear hw0
  refine (ValidTasksI_any _ ts c _ (HS.out.ext HX0.out)).mono ?_
  rintro e w1 ⟨rfl, hx1⟩
  have k0 := (hx1.cells _ _ ks0).trans k0
  have k1 := (hx1.cells _ _ ks).trans k1
  have ks0 := Nat.lt_of_lt_of_le ks0 hx1.size
  have ks := Nat.lt_of_lt_of_le ks hx1.size
  have HX1 := hide (HX0.out.trans hx1)
  clear hx1
  cases hv : vTks ts && inR c 0 9 with
  | false =>
    have HVV := hide (show ttV ts c = [] by rw [ttV, hv]; rfl)
    clear hv k0 k1
    go_wp2_with fail
    go_ret
    rw [HVV.out]
    exact OwnRes.nil_ rfl HX1.out
  | true =>
    have HVV := hide (show ttV ts c = fixL (ttS ts c) 300 (startsL ts) by rw [ttV, hv]; rfl)
    have hv2 := hv
    rw [Bool.and_eq_true] at hv2
    have HV := hide hv2.1
    obtain ⟨hn1, hn4, -⟩ := vTks_bits hv2.1
    have HST := hide (starts_tt hv2.1).1
    have K0 := hide k0
    have K1 := hide k1
    clear hv hv2
    go_wp2_with fail
    refine (startsOf_any _ ts _ (HS.out.ext HX1.out) (by omega)).mono ?_
    rintro e w2 ⟨A2, c2, b2, m2, f2, rfl, hc2, hd2, hb2, ho2, hx2⟩
    have hsl : (startsL ts).length = ts.length := HST.out.1
    have HIN := hide (SInts.own hc2 hd2 ho2 (fun i hi => by have := HST.out.2 i hi; unfold I64; omega))
    have HX2 := hide (HX1.out.trans hx2)
    have HX12 := hide hx2
    have HSL := hide hsl
    rw [hsl]
    rw [hsl] at HIN
    clear ho2 hc2 hd2 hb2 hx2 k0 k1 hsl
    go_wp2_with fail
    refine (fixpointZ_any _ (startsL ts) 27 #[.pointer (some ⟨w.heap.size, 0, none⟩), .pointer (some ⟨w.heap.size + 1, 0, none⟩)] (ttS ts c) (TtG ts.length) _ HIN.out HST.out (by rw [HSL.out]; exact ttS_ok ts c ts.length) (by rw [HSL.out]; exact hn4) (by rw [HSL.out]; omega) (fun args W => callFunc_body Tryd.func27 (by kernel_rfl) (by kernel_rfl) args W)
      (hide fun now v' W hW hSn hg hz => (tt1_any At ct w.heap.size (w.heap.size + 1) v' ts now c W ((hW.cells _ _ (Nat.lt_of_lt_of_le ks0 HX12.out.size)).trans ((HX12.out.cells _ _ ks0).trans K0.out)) ((hW.cells _ _ (Nat.lt_of_lt_of_le ks HX12.out.size)).trans ((HX12.out.cells _ _ ks).trans K1.out)) (Nat.lt_of_lt_of_le (Nat.lt_of_lt_of_le ks0 HX12.out.size) hW.size) (Nat.lt_of_lt_of_le (Nat.lt_of_lt_of_le ks HX12.out.size) hW.size)
        (HS.out.ext (HX2.out.trans hW)) hSn HV.out hg.1 (fun k hk => by
          have h1 := hg.2 k hk
          have h2 : at0 now k ≠ 0 := fun e => by rw [hasI_iff.2 ⟨k, hk, e⟩] at hz; cases hz
          omega) (TzTab.ext HT.out hb (HX2.out.trans hW)) (Nat.lt_of_lt_of_le hb (HX2.out.trans hW).size)).mono fun _ _ h => .inl h)).mono ?_
    rw [← HVV.out]
    rintro e w3 ⟨A3, c3, b3, m3, f3, rfl, hc3, hd3, hb3, ho3, hx3⟩
    have HR := hide (show OwnRes (ttV ts c) w (.returned (.slice A3 (ttV ts c).length c3)) w3 from ⟨A3, c3, b3, m3, f3, rfl, hc3, hd3, Nat.le_trans HX2.out.size hb3, ho3, HX2.out.trans hx3⟩)
    generalize hU : (ttV ts c) = U at *
    clear hc3 hd3 hb3 ho3 hx3
    go_wp2_with fail
    go_ret
    exact HR.out
end Go.Proofs.YtjpdebgejlfeaaaDoor
