/- When a constraint is satisfied: the walks of the reference's helpers. -/
import Derived.Test.YtpnlambndbfenaaSatK
namespace Go.Proofs.Ytpnlambndbfenaa
open Go.RowKit

set_option maxHeartbeats 2000000 in
theorem distinctS_any (v : Value) (xs : List Int) (w : World) (hS : SInts w v xs) :
    Calls Try.prog 86 #[v] w (Ret (.bool (dst xs)) w) := by
  have hS0 := hide hS
  obtain ⟨A, c, rfl, hlc, hln⟩ := hS.form
  clear hS
  go_enter Try.func86, Try.ntmps86
  go_wp2
  go_loopw [3] (fun i wr => ∃ k : Nat, k ≤ xs.length ∧ i = .int .i64 k ∧ Ext w wr ∧ ∀ j, j < k → hasI (xs.take j) (at0 xs j) = false) (fun i _ => xs.length - (intOf i).toNat)
  case atStart => exact ⟨0, Nat.zero_le _, rfl, Ext.refl w, fun j hj => by omega⟩
  case round =>
    obtain ⟨k, hk, rfl, hx, hno⟩ := hrel
    have HNO := hide hno
    have HX := hide hx
    obtain ⟨W0, rfl⟩ : ∃ W0, W0 = wr := ⟨wr, rfl⟩
    clear hno hx
    by_cases hlt : k < xs.length
    · have hkI : (k : Int) < xs.length := by omega
      go_wp2
      go_loopw [4] (fun i wr => ∃ m : Nat, m ≤ k ∧ i = .int .i64 m ∧ Ext W0 wr ∧ ∀ j, j < m → (at0 xs k == at0 xs j) = false) (fun i _ => k - (intOf i).toNat)
      case atStart => exact ⟨0, Nat.zero_le _, rfl, Ext.refl _, fun j hj => by omega⟩
      case round =>
        obtain ⟨m, hm, rfl, hxm, hnm⟩ := hrel
        have HNM := hide hnm
        have HXM := hide hxm
        clear hnm hxm
        by_cases hmk : m < k
        · have hmI : (m : Int) < k := by omega
          have hml : m < xs.length := by omega
          have hmlI : (m : Int) < xs.length := by omega
          obtain ⟨b, off, rfl, hbl, f1⟩ := ((hS0.out.ext HX.out).ext HXM.out).at_ hlt
          have f2 := ((hS0.out.ext HX.out).ext HXM.out).cell_ hml
          cases he : (at0 xs k == at0 xs m) with
          | true =>
            have HD := hide (show dst xs = false by
              have hh : hasI (xs.take k) (at0 xs k) = true := by
                refine anyB_iff.2 ⟨m, by rw [List.length_take]; omega, ?_⟩
                have e1 : at0 (xs.take k) m = at0 xs m := by
                  unfold at0
                  rw [getD_lt _ _ (by rw [List.length_take]; omega), getD_lt _ _ (by omega), List.getElem_take]
                rw [e1]; exact he
              rw [dst, anyB_iff.2 ⟨k, hlt, hh⟩]; rfl)
            go_wp2
            refine wp_region_ext (by kernel_rfl) (by kernel_rfl) ?_
            iterate 9 (apply quiet_val; (focus rfl); (focus (intro w' hw'; have hk' := hw'.cells; go_simp; all_goals exact rfl)); simp only [Act.put, List.setIfInBounds_toArray, List.set_cons_succ, List.set_cons_zero])
            refine wpQuiet_nil ?_
            intro w2 hx2
            have HX2 := hide ((HX.out.trans HXM.out).trans hx2)
            clear hx2
            go_wp2
            go_ret
            exact Ret.mk (ret_b HD.out.symm) HX2.out
          | false =>
            have HE := hide he
            go_wp2
            refine wp_region_ext (by kernel_rfl) (by kernel_rfl) ?_
            iterate 9 (apply quiet_val; (focus rfl); (focus (intro w' hw'; have hk' := hw'.cells; go_simp; all_goals exact rfl)); simp only [Act.put, List.setIfInBounds_toArray, List.set_cons_succ, List.set_cons_zero])
            refine wpQuiet_nil ?_
            intro w2 hx2
            have HX2 := hide (HXM.out.trans hx2)
            clear hx2
            go_wp2
            go_roundw
            case rel => exact ⟨m + 1, by omega, by go_num, HX2.out, upto_succ HNM.out HE.out⟩
            case measure => simp [intOf]; omega
        · obtain rfl : m = k := by omega
          have hmI : ¬ ((m : Int) < m) := by omega
          have HH := hide (show hasI (xs.take m) (at0 xs m) = false by
            refine anyB_false.2 fun j hj => ?_
            rw [List.length_take] at hj
            have e1 : at0 (xs.take m) j = at0 xs j := by
              unfold at0
              rw [getD_lt _ _ (by rw [List.length_take]; omega), getD_lt _ _ (by omega), List.getElem_take]
            rw [e1]; exact HNM.out j (by omega))
          go_wp2
          go_roundw
          case rel => exact ⟨m + 1, by omega, by go_num, HX.out.trans HXM.out, upto_succ HNO.out HH.out⟩
          case measure => simp [intOf]; omega
    · obtain rfl : k = xs.length := by omega
      have hkI : ¬ ((xs.length : Int) < xs.length) := by omega
      have HD := hide (show dst xs = true by rw [dst, anyB_false.2 HNO.out]; rfl)
      go_wp2
      go_ret
      exact Ret.mk (ret_b HD.out.symm) HX.out
/-- The first k numbers are the same. -/
def sameK (r x : List Int) : Nat → Bool
  | 0 => true
  | k + 1 => sameK r x k && (at0 r k == at0 x k)
theorem sameK_iff (r x : List Int) : ∀ k, sameK r x k = true ↔ ∀ j, j < k → at0 r j = at0 x j
  | 0 => by simp [sameK]
  | k + 1 => by
    rw [sameK, Bool.and_eq_true, sameK_iff r x k, beq_iff_eq]
    constructor
    · rintro ⟨a, b⟩ j hj
      by_cases e : j = k
      · subst e; exact b
      · exact a j (by omega)
    · intro h
      exact ⟨fun j hj => h j (by omega), h k (by omega)⟩
theorem sameK_eq {r x : List Int} (hl : r.length = x.length) : sameK r x x.length = decide (r = x) := by
  rw [Bool.eq_iff_iff, sameK_iff, decide_eq_true_iff]
  constructor
  · intro h; exact at0_ext hl fun u hu => h u (by omega)
  · rintro rfl _ _; rfl
set_option maxHeartbeats 4000000 in
theorem hasRow_any (v vx : Value) (rs : List (List Int)) (x : List Int) (w : World) (hR : SRows w v rs) (hX : SInts w vx x) (hl : ∀ i, i < rs.length → (rw0 rs i).length = x.length) :
    Calls Try.prog 135 #[v, vx] w (Ret (.bool (anyB (fun i => decide (rw0 rs i = x)) rs.length)) w) := by
  have hR0 := hide hR
  have hX0 := hide hX
  have HL := hide hl
  obtain ⟨Ar, cr, rfl, -, hlr⟩ := hR.form
  obtain ⟨Ax, cx, rfl, -, hlx⟩ := hX.form
  clear hR hX hl
  go_enter Try.func135, Try.ntmps135
  go_wp2
  go_loopw [5] (fun i wr => ∃ k : Nat, k ≤ rs.length ∧ i = .int .i64 k ∧ Ext w wr ∧ ∀ j, j < k → decide (rw0 rs j = x) = false) (fun i _ => rs.length - (intOf i).toNat)
  case atStart => exact ⟨0, Nat.zero_le _, rfl, Ext.refl w, fun j hj => by omega⟩
  case round =>
    obtain ⟨k, hk, rfl, hx, hno⟩ := hrel
    have HNO := hide hno
    have HX := hide hx
    obtain ⟨W0, rfl⟩ : ∃ W0, W0 = wr := ⟨wr, rfl⟩
    clear hno hx
    by_cases hlt : k < rs.length
    · have hkI : (k : Int) < rs.length := by omega
      have HLK := hide (HL.out k hlt)
      go_wp2
      go_loopw [6, 7] (fun s i wr => ∃ m : Nat, m ≤ x.length ∧ i = .int .i64 m ∧ Ext W0 wr ∧ s = .bool (sameK (rw0 rs k) x m)) (fun _ i _ => x.length - (intOf i).toNat)
      case atStart => exact ⟨0, Nat.zero_le _, rfl, Ext.refl _, rfl⟩
      case round =>
        obtain ⟨m, hm, rfl, hxm, rfl⟩ := hrel
        have HXM := hide hxm
        clear hxm
        by_cases hml : m < x.length
        · have hmI : (m : Int) < x.length := by omega
          have hmr : m < (rw0 rs k).length := by have := HLK.out; omega
          have hmrI : (m : Int) < (rw0 rs k).length := by omega
          obtain ⟨b, off, A', c', rfl, hbl, f1, hrow⟩ := ((hR0.out.ext HX.out).ext HXM.out).at_ hlt
          obtain ⟨bx, ox, rfl, hbx, f2⟩ := ((hX0.out.ext HX.out).ext HXM.out).at_ hml
          obtain ⟨b3, o3, rfl, hb3, f3⟩ := hrow.at_ hmr
          clear hrow
          cases hs : sameK (rw0 rs k) x m with
          | true =>
            have HK := hide (show (at0 (rw0 rs k) m == at0 x m) = sameK (rw0 rs k) x (m + 1) by rw [sameK, hs, Bool.true_and])
            clear hs
            go_wp2
            refine wp_region_ext (by kernel_rfl) (by kernel_rfl) ?_
            iterate 2 (apply quiet_val; (focus rfl); (focus (intro w' hw'; have hk' := hw'.cells; go_simp; all_goals exact rfl)); simp only [Act.put, List.setIfInBounds_toArray, List.set_cons_succ, List.set_cons_zero])
            iterate 12 (go_big_quiet_want; apply quietK_val; (focus (intro w' hw'; have hk' := hw'.cells; go_simp; all_goals exact rfl)); simp only [Act.put, List.setIfInBounds_toArray, List.set_cons_succ, List.set_cons_zero]; go_big_quiet_on)
            iterate 2 (apply quiet_val; (focus rfl); (focus (intro w' hw'; have hk' := hw'.cells; go_simp; all_goals exact rfl)); simp only [Act.put, List.setIfInBounds_toArray, List.set_cons_succ, List.set_cons_zero])
            refine wpQuiet_nil ?_
            intro w2 hx2
            have HX2 := hide (HXM.out.trans hx2)
            clear hx2
            go_wp2
            go_roundw
            case rel => exact ⟨m + 1, by omega, by go_num, HX2.out, by rw [← HK.out]⟩
            case measure => simp [intOf]; omega
          | false =>
            have HK := hide (show false = sameK (rw0 rs k) x (m + 1) by rw [sameK, hs, Bool.false_and])
            clear hs
            go_wp2
            refine wp_region_ext (by kernel_rfl) (by kernel_rfl) ?_
            iterate 2 (apply quiet_val; (focus rfl); (focus (intro w' hw'; have hk' := hw'.cells; go_simp; all_goals exact rfl)); simp only [Act.put, List.setIfInBounds_toArray, List.set_cons_succ, List.set_cons_zero])
            iterate 12 go_big_quiet_skip
            iterate 2 (apply quiet_val; (focus rfl); (focus (intro w' hw'; have hk' := hw'.cells; go_simp; all_goals exact rfl)); simp only [Act.put, List.setIfInBounds_toArray, List.set_cons_succ, List.set_cons_zero])
            refine wpQuiet_nil ?_
            intro w2 hx2
            have HX2 := hide (HXM.out.trans hx2)
            clear hx2
            go_wp2
            go_roundw
            case rel => exact ⟨m + 1, by omega, by go_num, HX2.out, by rw [← HK.out]⟩
            case measure => simp [intOf]; omega
        · obtain rfl : m = x.length := by omega
          have hmI : ¬ ((x.length : Int) < x.length) := by omega
          have HS := hide (sameK_eq HLK.out)
          cases hd : decide (rw0 rs k = x) with
          | true =>
            have HD := hide (show anyB (fun i => decide (rw0 rs i = x)) rs.length = true from anyB_iff.2 ⟨k, hlt, hd⟩)
            rw [HS.out, hd]
            clear hd
            go_wp2
            go_ret
            exact Ret.mk (ret_b HD.out.symm) (HX.out.trans HXM.out)
          | false =>
            have HD := hide hd
            rw [HS.out, hd]
            clear hd
            go_wp2
            go_roundw
            case rel => exact ⟨k + 1, by omega, by go_num, HX.out.trans HXM.out, upto_succ HNO.out HD.out⟩
            case measure => simp [intOf]; omega
    · obtain rfl : k = rs.length := by omega
      have hkI : ¬ ((rs.length : Int) < rs.length) := by omega
      have HD := hide (show anyB (fun i => decide (rw0 rs i = x)) rs.length = false from anyB_false.2 HNO.out)
      go_wp2
      go_ret
      exact Ret.mk (ret_b HD.out.symm) HX.out
set_option maxHeartbeats 4000000 in
theorem withinCapacity_any (v vx : Value) (c : Con) (x : List Int) (w : World) (hC : SCon w v c) (hX : SInts w vx x) (ha : allR c.args 0 9 = true) (hb : inR c.bound 0 9 = true) (hx : ValL x) (hl : c.args.length = 2 * x.length) (h4 : x.length ≤ 100) :
    Calls Try.prog 136 #[v, vx] w (Ret (.bool (roomB c.args c.bound x)) w) := by
  obtain ⟨vv, va, vr, rfl, hV, hA, hR⟩ := hC
  have HAR := hide ha
  have HXV := hide hx
  have HL := hide hl
  obtain ⟨Av, cv, rfl, -, hlv⟩ := hV.form
  obtain ⟨Aa, ca, rfl, -, hla⟩ := hA.form
  obtain ⟨Ar, cr, rfl, -, hlr⟩ := hR.form
  obtain ⟨Ax, cx, rfl, -, hlx⟩ := hX.form
  obtain ⟨w0, hw0⟩ : ∃ w0, w0 = w.alloc (.cells #[.int .i64 c.kk, .slice Av c.vars.length cv, .slice Aa c.args.length ca, .int .i64 c.bound, .slice Ar c.rows.length cr] 32) := ⟨_, rfl⟩
  have hx0 : Ext w w0 := by rw [hw0]; exact (Ext.refl w).alloc _
  have k2 : w0.cell? ⟨w.heap.size, 2, none⟩ = some (.slice Aa c.args.length ca) := by rw [hw0]; go_simp
  have k3 : w0.cell? ⟨w.heap.size, 3, none⟩ = some (.int .i64 c.bound) := by rw [hw0]; go_simp
  have ks : w.heap.size < w0.heap.size := by rw [hw0]; simp
  have HX0 := hide hx0
  have hA0 := hide (hA.ext hx0)
  have hX0 := hide (hX.ext hx0)
  have K2 := hide k2
  have K3 := hide k3
  have hbb : 0 ≤ c.bound ∧ c.bound ≤ 9 := by simpa [inR] using hb
  clear hx0 hV hA hR hX ha hx hl hb k2 k3
  go_enter Try.func136, Try.ntmps136
  go_wp2
  rw [← hw0]
  clear hw0
  go_loopw [6] (fun i wr => ∃ t : Nat, t ≤ 15 ∧ i = .int .i64 t ∧ Ext w0 wr ∧ ∀ u, u < t → ¬ c.bound < loadT c.args x x.length (u : Nat) x.length) (fun i _ => 15 - (intOf i).toNat)
  case atStart => exact ⟨0, by omega, rfl, Ext.refl _, fun u hu => by omega⟩
  case round =>
    obtain ⟨t, ht, rfl, hxt, hno⟩ := hrel
    have HNO := hide hno
    have HXT := hide hxt
    obtain ⟨W0, rfl⟩ : ∃ W0, W0 = wr := ⟨wr, rfl⟩
    clear hno hxt
    by_cases htl : t < 15
    · have htI : (t : Int) < 15 := by omega
      have htI2 : (t : Int) ≤ 14 := by omega
      go_wp2
      go_loopw [7, 8] (fun s i wr => ∃ k : Nat, k ≤ x.length ∧ i = .int .i64 k ∧ s = .int .i64 (loadT c.args x x.length t k) ∧ Ext w0 wr) (fun _ i _ => x.length - (intOf i).toNat)
      case atStart => exact ⟨0, by omega, rfl, rfl, HXT.out⟩
      case round =>
        obtain ⟨k, hk, rfl, rfl, hxk⟩ := hrel
        have HXK := hide hxk
        have g2 := (hxk.cells _ _ ks).trans K2.out
        have g3 := (hxk.cells _ _ ks).trans K3.out
        have ksr := Nat.lt_of_lt_of_le ks hxk.size
        clear hxk
        by_cases hlt : k < x.length
        · have hkI : (k : Int) < x.length := by omega
          have hka : k < c.args.length := by have := HL.out; omega
          have hka2 : x.length + k < c.args.length := by have := HL.out; omega
          have hkaI : (k : Int) < c.args.length := by omega
          have hka2I : (x.length : Int) + (k : Int) < c.args.length := by omega
          obtain ⟨bx, ox, rfl, hbx, f2⟩ := (hX0.out.ext HXK.out).at_ hlt
          obtain ⟨b, off, rfl, hbl, f1⟩ := (hA0.out.ext HXK.out).at_ hka
          have f3 := (hA0.out.ext HXK.out).cell_ hka2
          have hld := loadT_bd (x := x) (t := t) HAR.out HL.out k hk
          have h1 := allR_at HAR.out hka
          have h2 := allR_at HAR.out hka2
          have h3 := HXV.out k hlt
          have kw : IntKind.i64.wrap (at0 x k + at0 c.args k) = at0 x k + at0 c.args k := IntWalk.i64_in _ (by omega)
          by_cases hr3 : at0 x k ≤ t
          · by_cases hr4 : (t : Int) < at0 x k + at0 c.args k
            · have hr : runsB c.args x t k = true := by simp [runsB, hr3, hr4]
              have HK := hide (show loadT c.args x x.length t k + at0 c.args (x.length + k) = loadT c.args x x.length t (k + 1) by rw [loadT, if_pos hr])
              clear hr
              have d3 : decide (at0 x k ≤ (t : Int)) = true := decide_eq_true hr3
              have d4 : decide ((t : Int) < at0 x k + at0 c.args k) = true := decide_eq_true hr4
              go_wp2
              refine wp_region_ext (by kernel_rfl) (by kernel_rfl) ?_
              iterate 7 (apply quiet_val; (focus rfl); (focus (intro w' hw'; have hk' := hw'.cells; go_simp; all_goals exact rfl)); simp only [Act.put, List.setIfInBounds_toArray, List.set_cons_succ, List.set_cons_zero])
              iterate 12 (go_big_quiet_want; apply quietK_val; (focus (intro w' hw'; have hk' := hw'.cells; go_simp; all_goals exact rfl)); simp only [Act.put, List.setIfInBounds_toArray, List.set_cons_succ, List.set_cons_zero]; go_big_quiet_on)
              (apply quiet_val; (focus rfl); (focus (intro w' hw'; have hk' := hw'.cells; go_simp; all_goals exact rfl)); simp only [Act.put, List.setIfInBounds_toArray, List.set_cons_succ, List.set_cons_zero])
              refine wpQuiet_nil ?_
              intro w2 hx2
              have HX2 := hide (HXK.out.trans hx2)
              have g2 := (hx2.cells _ _ ksr).trans g2
              have f3 := (hA0.out.ext HX2.out).cell_ hka2
              have hbl := Nat.lt_of_lt_of_le hbl hx2.size
              clear hx2
              go_wp2
              go_roundw
              case rel => exact ⟨k + 1, by omega, by go_num, by rw [← HK.out], HX2.out⟩
              case measure => simp [intOf]; omega
            · have hr : ¬ runsB c.args x t k = true := by intro h; simp [runsB] at h; omega
              have HK := hide (show loadT c.args x x.length t k = loadT c.args x x.length t (k + 1) by rw [loadT, if_neg hr])
              clear hr
              have d3 : decide (at0 x k ≤ (t : Int)) = true := decide_eq_true hr3
              have d4 : decide ((t : Int) < at0 x k + at0 c.args k) = false := decide_eq_false hr4
              go_wp2
              refine wp_region_ext (by kernel_rfl) (by kernel_rfl) ?_
              iterate 7 (apply quiet_val; (focus rfl); (focus (intro w' hw'; have hk' := hw'.cells; go_simp; all_goals exact rfl)); simp only [Act.put, List.setIfInBounds_toArray, List.set_cons_succ, List.set_cons_zero])
              iterate 12 (go_big_quiet_want; apply quietK_val; (focus (intro w' hw'; have hk' := hw'.cells; go_simp; all_goals exact rfl)); simp only [Act.put, List.setIfInBounds_toArray, List.set_cons_succ, List.set_cons_zero]; go_big_quiet_on)
              (apply quiet_val; (focus rfl); (focus (intro w' hw'; have hk' := hw'.cells; go_simp; all_goals exact rfl)); simp only [Act.put, List.setIfInBounds_toArray, List.set_cons_succ, List.set_cons_zero])
              refine wpQuiet_nil ?_
              intro w2 hx2
              have HX2 := hide (HXK.out.trans hx2)
              clear hx2
              go_wp2
              go_roundw
              case rel => exact ⟨k + 1, by omega, by go_num, by rw [← HK.out], HX2.out⟩
              case measure => simp [intOf]; omega
          · have hr : ¬ runsB c.args x t k = true := by intro h; simp [runsB] at h; omega
            have HK := hide (show loadT c.args x x.length t k = loadT c.args x x.length t (k + 1) by rw [loadT, if_neg hr])
            clear hr
            have d3 : decide (at0 x k ≤ (t : Int)) = false := decide_eq_false hr3
            go_wp2
            refine wp_region_ext (by kernel_rfl) (by kernel_rfl) ?_
            iterate 7 (apply quiet_val; (focus rfl); (focus (intro w' hw'; have hk' := hw'.cells; go_simp; all_goals exact rfl)); simp only [Act.put, List.setIfInBounds_toArray, List.set_cons_succ, List.set_cons_zero])
            iterate 12 go_big_quiet_skip
            (apply quiet_val; (focus rfl); (focus (intro w' hw'; have hk' := hw'.cells; go_simp; all_goals exact rfl)); simp only [Act.put, List.setIfInBounds_toArray, List.set_cons_succ, List.set_cons_zero])
            refine wpQuiet_nil ?_
            intro w2 hx2
            have HX2 := hide (HXK.out.trans hx2)
            clear hx2
            go_wp2
            go_roundw
            case rel => exact ⟨k + 1, by omega, by go_num, by rw [← HK.out], HX2.out⟩
            case measure => simp [intOf]; omega
        · obtain rfl : k = x.length := by omega
          have hkI : ¬ ((x.length : Int) < x.length) := by omega
          have hld := loadT_bd (x := x) (t := t) HAR.out HL.out x.length (Nat.le_refl _)
          by_cases hbl : c.bound < loadT c.args x x.length t x.length
          · have HR := hide (roomB_no htl hbl)
            go_wp2
            go_ret
            exact Ret.mk (ret_b HR.out.symm) (HX0.out.trans HXK.out)
          · have HB := hide hbl
            go_wp2
            go_roundw
            case rel => exact ⟨t + 1, by omega, by go_num, HXK.out, fun u hu => by
              by_cases e : u = t
              · subst e; exact HB.out
              · have := HNO.out u (by omega); omega⟩
            case measure => simp [intOf]; omega
    · obtain rfl : t = 15 := by omega
      have HR := hide (roomB_yes HNO.out)
      go_wp2
      go_ret
      exact Ret.mk (ret_b HR.out.symm) (HX0.out.trans HXT.out)
end Go.Proofs.Ytpnlambndbfenaa
