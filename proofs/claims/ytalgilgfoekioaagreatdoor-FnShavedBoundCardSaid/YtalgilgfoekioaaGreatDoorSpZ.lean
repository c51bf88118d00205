/- When a constraint is satisfied: the walks of the reference's helpers. -/
import Derived.Test.YtalgilgfoekioaaGreatDoorSatZ
import Derived.Test.YtalgilgfoekioaaGreatDoorFilt
import Derived.Test.YtalgilgfoekioaaGreatDoorRelZ
import Derived.Test.YtalgilgfoekioaaGreatDoorCpA
import Derived.Test.YtalgilgfoekioaaGreatDoorPrpZ
namespace Go.Proofs.YtalgilgfoekioaaGreatDoor
open Go.RowKit

set_option maxHeartbeats 2000000 in
theorem distinctS_any (v : Value) (xs : List Int) (w : World) (hS : SInts w v xs) :
    Calls Tryz.prog 69 #[v] w (Ret (.bool (dst xs)) w) := by
  have hS0 := hide hS
  obtain ⟨A, c, rfl, hlc, hln⟩ := hS.form
  clear hS
  go_enter Tryz.func69, Tryz.ntmps69
  go_wp2
  go_loopw [3] (fun i wr => ∃ k : Nat, k ≤ xs.length ∧ i = .int .i64 k ∧ Ext w wr ∧ ∀ j, j < k → hasI (xs.take j) (at0 xs j) = false) (fun i _ => xs.length - (intOf i).toNat)
  case atStart => exact ⟨0, Nat.zero_le _, rfl, Ext.refl w, fun j hj => by omega⟩
  case round =>
    obtain ⟨k, hk, rfl, hx, hno⟩ := hrel
    have HNO := hide hno
    have HX := hide hx
    obtain ⟨W0, rfl⟩ : ∃ W0, W0 = wr := ⟨wr, rfl⟩
    clear hno hx
    by_cases hlt : k < xs.length
    · have hkI : (k : Int) < xs.length := by omega
      go_wp2
      go_loopw [4] (fun i wr => ∃ m : Nat, m ≤ k ∧ i = .int .i64 m ∧ Ext W0 wr ∧ ∀ j, j < m → (at0 xs k == at0 xs j) = false) (fun i _ => k - (intOf i).toNat)
      case atStart => exact ⟨0, Nat.zero_le _, rfl, Ext.refl _, fun j hj => by omega⟩
      case round =>
        obtain ⟨m, hm, rfl, hxm, hnm⟩ := hrel
        have HNM := hide hnm
        have HXM := hide hxm
        clear hnm hxm
        by_cases hmk : m < k
        · have hmI : (m : Int) < k := by omega
          have hml : m < xs.length := by omega
          have hmlI : (m : Int) < xs.length := by omega
          obtain ⟨b, off, rfl, hbl, f1⟩ := ((hS0.out.ext HX.out).ext HXM.out).at_ hlt
          have f2 := ((hS0.out.ext HX.out).ext HXM.out).cell_ hml
          cases he : (at0 xs k == at0 xs m) with
          | true =>
            have HD := hide (show dst xs = false by
              have hh : hasI (xs.take k) (at0 xs k) = true := by
                refine anyB_iff.2 ⟨m, by rw [List.length_take]; omega, ?_⟩
                have e1 : at0 (xs.take k) m = at0 xs m := by
                  unfold at0
                  rw [getD_lt _ _ (by rw [List.length_take]; omega), getD_lt _ _ (by omega), List.getElem_take]
                rw [e1]; exact he
              rw [dst, anyB_iff.2 ⟨k, hlt, hh⟩]; rfl)
            go_wp2
            refine wp_region_ext (by kernel_rfl) (by kernel_rfl) ?_
            iterate 9 (apply quiet_val; (focus rfl); (focus (intro w' hw'; have hk' := hw'.cells; go_simp; all_goals exact rfl)); simp only [Act.put, List.setIfInBounds_toArray, List.set_cons_succ, List.set_cons_zero])
            refine wpQuiet_nil ?_
            intro w2 hx2
            have HX2 := hide ((HX.out.trans HXM.out).trans hx2)
            clear hx2
            go_wp2
            go_ret
            exact Ret.mk (ret_b HD.out.symm) HX2.out
          | false =>
            have HE := hide he
            go_wp2
            refine wp_region_ext (by kernel_rfl) (by kernel_rfl) ?_
            iterate 9 (apply quiet_val; (focus rfl); (focus (intro w' hw'; have hk' := hw'.cells; go_simp; all_goals exact rfl)); simp only [Act.put, List.setIfInBounds_toArray, List.set_cons_succ, List.set_cons_zero])
            refine wpQuiet_nil ?_
            intro w2 hx2
            have HX2 := hide (HXM.out.trans hx2)
            clear hx2
            go_wp2
            go_roundw
            case rel => exact ⟨m + 1, by omega, by go_num, HX2.out, upto_succ HNM.out HE.out⟩
            case measure => simp [intOf]; omega
        · obtain rfl : m = k := by omega
          have hmI : ¬ ((m : Int) < m) := by omega
          have HH := hide (show hasI (xs.take m) (at0 xs m) = false by
            refine anyB_false.2 fun j hj => ?_
            rw [List.length_take] at hj
            have e1 : at0 (xs.take m) j = at0 xs j := by
              unfold at0
              rw [getD_lt _ _ (by rw [List.length_take]; omega), getD_lt _ _ (by omega), List.getElem_take]
            rw [e1]; exact HNM.out j (by omega))
          go_wp2
          go_roundw
          case rel => exact ⟨m + 1, by omega, by go_num, HX.out.trans HXM.out, upto_succ HNO.out HH.out⟩
          case measure => simp [intOf]; omega
    · obtain rfl : k = xs.length := by omega
      have hkI : ¬ ((xs.length : Int) < xs.length) := by omega
      have HD := hide (show dst xs = true by rw [dst, anyB_false.2 HNO.out]; rfl)
      go_wp2
      go_ret
      exact Ret.mk (ret_b HD.out.symm) HX.out
/-- The first k numbers are the same. -/
def sameK (r x : List Int) : Nat → Bool
  | 0 => true
  | k + 1 => sameK r x k && (at0 r k == at0 x k)
theorem sameK_iff (r x : List Int) : ∀ k, sameK r x k = true ↔ ∀ j, j < k → at0 r j = at0 x j
  | 0 => by simp [sameK]
  | k + 1 => by
    rw [sameK, Bool.and_eq_true, sameK_iff r x k, beq_iff_eq]
    constructor
    · rintro ⟨a, b⟩ j hj
      by_cases e : j = k
      · subst e; exact b
      · exact a j (by omega)
    · intro h
      exact ⟨fun j hj => h j (by omega), h k (by omega)⟩
theorem sameK_eq {r x : List Int} (hl : r.length = x.length) : sameK r x x.length = decide (r = x) := by
  rw [Bool.eq_iff_iff, sameK_iff, decide_eq_true_iff]
  constructor
  · intro h; exact at0_ext hl fun u hu => h u (by omega)
  · rintro rfl _ _; rfl
set_option maxHeartbeats 4000000 in
theorem hasRow_any (v vx : Value) (rs : List (List Int)) (x : List Int) (w : World) (hR : SRows w v rs) (hX : SInts w vx x) (hl : ∀ i, i < rs.length → (rw0 rs i).length = x.length) :
    Calls Tryz.prog 115 #[v, vx] w (Ret (.bool (anyB (fun i => decide (rw0 rs i = x)) rs.length)) w) := by
  have hR0 := hide hR
  have hX0 := hide hX
  have HL := hide hl
  obtain ⟨Ar, cr, rfl, -, hlr⟩ := hR.form
  obtain ⟨Ax, cx, rfl, -, hlx⟩ := hX.form
  clear hR hX hl
  go_enter Tryz.func115, Tryz.ntmps115
  go_wp2
  go_loopw [5] (fun i wr => ∃ k : Nat, k ≤ rs.length ∧ i = .int .i64 k ∧ Ext w wr ∧ ∀ j, j < k → decide (rw0 rs j = x) = false) (fun i _ => rs.length - (intOf i).toNat)
  case atStart => exact ⟨0, Nat.zero_le _, rfl, Ext.refl w, fun j hj => by omega⟩
  case round =>
    obtain ⟨k, hk, rfl, hx, hno⟩ := hrel
    have HNO := hide hno
    have HX := hide hx
    obtain ⟨W0, rfl⟩ : ∃ W0, W0 = wr := ⟨wr, rfl⟩
    clear hno hx
    by_cases hlt : k < rs.length
    · have hkI : (k : Int) < rs.length := by omega
      have HLK := hide (HL.out k hlt)
      go_wp2
      go_loopw [6, 7] (fun s i wr => ∃ m : Nat, m ≤ x.length ∧ i = .int .i64 m ∧ Ext W0 wr ∧ s = .bool (sameK (rw0 rs k) x m)) (fun _ i _ => x.length - (intOf i).toNat)
      case atStart => exact ⟨0, Nat.zero_le _, rfl, Ext.refl _, rfl⟩
      case round =>
        obtain ⟨m, hm, rfl, hxm, rfl⟩ := hrel
        have HXM := hide hxm
        clear hxm
        by_cases hml : m < x.length
        · have hmI : (m : Int) < x.length := by omega
          have hmr : m < (rw0 rs k).length := by have := HLK.out; omega
          have hmrI : (m : Int) < (rw0 rs k).length := by omega
          obtain ⟨b, off, A', c', rfl, hbl, f1, hrow⟩ := ((hR0.out.ext HX.out).ext HXM.out).at_ hlt
          obtain ⟨bx, ox, rfl, hbx, f2⟩ := ((hX0.out.ext HX.out).ext HXM.out).at_ hml
          obtain ⟨b3, o3, rfl, hb3, f3⟩ := hrow.at_ hmr
          clear hrow
          cases hs : sameK (rw0 rs k) x m with
          | true =>
            have HK := hide (show (at0 (rw0 rs k) m == at0 x m) = sameK (rw0 rs k) x (m + 1) by rw [sameK, hs, Bool.true_and])
            clear hs
            go_wp2
            refine wp_region_ext (by kernel_rfl) (by kernel_rfl) ?_
            iterate 2 (apply quiet_val; (focus rfl); (focus (intro w' hw'; have hk' := hw'.cells; go_simp; all_goals exact rfl)); simp only [Act.put, List.setIfInBounds_toArray, List.set_cons_succ, List.set_cons_zero])
            iterate 12 (go_big_quiet_want; apply quietK_val; (focus (intro w' hw'; have hk' := hw'.cells; go_simp; all_goals exact rfl)); simp only [Act.put, List.setIfInBounds_toArray, List.set_cons_succ, List.set_cons_zero]; go_big_quiet_on)
            iterate 2 (apply quiet_val; (focus rfl); (focus (intro w' hw'; have hk' := hw'.cells; go_simp; all_goals exact rfl)); simp only [Act.put, List.setIfInBounds_toArray, List.set_cons_succ, List.set_cons_zero])
            refine wpQuiet_nil ?_
            intro w2 hx2
            have HX2 := hide (HXM.out.trans hx2)
            clear hx2
            go_wp2
            go_roundw
            case rel => exact ⟨m + 1, by omega, by go_num, HX2.out, by rw [← HK.out]⟩
            case measure => simp [intOf]; omega
          | false =>
            have HK := hide (show false = sameK (rw0 rs k) x (m + 1) by rw [sameK, hs, Bool.false_and])
            clear hs
            go_wp2
            refine wp_region_ext (by kernel_rfl) (by kernel_rfl) ?_
            iterate 2 (apply quiet_val; (focus rfl); (focus (intro w' hw'; have hk' := hw'.cells; go_simp; all_goals exact rfl)); simp only [Act.put, List.setIfInBounds_toArray, List.set_cons_succ, List.set_cons_zero])
            iterate 12 go_big_quiet_skip
            iterate 2 (apply quiet_val; (focus rfl); (focus (intro w' hw'; have hk' := hw'.cells; go_simp; all_goals exact rfl)); simp only [Act.put, List.setIfInBounds_toArray, List.set_cons_succ, List.set_cons_zero])
            refine wpQuiet_nil ?_
            intro w2 hx2
            have HX2 := hide (HXM.out.trans hx2)
            clear hx2
            go_wp2
            go_roundw
            case rel => exact ⟨m + 1, by omega, by go_num, HX2.out, by rw [← HK.out]⟩
            case measure => simp [intOf]; omega
        · obtain rfl : m = x.length := by omega
          have hmI : ¬ ((x.length : Int) < x.length) := by omega
          have HS := hide (sameK_eq HLK.out)
          cases hd : decide (rw0 rs k = x) with
          | true =>
            have HD := hide (show anyB (fun i => decide (rw0 rs i = x)) rs.length = true from anyB_iff.2 ⟨k, hlt, hd⟩)
            rw [HS.out, hd]
            clear hd
            go_wp2
            go_ret
            exact Ret.mk (ret_b HD.out.symm) (HX.out.trans HXM.out)
          | false =>
            have HD := hide hd
            rw [HS.out, hd]
            clear hd
            go_wp2
            go_roundw
            case rel => exact ⟨k + 1, by omega, by go_num, HX.out.trans HXM.out, upto_succ HNO.out HD.out⟩
            case measure => simp [intOf]; omega
    · obtain rfl : k = rs.length := by omega
      have hkI : ¬ ((rs.length : Int) < rs.length) := by omega
      have HD := hide (show anyB (fun i => decide (rw0 rs i = x)) rs.length = false from anyB_false.2 HNO.out)
      go_wp2
      go_ret
      exact Ret.mk (ret_b HD.out.symm) HX.out
set_option maxHeartbeats 4000000 in
theorem withinCapacity_any (v vx : Value) (c : Con) (x : List Int) (w : World) (hC : SCon w v c) (hX : SInts w vx x) (ha : allR c.args 0 9 = true) (hb : inR c.bound 0 9 = true) (hx : ValL x) (hl : c.args.length = 2 * x.length) (h4 : x.length ≤ 100) :
    Calls Tryz.prog 116 #[v, vx] w (Ret (.bool (roomB c.args c.bound x)) w) := by
  obtain ⟨vv, va, vr, rfl, hV, hA, hR⟩ := hC
  have HAR := hide ha
  have HXV := hide hx
  have HL := hide hl
  obtain ⟨Av, cv, rfl, -, hlv⟩ := hV.form
  obtain ⟨Aa, ca, rfl, -, hla⟩ := hA.form
  obtain ⟨Ar, cr, rfl, -, hlr⟩ := hR.form
  obtain ⟨Ax, cx, rfl, -, hlx⟩ := hX.form
  obtain ⟨w0, hw0⟩ : ∃ w0, w0 = w.alloc (.cells #[.int .i64 c.kk, .slice Av c.vars.length cv, .slice Aa c.args.length ca, .int .i64 c.bound, .slice Ar c.rows.length cr] 60) := ⟨_, rfl⟩
  have hx0 : Ext w w0 := by rw [hw0]; exact (Ext.refl w).alloc _
  have k2 : w0.cell? ⟨w.heap.size, 2, none⟩ = some (.slice Aa c.args.length ca) := by rw [hw0]; go_simp
  have k3 : w0.cell? ⟨w.heap.size, 3, none⟩ = some (.int .i64 c.bound) := by rw [hw0]; go_simp
  have ks : w.heap.size < w0.heap.size := by rw [hw0]; simp
  have HX0 := hide hx0
  have hA0 := hide (hA.ext hx0)
  have hX0 := hide (hX.ext hx0)
  have K2 := hide k2
  have K3 := hide k3
  have hbb : 0 ≤ c.bound ∧ c.bound ≤ 9 := by simpa [inR] using hb
  clear hx0 hV hA hR hX ha hx hl hb k2 k3
  go_enter Tryz.func116, Tryz.ntmps116
  go_wp2
  rw [← hw0]
  clear hw0
  go_loopw [6] (fun i wr => ∃ t : Nat, t ≤ 15 ∧ i = .int .i64 t ∧ Ext w0 wr ∧ ∀ u, u < t → ¬ c.bound < loadT c.args x x.length (u : Nat) x.length) (fun i _ => 15 - (intOf i).toNat)
  case atStart => exact ⟨0, by omega, rfl, Ext.refl _, fun u hu => by omega⟩
  case round =>
    obtain ⟨t, ht, rfl, hxt, hno⟩ := hrel
    have HNO := hide hno
    have HXT := hide hxt
    obtain ⟨W0, rfl⟩ : ∃ W0, W0 = wr := ⟨wr, rfl⟩
    clear hno hxt
    by_cases htl : t < 15
    · have htI : (t : Int) < 15 := by omega
      have htI2 : (t : Int) ≤ 14 := by omega
      go_wp2
      go_loopw [7, 8] (fun s i wr => ∃ k : Nat, k ≤ x.length ∧ i = .int .i64 k ∧ s = .int .i64 (loadT c.args x x.length t k) ∧ Ext w0 wr) (fun _ i _ => x.length - (intOf i).toNat)
      case atStart => exact ⟨0, by omega, rfl, rfl, HXT.out⟩
      case round =>
        obtain ⟨k, hk, rfl, rfl, hxk⟩ := hrel
        have HXK := hide hxk
        have g2 := (hxk.cells _ _ ks).trans K2.out
        have g3 := (hxk.cells _ _ ks).trans K3.out
        have ksr := Nat.lt_of_lt_of_le ks hxk.size
        clear hxk
        by_cases hlt : k < x.length
        · have hkI : (k : Int) < x.length := by omega
          have hka : k < c.args.length := by have := HL.out; omega
          have hka2 : x.length + k < c.args.length := by have := HL.out; omega
          have hkaI : (k : Int) < c.args.length := by omega
          have hka2I : (x.length : Int) + (k : Int) < c.args.length := by omega
          obtain ⟨bx, ox, rfl, hbx, f2⟩ := (hX0.out.ext HXK.out).at_ hlt
          obtain ⟨b, off, rfl, hbl, f1⟩ := (hA0.out.ext HXK.out).at_ hka
          have f3 := (hA0.out.ext HXK.out).cell_ hka2
          have hld := loadT_bd (x := x) (t := t) HAR.out HL.out k hk
          have h1 := allR_at HAR.out hka
          have h2 := allR_at HAR.out hka2
          have h3 := HXV.out k hlt
          have kw : IntKind.i64.wrap (at0 x k + at0 c.args k) = at0 x k + at0 c.args k := IntWalk.i64_in _ (by omega)
          by_cases hr3 : at0 x k ≤ t
          · by_cases hr4 : (t : Int) < at0 x k + at0 c.args k
            · have hr : runsB c.args x t k = true := by simp [runsB, hr3, hr4]
              have HK := hide (show loadT c.args x x.length t k + at0 c.args (x.length + k) = loadT c.args x x.length t (k + 1) by rw [loadT, if_pos hr])
              clear hr
              have d3 : decide (at0 x k ≤ (t : Int)) = true := decide_eq_true hr3
              have d4 : decide ((t : Int) < at0 x k + at0 c.args k) = true := decide_eq_true hr4
              go_wp2
              refine wp_region_ext (by kernel_rfl) (by kernel_rfl) ?_
              iterate 7 (apply quiet_val; (focus rfl); (focus (intro w' hw'; have hk' := hw'.cells; go_simp; all_goals exact rfl)); simp only [Act.put, List.setIfInBounds_toArray, List.set_cons_succ, List.set_cons_zero])
              iterate 12 (go_big_quiet_want; apply quietK_val; (focus (intro w' hw'; have hk' := hw'.cells; go_simp; all_goals exact rfl)); simp only [Act.put, List.setIfInBounds_toArray, List.set_cons_succ, List.set_cons_zero]; go_big_quiet_on)
              (apply quiet_val; (focus rfl); (focus (intro w' hw'; have hk' := hw'.cells; go_simp; all_goals exact rfl)); simp only [Act.put, List.setIfInBounds_toArray, List.set_cons_succ, List.set_cons_zero])
              refine wpQuiet_nil ?_
              intro w2 hx2
              have HX2 := hide (HXK.out.trans hx2)
              have g2 := (hx2.cells _ _ ksr).trans g2
              have f3 := (hA0.out.ext HX2.out).cell_ hka2
              have hbl := Nat.lt_of_lt_of_le hbl hx2.size
              clear hx2
              go_wp2
              go_roundw
              case rel => exact ⟨k + 1, by omega, by go_num, by rw [← HK.out], HX2.out⟩
              case measure => simp [intOf]; omega
            · have hr : ¬ runsB c.args x t k = true := by intro h; simp [runsB] at h; omega
              have HK := hide (show loadT c.args x x.length t k = loadT c.args x x.length t (k + 1) by rw [loadT, if_neg hr])
              clear hr
              have d3 : decide (at0 x k ≤ (t : Int)) = true := decide_eq_true hr3
              have d4 : decide ((t : Int) < at0 x k + at0 c.args k) = false := decide_eq_false hr4
              go_wp2
              refine wp_region_ext (by kernel_rfl) (by kernel_rfl) ?_
              iterate 7 (apply quiet_val; (focus rfl); (focus (intro w' hw'; have hk' := hw'.cells; go_simp; all_goals exact rfl)); simp only [Act.put, List.setIfInBounds_toArray, List.set_cons_succ, List.set_cons_zero])
              iterate 12 (go_big_quiet_want; apply quietK_val; (focus (intro w' hw'; have hk' := hw'.cells; go_simp; all_goals exact rfl)); simp only [Act.put, List.setIfInBounds_toArray, List.set_cons_succ, List.set_cons_zero]; go_big_quiet_on)
              (apply quiet_val; (focus rfl); (focus (intro w' hw'; have hk' := hw'.cells; go_simp; all_goals exact rfl)); simp only [Act.put, List.setIfInBounds_toArray, List.set_cons_succ, List.set_cons_zero])
              refine wpQuiet_nil ?_
              intro w2 hx2
              have HX2 := hide (HXK.out.trans hx2)
              clear hx2
              go_wp2
              go_roundw
              case rel => exact ⟨k + 1, by omega, by go_num, by rw [← HK.out], HX2.out⟩
              case measure => simp [intOf]; omega
          · have hr : ¬ runsB c.args x t k = true := by intro h; simp [runsB] at h; omega
            have HK := hide (show loadT c.args x x.length t k = loadT c.args x x.length t (k + 1) by rw [loadT, if_neg hr])
            clear hr
            have d3 : decide (at0 x k ≤ (t : Int)) = false := decide_eq_false hr3
            go_wp2
            refine wp_region_ext (by kernel_rfl) (by kernel_rfl) ?_
            iterate 7 (apply quiet_val; (focus rfl); (focus (intro w' hw'; have hk' := hw'.cells; go_simp; all_goals exact rfl)); simp only [Act.put, List.setIfInBounds_toArray, List.set_cons_succ, List.set_cons_zero])
            iterate 12 go_big_quiet_skip
            (apply quiet_val; (focus rfl); (focus (intro w' hw'; have hk' := hw'.cells; go_simp; all_goals exact rfl)); simp only [Act.put, List.setIfInBounds_toArray, List.set_cons_succ, List.set_cons_zero])
            refine wpQuiet_nil ?_
            intro w2 hx2
            have HX2 := hide (HXK.out.trans hx2)
            clear hx2
            go_wp2
            go_roundw
            case rel => exact ⟨k + 1, by omega, by go_num, by rw [← HK.out], HX2.out⟩
            case measure => simp [intOf]; omega
        · obtain rfl : k = x.length := by omega
          have hkI : ¬ ((x.length : Int) < x.length) := by omega
          have hld := loadT_bd (x := x) (t := t) HAR.out HL.out x.length (Nat.le_refl _)
          by_cases hbl : c.bound < loadT c.args x x.length t x.length
          · have HR := hide (roomB_no htl hbl)
            go_wp2
            go_ret
            exact Ret.mk (ret_b HR.out.symm) (HX0.out.trans HXK.out)
          · have HB := hide hbl
            go_wp2
            go_roundw
            case rel => exact ⟨t + 1, by omega, by go_num, HXK.out, fun u hu => by
              by_cases e : u = t
              · subst e; exact HB.out
              · have := HNO.out u (by omega); omega⟩
            case measure => simp [intOf]; omega
    · obtain rfl : t = 15 := by omega
      have HR := hide (roomB_yes HNO.out)
      go_wp2
      go_ret
      exact Ret.mk (ret_b HR.out.symm) (HX0.out.trans HXT.out)
end Go.Proofs.YtalgilgfoekioaaGreatDoor
/- When a constraint is satisfied: the reference's walks of an automaton and of a circuit. -/
namespace Go.Proofs.YtalgilgfoekioaaGreatDoor
open Go.RowKit

set_option maxHeartbeats 4000000 in
theorem acceptsS_any (v vx : Value) (c : Con) (x : List Int) (w : World) (hC : SCon w v c) (hX : SInts w vx x) (hr : vRows c.rows 6 (-1) (c.rows.length - 1) = true) (hx : ValL x) (h4 : x.length ≤ 100) :
    Calls Tryz.prog 117 #[v, vx] w (Ret (.bool (acceptB c.rows c.args x)) w) := by
  obtain ⟨vv, va, vr, rfl, hV, hA, hR⟩ := hC
  have HVR := hide hr
  have HXV := hide hx
  obtain ⟨Av, cv, rfl, -, hlv⟩ := hV.form
  obtain ⟨Aa, ca, rfl, -, hla⟩ := hA.form
  obtain ⟨Ar, cr, rfl, -, hlr⟩ := hR.form
  obtain ⟨Ax, cx, rfl, -, hlx⟩ := hX.form
  have hrl := vRows_len hr
  obtain ⟨w0, hw0⟩ : ∃ w0, w0 = w.alloc (.cells #[.int .i64 c.kk, .slice Av c.vars.length cv, .slice Aa c.args.length ca, .int .i64 c.bound, .slice Ar c.rows.length cr] 60) := ⟨_, rfl⟩
  have hx0 : Ext w w0 := by rw [hw0]; exact (Ext.refl w).alloc _
  have k2 : w0.cell? ⟨w.heap.size, 2, none⟩ = some (.slice Aa c.args.length ca) := by rw [hw0]; go_simp
  have k4 : w0.cell? ⟨w.heap.size, 4, none⟩ = some (.slice Ar c.rows.length cr) := by rw [hw0]; go_simp
  have ks : w.heap.size < w0.heap.size := by rw [hw0]; simp
  have HX0 := hide hx0
  have hA0 := hide (hA.ext hx0)
  have hR0 := hide (hR.ext hx0)
  have hX0 := hide (hX.ext hx0)
  have K2 := hide k2
  have K4 := hide k4
  clear hx0 hV hA hR hX hr hx k2 k4
  go_enter Tryz.func117, Tryz.ntmps117
  go_wp2
  rw [← hw0]
  clear hw0
  go_loopw [5, 6] (fun s i wr => ∃ k : Nat, k ≤ x.length ∧ i = .int .i64 k ∧ s = .int .i64 (runA c.rows x k) ∧ Ext w0 wr ∧ 0 ≤ runA c.rows x k ∧ runA c.rows x k < c.rows.length) (fun _ i _ => x.length - (intOf i).toNat)
  case atStart => exact ⟨0, by omega, rfl, rfl, Ext.refl _, by simp [runA], by simp [runA]; omega⟩
  case round =>
    obtain ⟨k, hk, rfl, rfl, hxk, hs0, hs1⟩ := hrel
    have HXK := hide hxk
    have g2 := (hxk.cells _ _ ks).trans K2.out
    have g4 := (hxk.cells _ _ ks).trans K4.out
    have ksr := Nat.lt_of_lt_of_le ks hxk.size
    clear hxk
    by_cases hlt : k < x.length
    · have hkI : (k : Int) < x.length := by omega
      obtain ⟨s, hs⟩ : ∃ s : Nat, runA c.rows x k = s := ⟨(runA c.rows x k).toNat, by omega⟩
      rw [hs] at hs0 hs1
      have hsl : s < c.rows.length := by omega
      obtain ⟨bx, ox, rfl, hbx, f1⟩ := (hX0.out.ext HXK.out).at_ hlt
      have h3 := HXV.out k hlt
      obtain ⟨u, hu⟩ : ∃ u : Nat, at0 x k = u := ⟨(at0 x k).toNat, by omega⟩
      rw [hu] at f1 h3
      obtain ⟨br, orr, A', c', rfl, hbl, f2, hrow⟩ := (hR0.out.ext HXK.out).at_ hsl
      obtain ⟨q1, q2⟩ := vRows_at HVR.out hsl
      have hul : u < (rw0 c.rows s).length := by omega
      have hulI : (u : Int) < (rw0 c.rows s).length := by omega
      obtain ⟨b3, o3, rfl, hb3, f3⟩ := hrow.at_ hul
      have h5 := allR_at q2 hul
      have HK := hide (show runA c.rows x (k + 1) = at0 (rw0 c.rows s) u by rw [runA, hs, hu, if_neg (by omega)]; rfl)
      have HS := hide hs
      have HI := hide (hrow.i64 hul)
      have hq1 := hide q1
      rw [hs]
      clear hs hu hrow q2 q1
      by_cases hneg : at0 (rw0 c.rows s) u < 0
      · have HN := hide (acceptB_no (f := c.args) (show k + 1 ≤ x.length by omega) (by rw [HK.out]; exact hneg))
        go_wp2
        refine wp_region_ext (by kernel_rfl) (by kernel_rfl) ?_
        iterate 12 (apply quiet_val; (focus rfl); (focus (intro w' hw'; have hk' := hw'.cells; go_simp; all_goals exact rfl)); simp only [Act.put, List.setIfInBounds_toArray, List.set_cons_succ, List.set_cons_zero])
        refine wpQuiet_nil ?_
        intro w2 hx2
        have HX2 := hide ((HX0.out.trans HXK.out).trans hx2)
        clear hx2
        go_wp2
        go_ret
        exact Ret.mk (ret_b HN.out.symm) HX2.out
      · have HN := hide hneg
        go_wp2
        refine wp_region_ext (by kernel_rfl) (by kernel_rfl) ?_
        iterate 12 (apply quiet_val; (focus rfl); (focus (intro w' hw'; have hk' := hw'.cells; go_simp; all_goals exact rfl)); simp only [Act.put, List.setIfInBounds_toArray, List.set_cons_succ, List.set_cons_zero])
        refine wpQuiet_nil ?_
        intro w2 hx2
        have HX2 := hide (HXK.out.trans hx2)
        clear hx2
        go_wp2
        go_roundw
        case rel => exact ⟨k + 1, by omega, by go_num, by rw [HK.out], HX2.out, by rw [HK.out]; omega, by rw [HK.out]; omega⟩
        case measure => simp [intOf]; omega
    · obtain rfl : k = x.length := by omega
      have hkI : ¬ ((x.length : Int) < x.length) := by omega
      have HQ := hide (show acceptB c.rows c.args x = hasI c.args (runA c.rows x x.length) by unfold acceptB; rw [decide_eq_true hs0, Bool.true_and])
      obtain ⟨s, hs⟩ : ∃ s, s = runA c.rows x x.length := ⟨_, rfl⟩
      rw [← hs] at HQ ⊢
      obtain ⟨W1, rfl⟩ : ∃ W1, W1 = wr := ⟨wr, rfl⟩
      clear hs0 hs1 hs
      go_wp2
      go_loopw [7] (fun i wr => ∃ m : Nat, m ≤ c.args.length ∧ i = .int .i64 m ∧ wr = W1 ∧ ∀ j, j < m → (s == at0 c.args j) = false) (fun i _ => c.args.length - (intOf i).toNat)
      case atStart => exact ⟨0, by omega, rfl, by first | rfl | trivial, fun j hj => by omega⟩
      case round =>
        obtain ⟨m, hm, rfl, rfl, hno⟩ := hrel
        have HNO := hide hno
        clear hno
        by_cases hml : m < c.args.length
        · have hmI : (m : Int) < c.args.length := by omega
          obtain ⟨b, off, rfl, hbl, f1⟩ := (hA0.out.ext HXK.out).at_ hml
          cases he : (s == at0 c.args m) with
          | true =>
            have HD := hide (show hasI c.args s = true from anyB_iff.2 ⟨m, hml, he⟩)
            have he2 : (at0 c.args m == s) = true := by rw [beq_iff_eq] at he ⊢; exact he.symm
            clear he
            go_wp2
            go_ret
            exact Ret.mk (ret_b (by rw [HQ.out, HD.out])) (HX0.out.trans HXK.out)
          | false =>
            have HE := hide he
            have he2 : (at0 c.args m == s) = false := by rw [beq_eq_false_iff_ne] at he ⊢; exact fun h => he h.symm
            clear he
            go_wp2
            go_roundw
            case rel => exact ⟨m + 1, by omega, by go_num, by first | rfl | trivial, upto_succ HNO.out HE.out⟩
            case measure => simp [intOf]; omega
        · obtain rfl : m = c.args.length := by omega
          have hmI : ¬ ((c.args.length : Int) < c.args.length) := by omega
          have HD := hide (show hasI c.args s = false from anyB_false.2 HNO.out)
          go_wp2
          go_ret
          exact Ret.mk (ret_b (by rw [HQ.out, HD.out])) (HX0.out.trans HXK.out)
/-- A way that comes back at last only leads through all places. -/
def cycT (x : List Int) : Bool :=
  !((posC x x.length == 0) && (!anyB (fun k => decide (0 < k) && posC x k == 0) x.length && !anyB (fun k => decide ((x.length : Int) ≤ posC x k)) x.length)) || allR x 0 (x.length - 1)
theorem cycT_all : (List.range 5).all (fun n => (tups (List.replicate n 63)).all cycT) = true := by decide +kernel
theorem cycT_any {x : List Int} (hx : ValL x) (h4 : x.length ≤ 4) : cycT x = true := by
  have h := List.all_eq_true.1 cycT_all x.length (List.mem_range.2 (by omega))
  refine List.all_eq_true.1 h x ((tups_in _ x).2 ⟨by simp, fun i hi => ?_⟩)
  rw [List.length_replicate] at hi
  obtain ⟨v, hv, e⟩ := hx.at_ hi
  refine ⟨v, hv, e, ?_⟩
  have : at0 (List.replicate x.length (63 : Int)) i = 63 := by
    unfold at0; rw [getD_lt _ _ (by simpa using hi)]; simp
  rw [this]
  have : (List.range 6).all (fun v => hasB 63 v) = true := by decide
  exact List.all_eq_true.1 this v (List.mem_range.2 hv)
theorem cycB_ret {x : List Int} (hx : ValL x) (h4 : x.length ≤ 4) {s : Nat} (h0 : 0 < s) (hs : s ≤ x.length) (hz : posC x s = 0) (hn : ∀ k, 0 < k → k < s → posC x k ≠ 0) (hb : ∀ k, k < s → posC x k < x.length) : cycB x = decide (s = x.length) := by
  by_cases e : s = x.length
  · have hc := cycT_any hx h4
    have : allR x 0 (x.length - 1) = true := by
      unfold cycT at hc
      subst e
      rw [hz, anyB_false.2 (fun k hk => by
        by_cases h0 : 0 < k
        · have := hn k h0 hk; simp [this]
        · simp [h0]), anyB_false.2 (fun k hk => by have := hb k hk; simp; omega)] at hc
      simpa using hc
    exact cycB_at this h0 hs hz hn
  · rw [decide_eq_false e]
    unfold cycB
    rw [anyB_iff.2 ⟨s, by omega, by simp [h0, hz]⟩]
    simp
theorem allR_of_out {x : List Int} {u : Nat} (hu : u < x.length) (h : (x.length : Int) ≤ at0 x u) : allR x 0 (x.length - 1) = false := by
  refine allR_no hu ?_
  have : ¬ at0 x u ≤ x.length - 1 := by omega
  simp [inR, this]
set_option maxHeartbeats 4000000 in
theorem isCircuit_any (vx : Value) (x : List Int) (w : World) (hX : SInts w vx x) (hx : ValL x) (h4 : x.length ≤ 4) (h1 : 1 ≤ x.length) :
    Calls Tryz.prog 118 #[vx] w (Ret (.bool (cycB x)) w) := by
  have hX0 := hide hX
  have HXV := hide hx
  obtain ⟨Ax, cx, rfl, -, hlx⟩ := hX.form
  clear hX hx
  have HB0 := hide (show ∀ j, j ≤ 0 → posC x j < x.length from fun j hj => by
    obtain rfl : j = 0 := by omega
    simp [posC]; omega)
  go_enter Tryz.func118, Tryz.ntmps118
  go_wp2
  go_loop [3, 4] (fun s i => ∃ k u : Nat, k ≤ x.length ∧ i = .int .i64 ((k : Int) + 1) ∧ s = .int .i64 u ∧ posC x k = u ∧ u < x.length ∧ (∀ j, 0 < j → j ≤ k → posC x j ≠ 0) ∧ ∀ j, j ≤ k → posC x j < x.length) (fun _ i => x.length + 1 - (intOf i).toNat)
  case atStart => exact ⟨0, 0, by omega, rfl, rfl, rfl, by omega, fun j h0 hj => by omega, HB0.out⟩
  case round =>
    obtain ⟨k, u, hk, rfl, rfl, hu, hul, hno, hbd⟩ := hrel
    have HNO := hide hno
    have HBD := hide hbd
    have HU := hide hu
    clear hno hu hbd
    by_cases hlt : k < x.length
    · have hkI : (k : Int) + 1 ≤ x.length := by omega
      have hulI : (u : Int) < x.length := by omega
      obtain ⟨bx, ox, rfl, hbx, f1⟩ := hX0.out.at_ hul
      have h3 := HXV.out u hul
      obtain ⟨t, ht⟩ : ∃ t : Nat, at0 x u = t := ⟨(at0 x u).toNat, by omega⟩
      rw [ht] at f1 h3
      have HP := hide (show posC x (k + 1) = t by rw [posC, HU.out, Int.toNat_natCast, ht])
      have HT := hide ht
      clear ht
      by_cases hout : (x.length : Int) ≤ t
      · have HC := hide (cycB_big (allR_of_out hul (by rw [HT.out]; exact hout)))
        go_wp2
        go_ret
        exact Ret.mk (ret_b HC.out.symm) (Ext.refl _)
      · have htl : ¬ (x.length : Int) ≤ t := hout
        cases hz : ((t : Int) == 0) with
        | true =>
          have HC := hide (cycB_ret HXV.out h4 (s := k + 1) (by omega) (by omega) (by rw [HP.out]; rw [beq_iff_eq] at hz; exact hz) (fun j h0 hj => HNO.out j h0 (by omega)) (fun j hj => HBD.out j (by omega)))
          cases hd : ((k : Int) + 1 == (x.length : Int)) with
          | true =>
            have HE := hide (show decide (k + 1 = x.length) = true by rw [beq_iff_eq] at hd; simp; omega)
            go_wp2
            go_ret
            exact Ret.mk (ret_b (HC.out.trans HE.out).symm) (Ext.refl _)
          | false =>
            have HE := hide (show decide (k + 1 = x.length) = false by rw [beq_eq_false_iff_ne] at hd; simp; omega)
            go_wp2
            go_ret
            exact Ret.mk (ret_b (HC.out.trans HE.out).symm) (Ext.refl _)
        | false =>
          have HZ := hide hz
          go_wp2
          go_round
          case rel => exact ⟨k + 1, t, by omega, by go_num, rfl, HP.out, by omega, fun j h0 hj => by
            by_cases e : j = k + 1
            · subst e; rw [HP.out]; have := HZ.out; rw [beq_eq_false_iff_ne] at this; exact this
            · exact HNO.out j h0 (by omega), fun j hj => by
            by_cases e : j = k + 1
            · subst e; rw [HP.out]; omega
            · exact HBD.out j (by omega)⟩
          case measure => simp [intOf]; omega
    · obtain rfl : k = x.length := by omega
      have hkI : ¬ ((x.length : Int) + 1 ≤ x.length) := by omega
      have HC := hide (cycB_none HNO.out h1)
      go_wp2
      go_ret
      exact Ret.mk (ret_b HC.out.symm) (Ext.refl _)
end Go.Proofs.YtalgilgfoekioaaGreatDoor
/- When a constraint is satisfied: satisfies of the reference, kind by kind. -/
namespace Go.Proofs.YtalgilgfoekioaaGreatDoor
open Go.RowKit

set_option maxRecDepth 100000 in
set_option maxHeartbeats 4000000 in
theorem sps_1 (vv va vr vx : Value) (vars args : List Int) (b : Int) (rows : List (List Int)) (x : List Int) (w : World) (hV : SInts w vv vars) (hA : SInts w va args) (hR : SRows w vr rows) (hX : SInts w vx x) (hx : ValL x) (hl : x.length = vars.length) (h4 : x.length ≤ 4) (h1 : 1 ≤ x.length) (ha : allR args (-9) 9 = true) (hal : args.length = vars.length):
    Calls Tryz.prog 112 #[.agg #[.int .i64 1, vv, va, .int .i64 b, vr], vx] w (Ret (.bool (satB ⟨1, vars, args, b, rows⟩ x)) w) := by
  have HXV := hide hx
  have HL := hide hl
  obtain ⟨Av, cv, rfl, -, hlv⟩ := hV.form
  obtain ⟨Aa, ca, rfl, -, hla⟩ := hA.form
  obtain ⟨Ar, cr, rfl, -, hlr⟩ := hR.form
  obtain ⟨Ax, cx, rfl, -, hlx⟩ := hX.form
  obtain ⟨w0, hw0⟩ : ∃ w0, w0 = w.alloc (.cells #[.int .i64 1, .slice Av vars.length cv, .slice Aa args.length ca, .int .i64 b, .slice Ar rows.length cr] 60) := ⟨_, rfl⟩
  have hx0 : Ext w w0 := by rw [hw0]; exact (Ext.refl w).alloc _
  have k0 : w0.cell? ⟨w.heap.size, 0, none⟩ = some (.int .i64 1) := by rw [hw0]; go_simp
  have k1 : w0.cell? ⟨w.heap.size, 1, none⟩ = some (.slice Av vars.length cv) := by rw [hw0]; go_simp
  have k2 : w0.cell? ⟨w.heap.size, 2, none⟩ = some (.slice Aa args.length ca) := by rw [hw0]; go_simp
  have k3 : w0.cell? ⟨w.heap.size, 3, none⟩ = some (.int .i64 b) := by rw [hw0]; go_simp
  have k4 : w0.cell? ⟨w.heap.size, 4, none⟩ = some (.slice Ar rows.length cr) := by rw [hw0]; go_simp
  have ks : w.heap.size < w0.heap.size := by rw [hw0]; simp
  have HX0 := hide hx0
  have hV0 := hide (hV.ext hx0)
  have hA0 := hide (hA.ext hx0)
  have hR0 := hide (hR.ext hx0)
  have hX0 := hide (hX.ext hx0)
  have K0 := hide k0
  have K1 := hide k1
  have K2 := hide k2
  have K3 := hide k3
  have K4 := hide k4
  clear hx0 hV hA hR hX hx hl k0 k1 k2 k3 k4
  have _u4 := h4
  have _u1 := h1
  clear _u4 _u1
  have HA := hide ha
  have hal2 : args.length = x.length := hal.trans HL.out.symm
  have HAL := hide hal2
  have HS := hide (show satB ⟨1, vars, args, b, rows⟩ x = decide (wsum args x x.length ≤ b) from rfl)
  clear ha hal hal2
  go_enter Tryz.func112, Tryz.ntmps112
  go_wp2
  rw [← hw0]
  clear hw0
  go_loopw [5, 6] (fun s i wr => ∃ k : Nat, k ≤ x.length ∧ i = .int .i64 k ∧ s = .int .i64 (wsum args x k) ∧ Ext w0 wr) (fun _ i _ => x.length - (intOf i).toNat)
  case atStart => exact ⟨0, Nat.zero_le _, rfl, rfl, Ext.refl _⟩
  case round =>
    obtain ⟨k, hk, rfl, rfl, hxk⟩ := hrel
    have HXK := hide hxk
    have g2 := (hxk.cells _ _ ks).trans K2.out
    have g3 := (hxk.cells _ _ ks).trans K3.out
    have ksr := Nat.lt_of_lt_of_le ks hxk.size
    clear hxk
    by_cases hlt : k < x.length
    · have hkI : (k : Int) < x.length := by omega
      have hka : k < args.length := by rw [HAL.out]; exact hlt
      have hkaI : (k : Int) < args.length := by omega
      obtain ⟨bx, ox, rfl, hbx, f2⟩ := (hX0.out.ext HXK.out).at_ hlt
      obtain ⟨ba, oa, rfl, hba, f1⟩ := (hA0.out.ext HXK.out).at_ hka
      have h1' := wsum_bd HA.out HXV.out HAL.out k (by omega)
      have h2 := allR_at HA.out hka
      have h3 := HXV.out k hlt
      have h5 := mul_bdS (A := 9) (X := 5) h2.1 h2.2 h3.1 h3.2 (by omega)
      obtain ⟨p, hp⟩ : ∃ p, p = at0 args k * at0 x k := ⟨_, rfl⟩
      have HK := hide (show wsum args x k + p = wsum args x (k + 1) by rw [hp]; rfl)
      rw [← hp] at h5
      have kp : IntKind.i64.wrap (at0 args k * at0 x k) = p := by rw [← hp]; exact IntWalk.i64_in _ (by omega)
      have kq : IntKind.i64.wrap (wsum args x k + p) = wsum args x k + p := IntWalk.i64_in _ (by omega)
      clear hp
      go_wp2
      refine wp_region_ext (by kernel_rfl) (by kernel_rfl) ?_
      iterate 13 (apply quiet_val; (focus rfl); (focus (intro w' hw'; have hk' := hw'.cells; go_simp; all_goals exact rfl)); simp only [Act.put, List.setIfInBounds_toArray, List.set_cons_succ, List.set_cons_zero])
      refine wpQuiet_nil ?_
      intro w2 hx2
      have HX2 := hide (HXK.out.trans hx2)
      clear hx2
      go_wp2
      go_roundw
      case rel => exact ⟨k + 1, by omega, by go_num, by rw [← HK.out], HX2.out⟩
      case measure => simp [intOf]; omega
    · obtain rfl : k = x.length := by omega
      have hkI : ¬ ((x.length : Int) < x.length) := by omega
      go_wp2
      go_ret
      exact Ret.mk (ret_b HS.out.symm) (HX0.out.trans HXK.out)
set_option maxRecDepth 100000 in
set_option maxHeartbeats 4000000 in
theorem sps_2 (vv va vr vx : Value) (vars args : List Int) (b : Int) (rows : List (List Int)) (x : List Int) (w : World) (hV : SInts w vv vars) (hA : SInts w va args) (hR : SRows w vr rows) (hX : SInts w vx x) (hx : ValL x) (hl : x.length = vars.length) (h4 : x.length ≤ 4) (h1 : 1 ≤ x.length) (ha : allR args (-9) 9 = true) (hal : args.length = 1) (hv2 : vars.length = 2):
    Calls Tryz.prog 112 #[.agg #[.int .i64 2, vv, va, .int .i64 b, vr], vx] w (Ret (.bool (satB ⟨2, vars, args, b, rows⟩ x)) w) := by
  have HXV := hide hx
  have HL := hide hl
  obtain ⟨Av, cv, rfl, -, hlv⟩ := hV.form
  obtain ⟨Aa, ca, rfl, -, hla⟩ := hA.form
  obtain ⟨Ar, cr, rfl, -, hlr⟩ := hR.form
  obtain ⟨Ax, cx, rfl, -, hlx⟩ := hX.form
  obtain ⟨w0, hw0⟩ : ∃ w0, w0 = w.alloc (.cells #[.int .i64 2, .slice Av vars.length cv, .slice Aa args.length ca, .int .i64 b, .slice Ar rows.length cr] 60) := ⟨_, rfl⟩
  have hx0 : Ext w w0 := by rw [hw0]; exact (Ext.refl w).alloc _
  have k0 : w0.cell? ⟨w.heap.size, 0, none⟩ = some (.int .i64 2) := by rw [hw0]; go_simp
  have k1 : w0.cell? ⟨w.heap.size, 1, none⟩ = some (.slice Av vars.length cv) := by rw [hw0]; go_simp
  have k2 : w0.cell? ⟨w.heap.size, 2, none⟩ = some (.slice Aa args.length ca) := by rw [hw0]; go_simp
  have k3 : w0.cell? ⟨w.heap.size, 3, none⟩ = some (.int .i64 b) := by rw [hw0]; go_simp
  have k4 : w0.cell? ⟨w.heap.size, 4, none⟩ = some (.slice Ar rows.length cr) := by rw [hw0]; go_simp
  have ks : w.heap.size < w0.heap.size := by rw [hw0]; simp
  have HX0 := hide hx0
  have hV0 := hide (hV.ext hx0)
  have hA0 := hide (hA.ext hx0)
  have hR0 := hide (hR.ext hx0)
  have hX0 := hide (hX.ext hx0)
  have K0 := hide k0
  have K1 := hide k1
  have K2 := hide k2
  have K3 := hide k3
  have K4 := hide k4
  clear hx0 hV hA hR hX hx hl k0 k1 k2 k3 k4
  have _u4 := h4
  have _u1 := h1
  clear _u4 _u1
  have HS := hide (show satB ⟨2, vars, args, b, rows⟩ x = (at0 x 0 != at0 x 1 + at0 args 0) from rfl)
  have hx2l : x.length = 2 := HL.out.trans hv2
  have g0 := HXV.out 0 (by omega)
  have g1 := HXV.out 1 (by omega)
  have g2 := allR_at ha (k := 0) (by omega)
  have c2 := K2.out
  obtain ⟨bx, ox, rfl, hbx, f0⟩ := hX0.out.at_ (k := 0) (by omega)
  have f1 := hX0.out.cell_ (k := 1) (by omega)
  obtain ⟨ba, oa, rfl, hba, f2⟩ := hA0.out.at_ (k := 0) (by omega)
  have i0 : 0 < x.length := by omega
  have i1 : (1 : Int) < x.length := by omega
  have i2 : 0 < args.length := by omega
  simp only [Nat.add_zero] at f0 f2
  have kw : IntKind.i64.wrap (at0 x 1 + at0 args 0) = at0 x 1 + at0 args 0 := IntWalk.i64_in _ (by omega)
  have HH := hide hx2l
  have HHA := hide hal
  clear hx2l hv2 hal ha
  go_enter Tryz.func112, Tryz.ntmps112
  go_wp2
  rw [← hw0]
  clear hw0
  refine wp_region_ext (by kernel_rfl) (by kernel_rfl) ?_
  iterate 13 (apply quiet_val; (focus rfl); (focus (intro w' hw'; have hk' := hw'.cells; go_simp; all_goals exact rfl)); simp only [Act.put, List.setIfInBounds_toArray, List.set_cons_succ, List.set_cons_zero])
  refine wpQuiet_nil ?_
  intro w2 hx2
  have HX2 := hide (HX0.out.trans hx2)
  clear hx2
  go_wp2
  go_ret
  exact Ret.mk (ret_b HS.out.symm) HX2.out
set_option maxRecDepth 100000 in
set_option maxHeartbeats 4000000 in
theorem sps_3 (vv va vr vx : Value) (vars args : List Int) (b : Int) (rows : List (List Int)) (x : List Int) (w : World) (hV : SInts w vv vars) (hA : SInts w va args) (hR : SRows w vr rows) (hX : SInts w vx x) (hx : ValL x) (hl : x.length = vars.length) (h4 : x.length ≤ 4) (h1 : 1 ≤ x.length) :
    Calls Tryz.prog 112 #[.agg #[.int .i64 3, vv, va, .int .i64 b, vr], vx] w (Ret (.bool (satB ⟨3, vars, args, b, rows⟩ x)) w) := by
  have HXV := hide hx
  have HL := hide hl
  obtain ⟨Av, cv, rfl, -, hlv⟩ := hV.form
  obtain ⟨Aa, ca, rfl, -, hla⟩ := hA.form
  obtain ⟨Ar, cr, rfl, -, hlr⟩ := hR.form
  obtain ⟨Ax, cx, rfl, -, hlx⟩ := hX.form
  obtain ⟨w0, hw0⟩ : ∃ w0, w0 = w.alloc (.cells #[.int .i64 3, .slice Av vars.length cv, .slice Aa args.length ca, .int .i64 b, .slice Ar rows.length cr] 60) := ⟨_, rfl⟩
  have hx0 : Ext w w0 := by rw [hw0]; exact (Ext.refl w).alloc _
  have k0 : w0.cell? ⟨w.heap.size, 0, none⟩ = some (.int .i64 3) := by rw [hw0]; go_simp
  have k1 : w0.cell? ⟨w.heap.size, 1, none⟩ = some (.slice Av vars.length cv) := by rw [hw0]; go_simp
  have k2 : w0.cell? ⟨w.heap.size, 2, none⟩ = some (.slice Aa args.length ca) := by rw [hw0]; go_simp
  have k3 : w0.cell? ⟨w.heap.size, 3, none⟩ = some (.int .i64 b) := by rw [hw0]; go_simp
  have k4 : w0.cell? ⟨w.heap.size, 4, none⟩ = some (.slice Ar rows.length cr) := by rw [hw0]; go_simp
  have ks : w.heap.size < w0.heap.size := by rw [hw0]; simp
  have HX0 := hide hx0
  have hV0 := hide (hV.ext hx0)
  have hA0 := hide (hA.ext hx0)
  have hR0 := hide (hR.ext hx0)
  have hX0 := hide (hX.ext hx0)
  have K0 := hide k0
  have K1 := hide k1
  have K2 := hide k2
  have K3 := hide k3
  have K4 := hide k4
  clear hx0 hV hA hR hX hx hl k0 k1 k2 k3 k4
  have _u4 := h4
  have _u1 := h1
  clear _u4 _u1
  have HS := hide (show satB ⟨3, vars, args, b, rows⟩ x = dst x from rfl)
  go_enter Tryz.func112, Tryz.ntmps112
  go_wp2_with fail
  rw [← hw0]
  refine (distinctS_any _ x _ hX0.out).mono ?_
  rintro e w2 ⟨rfl, hx2⟩
  have HX2 := hide (HX0.out.trans hx2)
  clear hx2 hw0
  go_wp2
  go_ret
  exact Ret.mk (ret_b HS.out.symm) HX2.out
set_option maxRecDepth 100000 in
set_option maxHeartbeats 4000000 in
theorem sps_5 (vv va vr vx : Value) (vars args : List Int) (b : Int) (rows : List (List Int)) (x : List Int) (w : World) (hV : SInts w vv vars) (hA : SInts w va args) (hR : SRows w vr rows) (hX : SInts w vx x) (hx : ValL x) (hl : x.length = vars.length) (h4 : x.length ≤ 4) (h1 : 1 ≤ x.length) (hr : ∀ i, i < rows.length → (rw0 rows i).length = x.length) :
    Calls Tryz.prog 112 #[.agg #[.int .i64 5, vv, va, .int .i64 b, vr], vx] w (Ret (.bool (satB ⟨5, vars, args, b, rows⟩ x)) w) := by
  have HXV := hide hx
  have HL := hide hl
  obtain ⟨Av, cv, rfl, -, hlv⟩ := hV.form
  obtain ⟨Aa, ca, rfl, -, hla⟩ := hA.form
  obtain ⟨Ar, cr, rfl, -, hlr⟩ := hR.form
  obtain ⟨Ax, cx, rfl, -, hlx⟩ := hX.form
  obtain ⟨w0, hw0⟩ : ∃ w0, w0 = w.alloc (.cells #[.int .i64 5, .slice Av vars.length cv, .slice Aa args.length ca, .int .i64 b, .slice Ar rows.length cr] 60) := ⟨_, rfl⟩
  have hx0 : Ext w w0 := by rw [hw0]; exact (Ext.refl w).alloc _
  have k0 : w0.cell? ⟨w.heap.size, 0, none⟩ = some (.int .i64 5) := by rw [hw0]; go_simp
  have k1 : w0.cell? ⟨w.heap.size, 1, none⟩ = some (.slice Av vars.length cv) := by rw [hw0]; go_simp
  have k2 : w0.cell? ⟨w.heap.size, 2, none⟩ = some (.slice Aa args.length ca) := by rw [hw0]; go_simp
  have k3 : w0.cell? ⟨w.heap.size, 3, none⟩ = some (.int .i64 b) := by rw [hw0]; go_simp
  have k4 : w0.cell? ⟨w.heap.size, 4, none⟩ = some (.slice Ar rows.length cr) := by rw [hw0]; go_simp
  have ks : w.heap.size < w0.heap.size := by rw [hw0]; simp
  have HX0 := hide hx0
  have hV0 := hide (hV.ext hx0)
  have hA0 := hide (hA.ext hx0)
  have hR0 := hide (hR.ext hx0)
  have hX0 := hide (hX.ext hx0)
  have K0 := hide k0
  have K1 := hide k1
  have K2 := hide k2
  have K3 := hide k3
  have K4 := hide k4
  clear hx0 hV hA hR hX hx hl k0 k1 k2 k3 k4
  have _u4 := h4
  have _u1 := h1
  clear _u4 _u1
  have HR := hide hr
  clear hr
  have HS := hide (show satB ⟨5, vars, args, b, rows⟩ x = anyB (fun i => decide (rw0 rows i = x)) rows.length from rfl)
  go_enter Tryz.func112, Tryz.ntmps112
  go_wp2_with fail
  rw [← hw0]
  refine (hasRow_any _ _ rows x _ hR0.out hX0.out HR.out).mono ?_
  rintro e w2 ⟨rfl, hx2⟩
  have HX2 := hide (HX0.out.trans hx2)
  clear hx2 hw0
  go_wp2
  go_ret
  exact Ret.mk (ret_b HS.out.symm) HX2.out
set_option maxRecDepth 100000 in
set_option maxHeartbeats 4000000 in
theorem sps_7 (vv va vr vx : Value) (vars args : List Int) (b : Int) (rows : List (List Int)) (x : List Int) (w : World) (hV : SInts w vv vars) (hA : SInts w va args) (hR : SRows w vr rows) (hX : SInts w vx x) (hx : ValL x) (hl : x.length = vars.length) (h4 : x.length ≤ 4) (h1 : 1 ≤ x.length) (ha : allR args 0 9 = true) (hal : args.length = 2 * vars.length) (hb : inR b 0 9 = true) :
    Calls Tryz.prog 112 #[.agg #[.int .i64 7, vv, va, .int .i64 b, vr], vx] w (Ret (.bool (satB ⟨7, vars, args, b, rows⟩ x)) w) := by
  have HXV := hide hx
  have HL := hide hl
  obtain ⟨Av, cv, rfl, -, hlv⟩ := hV.form
  obtain ⟨Aa, ca, rfl, -, hla⟩ := hA.form
  obtain ⟨Ar, cr, rfl, -, hlr⟩ := hR.form
  obtain ⟨Ax, cx, rfl, -, hlx⟩ := hX.form
  obtain ⟨w0, hw0⟩ : ∃ w0, w0 = w.alloc (.cells #[.int .i64 7, .slice Av vars.length cv, .slice Aa args.length ca, .int .i64 b, .slice Ar rows.length cr] 60) := ⟨_, rfl⟩
  have hx0 : Ext w w0 := by rw [hw0]; exact (Ext.refl w).alloc _
  have k0 : w0.cell? ⟨w.heap.size, 0, none⟩ = some (.int .i64 7) := by rw [hw0]; go_simp
  have k1 : w0.cell? ⟨w.heap.size, 1, none⟩ = some (.slice Av vars.length cv) := by rw [hw0]; go_simp
  have k2 : w0.cell? ⟨w.heap.size, 2, none⟩ = some (.slice Aa args.length ca) := by rw [hw0]; go_simp
  have k3 : w0.cell? ⟨w.heap.size, 3, none⟩ = some (.int .i64 b) := by rw [hw0]; go_simp
  have k4 : w0.cell? ⟨w.heap.size, 4, none⟩ = some (.slice Ar rows.length cr) := by rw [hw0]; go_simp
  have ks : w.heap.size < w0.heap.size := by rw [hw0]; simp
  have HX0 := hide hx0
  have hV0 := hide (hV.ext hx0)
  have hA0 := hide (hA.ext hx0)
  have hR0 := hide (hR.ext hx0)
  have hX0 := hide (hX.ext hx0)
  have K0 := hide k0
  have K1 := hide k1
  have K2 := hide k2
  have K3 := hide k3
  have K4 := hide k4
  clear hx0 hV hA hR hX hx hl k0 k1 k2 k3 k4
  have _u4 := h4
  have _u1 := h1
  clear _u4 _u1
  have HA := hide ha
  have hal2 : args.length = 2 * x.length := by rw [hal, HL.out]
  have HAL := hide hal2
  have HB := hide hb
  clear ha hal hb hal2
  have HS := hide (show satB ⟨7, vars, args, b, rows⟩ x = roomB args b x from rfl)
  go_enter Tryz.func112, Tryz.ntmps112
  go_wp2_with fail
  rw [← hw0]
  refine (withinCapacity_any _ _ ⟨7, vars, args, b, rows⟩ x _ ⟨_, _, _, rfl, hV0.out, hA0.out, hR0.out⟩ hX0.out HA.out HB.out HXV.out HAL.out (by omega)).mono ?_
  rintro e w2 ⟨rfl, hx2⟩
  have HX2 := hide (HX0.out.trans hx2)
  clear hx2 hw0
  go_wp2
  go_ret
  exact Ret.mk (ret_b HS.out.symm) HX2.out
set_option maxRecDepth 100000 in
set_option maxHeartbeats 4000000 in
theorem sps_8 (vv va vr vx : Value) (vars args : List Int) (b : Int) (rows : List (List Int)) (x : List Int) (w : World) (hV : SInts w vv vars) (hA : SInts w va args) (hR : SRows w vr rows) (hX : SInts w vx x) (hx : ValL x) (hl : x.length = vars.length) (h4 : x.length ≤ 4) (h1 : 1 ≤ x.length) (hr : vRows rows 6 (-1) (rows.length - 1) = true):
    Calls Tryz.prog 112 #[.agg #[.int .i64 8, vv, va, .int .i64 b, vr], vx] w (Ret (.bool (satB ⟨8, vars, args, b, rows⟩ x)) w) := by
  have HXV := hide hx
  have HL := hide hl
  obtain ⟨Av, cv, rfl, -, hlv⟩ := hV.form
  obtain ⟨Aa, ca, rfl, -, hla⟩ := hA.form
  obtain ⟨Ar, cr, rfl, -, hlr⟩ := hR.form
  obtain ⟨Ax, cx, rfl, -, hlx⟩ := hX.form
  obtain ⟨w0, hw0⟩ : ∃ w0, w0 = w.alloc (.cells #[.int .i64 8, .slice Av vars.length cv, .slice Aa args.length ca, .int .i64 b, .slice Ar rows.length cr] 60) := ⟨_, rfl⟩
  have hx0 : Ext w w0 := by rw [hw0]; exact (Ext.refl w).alloc _
  have k0 : w0.cell? ⟨w.heap.size, 0, none⟩ = some (.int .i64 8) := by rw [hw0]; go_simp
  have k1 : w0.cell? ⟨w.heap.size, 1, none⟩ = some (.slice Av vars.length cv) := by rw [hw0]; go_simp
  have k2 : w0.cell? ⟨w.heap.size, 2, none⟩ = some (.slice Aa args.length ca) := by rw [hw0]; go_simp
  have k3 : w0.cell? ⟨w.heap.size, 3, none⟩ = some (.int .i64 b) := by rw [hw0]; go_simp
  have k4 : w0.cell? ⟨w.heap.size, 4, none⟩ = some (.slice Ar rows.length cr) := by rw [hw0]; go_simp
  have ks : w.heap.size < w0.heap.size := by rw [hw0]; simp
  have HX0 := hide hx0
  have hV0 := hide (hV.ext hx0)
  have hA0 := hide (hA.ext hx0)
  have hR0 := hide (hR.ext hx0)
  have hX0 := hide (hX.ext hx0)
  have K0 := hide k0
  have K1 := hide k1
  have K2 := hide k2
  have K3 := hide k3
  have K4 := hide k4
  clear hx0 hV hA hR hX hx hl k0 k1 k2 k3 k4
  have _u4 := h4
  have _u1 := h1
  clear _u4 _u1
  have HR := hide hr
  clear hr
  have HS := hide (show satB ⟨8, vars, args, b, rows⟩ x = acceptB rows args x from rfl)
  go_enter Tryz.func112, Tryz.ntmps112
  go_wp2_with fail
  rw [← hw0]
  refine (acceptsS_any _ _ ⟨8, vars, args, b, rows⟩ x _ ⟨_, _, _, rfl, hV0.out, hA0.out, hR0.out⟩ hX0.out HR.out HXV.out (by omega)).mono ?_
  rintro e w2 ⟨rfl, hx2⟩
  have HX2 := hide (HX0.out.trans hx2)
  clear hx2 hw0
  go_wp2
  go_ret
  exact Ret.mk (ret_b HS.out.symm) HX2.out
set_option maxRecDepth 100000 in
set_option maxHeartbeats 4000000 in
theorem sps_9 (vv va vr vx : Value) (vars args : List Int) (b : Int) (rows : List (List Int)) (x : List Int) (w : World) (hV : SInts w vv vars) (hA : SInts w va args) (hR : SRows w vr rows) (hX : SInts w vx x) (hx : ValL x) (hl : x.length = vars.length) (h4 : x.length ≤ 4) (h1 : 1 ≤ x.length) :
    Calls Tryz.prog 112 #[.agg #[.int .i64 9, vv, va, .int .i64 b, vr], vx] w (Ret (.bool (satB ⟨9, vars, args, b, rows⟩ x)) w) := by
  have HXV := hide hx
  have HL := hide hl
  obtain ⟨Av, cv, rfl, -, hlv⟩ := hV.form
  obtain ⟨Aa, ca, rfl, -, hla⟩ := hA.form
  obtain ⟨Ar, cr, rfl, -, hlr⟩ := hR.form
  obtain ⟨Ax, cx, rfl, -, hlx⟩ := hX.form
  obtain ⟨w0, hw0⟩ : ∃ w0, w0 = w.alloc (.cells #[.int .i64 9, .slice Av vars.length cv, .slice Aa args.length ca, .int .i64 b, .slice Ar rows.length cr] 60) := ⟨_, rfl⟩
  have hx0 : Ext w w0 := by rw [hw0]; exact (Ext.refl w).alloc _
  have k0 : w0.cell? ⟨w.heap.size, 0, none⟩ = some (.int .i64 9) := by rw [hw0]; go_simp
  have k1 : w0.cell? ⟨w.heap.size, 1, none⟩ = some (.slice Av vars.length cv) := by rw [hw0]; go_simp
  have k2 : w0.cell? ⟨w.heap.size, 2, none⟩ = some (.slice Aa args.length ca) := by rw [hw0]; go_simp
  have k3 : w0.cell? ⟨w.heap.size, 3, none⟩ = some (.int .i64 b) := by rw [hw0]; go_simp
  have k4 : w0.cell? ⟨w.heap.size, 4, none⟩ = some (.slice Ar rows.length cr) := by rw [hw0]; go_simp
  have ks : w.heap.size < w0.heap.size := by rw [hw0]; simp
  have HX0 := hide hx0
  have hV0 := hide (hV.ext hx0)
  have hA0 := hide (hA.ext hx0)
  have hR0 := hide (hR.ext hx0)
  have hX0 := hide (hX.ext hx0)
  have K0 := hide k0
  have K1 := hide k1
  have K2 := hide k2
  have K3 := hide k3
  have K4 := hide k4
  clear hx0 hV hA hR hX hx hl k0 k1 k2 k3 k4
  have _u4 := h4
  have _u1 := h1
  clear _u4 _u1
  have HS := hide (show satB ⟨9, vars, args, b, rows⟩ x = cycB x from rfl)
  go_enter Tryz.func112, Tryz.ntmps112
  go_wp2_with fail
  rw [← hw0]
  refine (isCircuit_any _ x _ hX0.out HXV.out h4 h1).mono ?_
  rintro e w2 ⟨rfl, hx2⟩
  have HX2 := hide (HX0.out.trans hx2)
  clear hx2 hw0
  go_wp2
  go_ret
  exact Ret.mk (ret_b HS.out.symm) HX2.out
set_option maxRecDepth 100000 in
set_option maxHeartbeats 4000000 in
theorem sps_6 (vv va vr vx : Value) (vars args : List Int) (b : Int) (rows : List (List Int)) (x : List Int) (w : World) (hV : SInts w vv vars) (hA : SInts w va args) (hR : SRows w vr rows) (hX : SInts w vx x) (hx : ValL x) (hl : x.length = vars.length) (h4 : x.length ≤ 4) (h1 : 1 ≤ x.length) (hal : args.length = 1):
    Calls Tryz.prog 112 #[.agg #[.int .i64 6, vv, va, .int .i64 b, vr], vx] w (Ret (.bool (satB ⟨6, vars, args, b, rows⟩ x)) w) := by
  have HXV := hide hx
  have HL := hide hl
  obtain ⟨Av, cv, rfl, -, hlv⟩ := hV.form
  obtain ⟨Aa, ca, rfl, -, hla⟩ := hA.form
  obtain ⟨Ar, cr, rfl, -, hlr⟩ := hR.form
  obtain ⟨Ax, cx, rfl, -, hlx⟩ := hX.form
  obtain ⟨w0, hw0⟩ : ∃ w0, w0 = w.alloc (.cells #[.int .i64 6, .slice Av vars.length cv, .slice Aa args.length ca, .int .i64 b, .slice Ar rows.length cr] 60) := ⟨_, rfl⟩
  have hx0 : Ext w w0 := by rw [hw0]; exact (Ext.refl w).alloc _
  have k0 : w0.cell? ⟨w.heap.size, 0, none⟩ = some (.int .i64 6) := by rw [hw0]; go_simp
  have k1 : w0.cell? ⟨w.heap.size, 1, none⟩ = some (.slice Av vars.length cv) := by rw [hw0]; go_simp
  have k2 : w0.cell? ⟨w.heap.size, 2, none⟩ = some (.slice Aa args.length ca) := by rw [hw0]; go_simp
  have k3 : w0.cell? ⟨w.heap.size, 3, none⟩ = some (.int .i64 b) := by rw [hw0]; go_simp
  have k4 : w0.cell? ⟨w.heap.size, 4, none⟩ = some (.slice Ar rows.length cr) := by rw [hw0]; go_simp
  have ks : w.heap.size < w0.heap.size := by rw [hw0]; simp
  have HX0 := hide hx0
  have hV0 := hide (hV.ext hx0)
  have hA0 := hide (hA.ext hx0)
  have hR0 := hide (hR.ext hx0)
  have hX0 := hide (hX.ext hx0)
  have K0 := hide k0
  have K1 := hide k1
  have K2 := hide k2
  have K3 := hide k3
  have K4 := hide k4
  clear hx0 hV hA hR hX hx hl k0 k1 k2 k3 k4
  have _u4 := h4
  have _u1 := h1
  clear _u4 _u1
  have HS := hide (show satB ⟨6, vars, args, b, rows⟩ x = (cntV x (at0 args 0) x.length == b) from rfl)
  obtain ⟨ba, oa, rfl, hba, f2⟩ := hA0.out.at_ (k := 0) (by omega)
  simp only [Nat.add_zero] at f2
  have F2 := hide f2
  have i2 : 0 < args.length := by omega
  have HAL := hide hal
  clear hal f2
  go_enter Tryz.func112, Tryz.ntmps112
  go_wp2
  rw [← hw0]
  clear hw0
  go_loopw [7, 8] (fun s i wr => ∃ k : Nat, k ≤ x.length ∧ i = .int .i64 k ∧ s = .int .i64 (cntV x (at0 args 0) k) ∧ Ext w0 wr) (fun _ i _ => x.length - (intOf i).toNat)
  case atStart => exact ⟨0, by omega, rfl, rfl, Ext.refl _⟩
  case round =>
    obtain ⟨k, hk, rfl, rfl, hxk⟩ := hrel
    have HXK := hide hxk
    have g2 := (hxk.cells _ _ ks).trans K2.out
    have g3 := (hxk.cells _ _ ks).trans K3.out
    have f2 := (hxk.cells _ _ hba).trans F2.out
    have ksr := Nat.lt_of_lt_of_le ks hxk.size
    have hbar := Nat.lt_of_lt_of_le hba hxk.size
    have hcb := cntV_bd x (at0 args 0) k
    clear hxk
    by_cases hlt : k < x.length
    · have hkI : (k : Int) < x.length := by omega
      obtain ⟨bx, ox, rfl, hbx, f1⟩ := (hX0.out.ext HXK.out).at_ hlt
      cases he : (at0 x k == at0 args 0) with
      | true =>
        have HK := hide (show cntV x (at0 args 0) k + 1 = cntV x (at0 args 0) (k + 1) by rw [cntV, if_pos he])
        go_wp2
        refine wp_region_ext (by kernel_rfl) (by kernel_rfl) ?_
        iterate 9 (apply quiet_val; (focus rfl); (focus (intro w' hw'; have hk' := hw'.cells; go_simp; all_goals exact rfl)); simp only [Act.put, List.setIfInBounds_toArray, List.set_cons_succ, List.set_cons_zero])
        refine wpQuiet_nil ?_
        intro w2 hx2
        have HX2 := hide (HXK.out.trans hx2)
        clear hx2
        go_wp2
        go_roundw
        case rel => exact ⟨k + 1, by omega, by go_num, by rw [← HK.out], HX2.out⟩
        case measure => simp [intOf]; omega
      | false =>
        have HK := hide (show cntV x (at0 args 0) k = cntV x (at0 args 0) (k + 1) by rw [cntV, he]; rfl)
        go_wp2
        refine wp_region_ext (by kernel_rfl) (by kernel_rfl) ?_
        iterate 9 (apply quiet_val; (focus rfl); (focus (intro w' hw'; have hk' := hw'.cells; go_simp; all_goals exact rfl)); simp only [Act.put, List.setIfInBounds_toArray, List.set_cons_succ, List.set_cons_zero])
        refine wpQuiet_nil ?_
        intro w2 hx2
        have HX2 := hide (HXK.out.trans hx2)
        clear hx2
        go_wp2
        go_roundw
        case rel => exact ⟨k + 1, by omega, by go_num, by rw [← HK.out], HX2.out⟩
        case measure => simp [intOf]; omega
    · obtain rfl : k = x.length := by omega
      have hkI : ¬ ((x.length : Int) < x.length) := by omega
      go_wp2
      go_ret
      exact Ret.mk (ret_b HS.out.symm) (HX0.out.trans HXK.out)
set_option maxRecDepth 100000 in
set_option maxHeartbeats 4000000 in
theorem sps_4 (vv va vr vx : Value) (vars args : List Int) (b : Int) (rows : List (List Int)) (x : List Int) (w : World) (hV : SInts w vv vars) (hA : SInts w va args) (hR : SRows w vr rows) (hX : SInts w vx x) (hx : ValL x) (hl : x.length = vars.length) (h4 : x.length ≤ 4) (h1 : 1 ≤ x.length) (hv2 : vars.length = 2):
    Calls Tryz.prog 112 #[.agg #[.int .i64 4, vv, va, .int .i64 b, vr], vx] w (Ret (.bool (satB ⟨4, vars, args, b, rows⟩ x)) w) := by
  have HXV := hide hx
  have HL := hide hl
  obtain ⟨Av, cv, rfl, -, hlv⟩ := hV.form
  obtain ⟨Aa, ca, rfl, -, hla⟩ := hA.form
  obtain ⟨Ar, cr, rfl, -, hlr⟩ := hR.form
  obtain ⟨Ax, cx, rfl, -, hlx⟩ := hX.form
  obtain ⟨w0, hw0⟩ : ∃ w0, w0 = w.alloc (.cells #[.int .i64 4, .slice Av vars.length cv, .slice Aa args.length ca, .int .i64 b, .slice Ar rows.length cr] 60) := ⟨_, rfl⟩
  have hx0 : Ext w w0 := by rw [hw0]; exact (Ext.refl w).alloc _
  have k0 : w0.cell? ⟨w.heap.size, 0, none⟩ = some (.int .i64 4) := by rw [hw0]; go_simp
  have k1 : w0.cell? ⟨w.heap.size, 1, none⟩ = some (.slice Av vars.length cv) := by rw [hw0]; go_simp
  have k2 : w0.cell? ⟨w.heap.size, 2, none⟩ = some (.slice Aa args.length ca) := by rw [hw0]; go_simp
  have k3 : w0.cell? ⟨w.heap.size, 3, none⟩ = some (.int .i64 b) := by rw [hw0]; go_simp
  have k4 : w0.cell? ⟨w.heap.size, 4, none⟩ = some (.slice Ar rows.length cr) := by rw [hw0]; go_simp
  have ks : w.heap.size < w0.heap.size := by rw [hw0]; simp
  have HX0 := hide hx0
  have hV0 := hide (hV.ext hx0)
  have hA0 := hide (hA.ext hx0)
  have hR0 := hide (hR.ext hx0)
  have hX0 := hide (hX.ext hx0)
  have K0 := hide k0
  have K1 := hide k1
  have K2 := hide k2
  have K3 := hide k3
  have K4 := hide k4
  clear hx0 hV hA hR hX hx hl k0 k1 k2 k3 k4
  have _u4 := h4
  have _u1 := h1
  clear _u4 _u1
  have HS := hide (show satB ⟨4, vars, args, b, rows⟩ x = (decide (at0 x 0 < args.length) && (at0 args (at0 x 0).toNat == at0 x 1)) from rfl)
  have hx2l : x.length = 2 := HL.out.trans hv2
  have g0 := HXV.out 0 (by omega)
  have g1 := HXV.out 1 (by omega)
  have c2 := K2.out
  obtain ⟨bx, ox, rfl, hbx, f0⟩ := hX0.out.at_ (k := 0) (by omega)
  have f1 := hX0.out.cell_ (k := 1) (by omega)
  have i0 : 0 < x.length := by omega
  have i1 : (1 : Int) < x.length := by omega
  simp only [Nat.add_zero] at f0
  obtain ⟨u, hu⟩ : ∃ u : Nat, at0 x 0 = u := ⟨(at0 x 0).toNat, by omega⟩
  rw [hu] at f0 g0 HS
  by_cases hul : u < args.length
  · obtain ⟨ba, oa, rfl, hba, f2⟩ := hA0.out.at_ hul
    have huI : (u : Int) < args.length := by omega
    have HU := hide (show (decide ((u : Int) < args.length) && (at0 args (u : Int).toNat == at0 x 1)) = (at0 args u == at0 x 1) by rw [decide_eq_true huI]; rfl)
    have HH := hide hx2l
    clear hx2l hv2 hu
    go_enter Tryz.func112, Tryz.ntmps112
    go_wp2
    rw [← hw0]
    clear hw0
    refine wp_region_ext (by kernel_rfl) (by kernel_rfl) ?_
    iterate 8 (apply quiet_val; (focus rfl); (focus (intro w' hw'; have hk' := hw'.cells; go_simp; all_goals exact rfl)); simp only [Act.put, List.setIfInBounds_toArray, List.set_cons_succ, List.set_cons_zero])
    iterate 11 (go_big_quiet_want; apply quietK_val; (focus (intro w' hw'; have hk' := hw'.cells; go_simp; all_goals exact rfl)); simp only [Act.put, List.setIfInBounds_toArray, List.set_cons_succ, List.set_cons_zero]; go_big_quiet_on)
    iterate 2 (apply quiet_val; (focus rfl); (focus (intro w' hw'; have hk' := hw'.cells; go_simp; all_goals exact rfl)); simp only [Act.put, List.setIfInBounds_toArray, List.set_cons_succ, List.set_cons_zero])
    refine wpQuiet_nil ?_
    intro w2 hx2
    have HX2 := hide (HX0.out.trans hx2)
    clear hx2
    go_wp2
    go_ret
    exact Ret.mk (ret_b (by rw [HS.out, HU.out])) HX2.out
  · have huI : ¬ (u : Int) < args.length := by omega
    have huD : decide ((u : Int) < args.length) = false := by simp; omega
    have HU := hide (show (decide ((u : Int) < args.length) && (at0 args (u : Int).toNat == at0 x 1)) = false by rw [decide_eq_false huI]; rfl)
    have HH := hide hx2l
    clear hx2l hv2 hu
    go_enter Tryz.func112, Tryz.ntmps112
    go_wp2
    rw [← hw0]
    clear hw0
    refine wp_region_ext (by kernel_rfl) (by kernel_rfl) ?_
    iterate 8 (apply quiet_val; (focus rfl); (focus (intro w' hw'; have hk' := hw'.cells; go_simp; all_goals exact rfl)); simp only [Act.put, List.setIfInBounds_toArray, List.set_cons_succ, List.set_cons_zero])
    iterate 11 go_big_quiet_skip
    iterate 2 (apply quiet_val; (focus rfl); (focus (intro w' hw'; have hk' := hw'.cells; go_simp; all_goals exact rfl)); simp only [Act.put, List.setIfInBounds_toArray, List.set_cons_succ, List.set_cons_zero])
    refine wpQuiet_nil ?_
    intro w2 hx2
    have HX2 := hide (HX0.out.trans hx2)
    clear hx2
    go_wp2
    go_ret
    exact Ret.mk (ret_b (by rw [HS.out, HU.out])) HX2.out
theorem satisfiesS_any (v vx : Value) (c : Con) (x : List Int) (n : Int) (w : World) (hC : SCon w v c) (hX : SInts w vx x) (hv : vCon c n = true) (hx : ValL x) (hl : x.length = c.vars.length) :
    Calls Tryz.prog 112 #[v, vx] w (Ret (.bool (satB c x)) w) := by
  obtain ⟨v1, v2, v3, -, -, hf⟩ := vCon_len hv
  obtain ⟨vv, va, vr, rfl, hV, hA, hR⟩ := hC
  obtain ⟨kk, vars, args, b, rows⟩ := c
  simp only at hV hA hR hl v1 v2 hf ⊢
  have h1 : 1 ≤ x.length := by omega
  have h4 : x.length ≤ 4 := by omega
  unfold fitB argsB at hf
  split at hf
  · subst kk
    simp only [Bool.and_eq_true, beq_iff_eq] at hf
    exact sps_1 _ _ _ _ vars args b rows x w hV hA hR hX hx hl h4 h1 hf.1.2 (by omega)
  split at hf
  · subst kk
    simp only [Bool.and_eq_true, beq_iff_eq] at hf
    exact sps_2 _ _ _ _ vars args b rows x w hV hA hR hX hx hl h4 h1 hf.2.1.2 (by omega) (by omega)
  split at hf
  · rename_i hk
    rcases hk with rfl | rfl
    · exact sps_3 _ _ _ _ vars args b rows x w hV hA hR hX hx hl h4 h1
    · exact sps_9 _ _ _ _ vars args b rows x w hV hA hR hX hx hl h4 h1
  split at hf
  · subst kk
    simp only [Bool.and_eq_true, beq_iff_eq] at hf
    exact sps_4 _ _ _ _ vars args b rows x w hV hA hR hX hx hl h4 h1 (by omega)
  split at hf
  · subst kk
    refine sps_5 _ _ _ _ vars args b rows x w hV hA hR hX hx hl h4 h1 ?_
    simp only [Bool.and_eq_true, beq_iff_eq] at hf
    intro i hi
    have := (vRows_at hf.2.2 hi).1
    omega
  split at hf
  · subst kk
    simp only [Bool.and_eq_true, beq_iff_eq] at hf
    exact sps_6 _ _ _ _ vars args b rows x w hV hA hR hX hx hl h4 h1 (by omega)
  split at hf
  · subst kk
    simp only [Bool.and_eq_true, beq_iff_eq] at hf
    exact sps_7 _ _ _ _ vars args b rows x w hV hA hR hX hx hl h4 h1 hf.1.2 (by omega) hf.2.1
  split at hf
  · subst kk
    simp only [Bool.and_eq_true] at hf
    exact sps_8 _ _ _ _ vars args b rows x w hV hA hR hX hx hl h4 h1 hf.1
  · cases hf
end Go.Proofs.YtalgilgfoekioaaGreatDoor
/- The reference's walk over all tuples of a constraint. -/
namespace Go.Proofs.YtalgilgfoekioaaGreatDoor
open Go.RowKit

/-- The enumerator: its struct at block bs, the tuple at block gx, the support at block gs. -/
structure WkSt (c : Con) (vv va vr vd : Value) (gx gs bs : Nat) (p l : List Int) (W : World) : Prop where
  c0 : W.cell? ⟨bs, 0, none⟩ = some (.int .i64 c.kk)
  c1 : W.cell? ⟨bs, 1, none⟩ = some vv
  c2 : W.cell? ⟨bs, 2, none⟩ = some va
  c3 : W.cell? ⟨bs, 3, none⟩ = some (.int .i64 c.bound)
  c4 : W.cell? ⟨bs, 4, none⟩ = some vr
  c5 : W.cell? ⟨bs, 5, none⟩ = some vd
  c6 : W.cell? ⟨bs, 6, none⟩ = some (.slice (some ⟨gx, 0, none⟩) c.vars.length c.vars.length)
  c7 : W.cell? ⟨bs, 7, none⟩ = some (.slice (some ⟨gs, 0, none⟩) c.vars.length c.vars.length)
  rx : ∃ f, W.rowIs gx 3 c.vars.length f ∧ ∀ j, j < p.length → f j = vI (at0 p j)
  rs : W.rowIs gs 3 c.vars.length (fun j => .int .i64 (at0 l j))
  val : ValL p
  dom : DomL l
  ll : l.length = c.vars.length
  pl : p.length ≤ c.vars.length
  n1 : gx ≠ gs
  n2 : gx ≠ bs
  n3 : gs ≠ bs
  lt : bs < W.heap.size
section
variable {c : Con} {vv va vr vd : Value} {gx gs bs : Nat} {p l : List Int} {W W' : World}
theorem WkSt.ext (h : WkSt c vv va vr vd gx gs bs p l W) (hx : Ext W W') : WkSt c vv va vr vd gx gs bs p l W' := by
  obtain ⟨f, h3, h4⟩ := h.rx
  have q := fun k => hx.cells bs k h.lt
  exact ⟨(q _).trans h.c0, (q _).trans h.c1, (q _).trans h.c2, (q _).trans h.c3, (q _).trans h.c4, (q _).trans h.c5, (q _).trans h.c6, (q _).trans h.c7, ⟨f, hx.row h3, h4⟩, hx.row h.rs, h.val, h.dom, h.ll, h.pl, h.n1, h.n2, h.n3, Nat.lt_of_lt_of_le h.lt hx.size⟩
theorem WkSt.ints (h : WkSt c vv va vr vd gx gs bs p l W) (hp : p.length = c.vars.length) (h4 : c.vars.length ≤ 4) : SInts W (.slice (some ⟨gx, 0, none⟩) c.vars.length c.vars.length) p := by
  obtain ⟨f, hr, hf⟩ := h.rx
  exact ⟨_, _, by rw [hp], by omega, by omega, fun i hi => by have := h.val i hi; unfold I64; omega, fun _ => ⟨gx, 0, rfl, hr.lt, fun i hi => by rw [Nat.zero_add, hr.cell (by omega), hf i hi]; rfl⟩⟩
/-- A value more. -/
theorem WkSt.push (h : WkSt c vv va vr vd gx gs bs p l W) (x : Int) (h0 : 0 ≤ x) (h5 : x ≤ 5) (hlt : p.length < c.vars.length) : WkSt c vv va vr vd gx gs bs (p ++ [x]) l (W.setCell ⟨gx, p.length, none⟩ (.int .i64 x)) := by
  obtain ⟨f, h3, h4⟩ := h.rx
  have hn := h.n2
  have co : ∀ k, (W.setCell ⟨gx, p.length, none⟩ (.int .i64 x)).cell? ⟨bs, k, none⟩ = W.cell? ⟨bs, k, none⟩ := fun k => cell_other _ (by simp; omega)
  refine ⟨(co _).trans h.c0, (co _).trans h.c1, (co _).trans h.c2, (co _).trans h.c3, (co _).trans h.c4, (co _).trans h.c5, (co _).trans h.c6, (co _).trans h.c7, ⟨_, h3.set p.length (.int .i64 x), fun i hi => ?_⟩, h.rs.setOther (fun e => h.n1 e.symm) _, fun i hi => ?_, h.dom, h.ll, by simp; omega, h.n1, hn, h.n3, by simpa [World.setCell] using h.lt⟩
  · show (if i = p.length then _ else _) = _
    rw [List.length_append, List.length_singleton] at hi
    by_cases hip : i = p.length
    · subst hip; rw [if_pos rfl, at0_snoc]; rfl
    · rw [if_neg hip, at0_app _ _ (by omega)]; exact h4 i (by omega)
  · rw [List.length_append, List.length_singleton] at hi
    by_cases hip : i = p.length
    · subst hip; rw [at0_snoc]; exact ⟨h0, h5⟩
    · rw [at0_app _ _ (by omega)]; exact h.val i (by omega)
theorem WkSt.pop {x : Int} (h : WkSt c vv va vr vd gx gs bs (p ++ [x]) l W) : WkSt c vv va vr vd gx gs bs p l W := by
  obtain ⟨f, h3, h4⟩ := h.rx
  have hl := h.pl
  rw [List.length_append] at hl
  refine ⟨h.c0, h.c1, h.c2, h.c3, h.c4, h.c5, h.c6, h.c7, ⟨f, h3, fun i hi => ?_⟩, h.rs, fun i hi => ?_, h.dom, h.ll, by omega, h.n1, h.n2, h.n3, h.lt⟩
  · have := h4 i (by simp; omega); rwa [at0_app _ _ hi] at this
  · have := h.val i (by simp; omega); rwa [at0_app _ _ hi] at this
/-- New support. -/
theorem WkSt.supp {m : List Int} (h : WkSt c vv va vr vd gx gs bs p l W) (hk : Keep (fun k => k ≠ gs) W W') (hr : W'.rowIs gs 3 c.vars.length (fun j => .int .i64 (at0 m j))) (hd : DomL m) (hm : m.length = c.vars.length) : WkSt c vv va vr vd gx gs bs p m W' := by
  obtain ⟨f, h3, h4⟩ := h.rx
  have co : ∀ k, W'.cell? ⟨bs, k, none⟩ = W.cell? ⟨bs, k, none⟩ := fun k => hk.cell (p := ⟨bs, k, none⟩) h.lt (fun e => h.n3 e.symm)
  exact ⟨(co _).trans h.c0, (co _).trans h.c1, (co _).trans h.c2, (co _).trans h.c3, (co _).trans h.c4, (co _).trans h.c5, (co _).trans h.c6, (co _).trans h.c7, ⟨f, hk.row h.n1 h3, h4⟩, hr, h.val, hd, hm, h.pl, h.n1, h.n2, h.n3, Nat.lt_of_lt_of_le h.lt hk.size⟩
end
theorem pow_bdW {v : Nat} (hv : v < 6) : (1 : Int) ≤ 2 ^ v ∧ (2 : Int) ^ v ≤ 32 := by
  have := fin_dv (p := fun _ v => decide ((1 : Int) ≤ 2 ^ v) && decide ((2 : Int) ^ v ≤ 32)) (by decide +kernel) (Int.le_refl 0) (by omega) hv
  simpa using this
/-- How the walk ends. -/
def WkEnd (c : Con) (vv va vr vd : Value) (gx gs bs : Nat) (p l : List Int) (W : World) (e : Ending) (W' : World) : Prop :=
  e = .returned (.tuple #[]) ∧ WkSt c vv va vr vd gx gs bs p l W' ∧ Keep (fun k => k ≠ gx ∧ k ≠ gs) W W'
theorem orK_all {l x : List Int} {j : Nat} (hj : j < l.length) : orK l x l.length j = at0 (orT l x) j := by
  rw [orK, if_pos hj, orT_at x hj]
theorem orV_has' {d : Int} {v : Nat} (h : hasB d v = true) : orV d v = d := by unfold orV; rw [Int.toNat_natCast, if_pos h]
theorem orV_no {d : Int} {v : Nat} (h : hasB d v = false) : orV d v = d + 2 ^ v := by unfold orV; rw [Int.toNat_natCast, h, if_neg (by simp)]
set_option maxRecDepth 100000 in
set_option maxHeartbeats 8000000 in
theorem walk_leaf (c : Con) (n : Int) (vv va vr vd : Value) (gx gs bs : Nat) (p l : List Int) (W : World) (hcv : vCon c n = true) (hV : SInts W vv c.vars) (hA : SInts W va c.args) (hR : SRows W vr c.rows) (hp : p.length = c.vars.length) (hst : WkSt c vv va vr vd gx gs bs p l W) :
    Calls Tryz.prog 105 #[.pointer (some ⟨bs, 0, none⟩), .int .i64 p.length] W (WkEnd c vv va vr vd gx gs bs p (leftT (satB c) l [p]) W) := by
  have hvl := vCon_len hcv
  have h4 : c.vars.length ≤ 4 := by omega
  have HCV := hide hcv
  have HST := hide hst
  have HV := hide hV
  have HA := hide hA
  have HR := hide hR
  obtain ⟨Av, cv, rfl, -, hlv⟩ := hV.form
  obtain ⟨Aa, ca, rfl, -, hla⟩ := hA.form
  obtain ⟨Ar, cr, rfl, -, hlr⟩ := hR.form
  have HS := hide (hst.ints hp h4)
  have HP := hide hp
  have c0 := hst.c0
  have c1 := hst.c1
  have c2 := hst.c2
  have c3 := hst.c3
  have c4 := hst.c4
  have c6 := hst.c6
  have c7 := hst.c7
  have hlt := hst.lt
  have hpp : ((p.length : Int) == (c.vars.length : Int)) = true := by rw [beq_iff_eq]; omega
  clear hst hcv hV hA hR hp hvl
  go_enter Tryz.func105, Tryz.ntmps105
  rw [HP.out]
  go_wp2_with fail
  refine wp_region_ext (by kernel_rfl) (by kernel_rfl) ?_
  iterate 8 (apply quiet_val; (focus rfl); (focus (intro w' hw'; have hk' := hw'.cells; go_simp; all_goals exact rfl)); simp only [Act.put, List.setIfInBounds_toArray, List.set_cons_succ, List.set_cons_zero])
  apply quiet_call; (focus rfl); (focus (intro w' hw'; go_simp; all_goals (first | exact rfl | (apply And.intro <;> exact rfl))))
  · exact fun w' hw' => Ret.quiet (satisfiesS_any _ _ c p n _ ⟨_, _, _, rfl, HV.out.ext hw', HA.out.ext hw', HR.out.ext hw'⟩ (HS.out.ext hw') HCV.out HST.out.val HP.out) hw'
  (simp only [Act.put, List.setIfInBounds_toArray, List.set_cons_succ, List.set_cons_zero])
  refine wpQuiet_nil ?_
  intro w1 hx1
  have HST1 := hide (HST.out.ext hx1)
  have HX1 := hide hx1
  have c6 := (hx1.cells _ _ hlt).trans c6
  have c7 := (hx1.cells _ _ hlt).trans c7
  have hlt := Nat.lt_of_lt_of_le hlt hx1.size
  clear hx1 c0 c1 c2 c3 c4
  cases hsat : satB c p with
  | false =>
    have HE := hide (show WkEnd c (.slice Av c.vars.length cv) (.slice Aa c.args.length ca) (.slice Ar c.rows.length cr) vd gx gs bs p (leftT (satB c) l [p]) W (.returned (.tuple #[])) w1 by
      refine ⟨rfl, ?_, HX1.out.keep _⟩
      have : leftT (satB c) l [p] = l := by unfold leftT; rw [List.foldl_cons, hsat]; rfl
      rw [this]; exact HST1.out)
    clear hsat
    go_wp2_with fail
    go_end0
    exact HE.out
  | true =>
    have HT := hide (show leftT (satB c) l [p] = orT l p by unfold leftT; rw [List.foldl_cons, hsat]; rfl)
    clear hsat
    obtain ⟨n0, hn0⟩ : ∃ n0, n0 = c.vars.length := ⟨_, rfl⟩
    have HN := hide hn0
    rw [← hn0] at c6 c7 h4 ⊢
    clear hn0
    go_wp2_with fail
    go_loopw [4] (fun i wr => ∃ k : Nat, i = .int .i64 k ∧ k ≤ n0 ∧ wr.rowIs gs 3 n0 (fun j => .int .i64 (orK l p k j)) ∧ Keep (fun j => j ≠ gs) w1 wr) (fun i _ => n0 - (intOf i).toNat)
    case atStart => exact ⟨0, rfl, by omega, by rw [HN.out]; exact HST1.out.rs.congr (fun j _ => by rw [orK_zero]), Keep.refl _ _⟩
    case round =>
      obtain ⟨k, rfl, hk, hrow, hkp⟩ := hrel
      have HROW := hide hrow
      have HKP := hide hkp
      have n1 := HST1.out.n1
      have n3 := HST1.out.n3
      have d6 := (hkp.cell (p := ⟨bs, 6, none⟩) hlt (fun e => n3 e.symm)).trans c6
      have d7 := (hkp.cell (p := ⟨bs, 7, none⟩) hlt (fun e => n3 e.symm)).trans c7
      have hltr := Nat.lt_of_lt_of_le hlt hkp.size
      by_cases hln : k < n0
      · have hkI : (k : Int) < n0 := by omega
        obtain ⟨fx, hrx, hfx⟩ := HST1.out.rx
        have hrx2 := hkp.row n1 hrx
        have fx0 := hrx2.cell (i := k) (by have := HN.out; omega)
        have hgx := hrx2.lt
        rw [hfx k (by have := HN.out; have := HP.out; omega)] at fx0
        obtain ⟨v, hv6, hve⟩ := HST1.out.val.at_ (i := k) (by have := HN.out; have := HP.out; omega)
        rw [hve] at fx0
        replace fx0 : wr.cell? ⟨gx, k, none⟩ = some (.int .i64 v) := fx0
        have fc := hrow.cell hln
        have hok : orK l p k k = at0 l k := by unfold orK; rw [if_neg (by omega)]
        rw [hok] at fc
        have hgs := hrow.lt
        have fz := hrow.frozen k
        have hdb := HST1.out.dom k (by rw [HST1.out.ll, ← HN.out]; exact hln)
        obtain ⟨d, hd⟩ : ∃ d, d = at0 l k := ⟨_, rfl⟩
        rw [← hd] at fc hdb
        have HDE := hide hd
        have HVE := hide hve
        have hpw := pow_bdW hv6
        have hv5 : v ≤ 5 := by omega
        clear hrow hkp hrx hrx2 hfx hve hd hok
        cases hh : hasB d v with
        | true =>
          have HO := hide (orV_has' hh)
          have HH := hide hh
          clear hh
          go_wp2
          refine wp_region_ext (by kernel_rfl) (by kernel_rfl) ?_
          iterate 14 (apply quiet_val; (focus rfl); (focus (intro w' hw'; have hk' := hw'.cells; go_simp; all_goals exact rfl)); simp only [Act.put, List.setIfInBounds_toArray, List.set_cons_succ, List.set_cons_zero])
          apply quiet_call; (focus rfl); (focus (intro w' hw'; go_simp; all_goals (first | exact rfl | (apply And.intro <;> exact rfl))))
          · exact fun w' hw' => same_quiet (domainHas_any d v w' hdb.1 (by omega) hv5) hw'
          (simp only [Act.put, List.setIfInBounds_toArray, List.set_cons_succ, List.set_cons_zero])
          (apply quiet_val; (focus rfl); (focus (intro w' hw'; have hk' := hw'.cells; go_simp; all_goals exact rfl)); simp only [Act.put, List.setIfInBounds_toArray, List.set_cons_succ, List.set_cons_zero])
          refine wpQuiet_nil ?_
          intro w2 hx2
          have HX2 := hide hx2
          clear hx2
          rw [HH.out]
          go_wp2
          go_roundw
          case rel =>
            refine ⟨k + 1, by go_num, by omega, (HX2.out.row HROW.out).congr (fun j hj => ?_), HKP.out.trans (HX2.out.keep _)⟩
            rw [← orK_step, HVE.out, ← HDE.out, HO.out]
            by_cases e : j = k
            · subst e; rw [if_pos rfl, orK, if_neg (by omega), ← HDE.out]
            · rw [if_neg e]
          case measure => simp [intOf]; omega
        | false =>
          have HO := hide (orV_no hh)
          have hob := orV_bd hdb.1 hdb.2 hv6
          rw [HO.out] at hob
          have kp : IntKind.i64.wrap (2 ^ v) = 2 ^ v := IntWalk.i64_in _ (by omega)
          have kq : IntKind.i64.wrap (d + 2 ^ v) = d + 2 ^ v := IntWalk.i64_in _ (by omega)
          have HH := hide hh
          clear hh
          go_wp2
          refine wp_region_ext (by kernel_rfl) (by kernel_rfl) ?_
          iterate 14 (apply quiet_val; (focus rfl); (focus (intro w' hw'; have hk' := hw'.cells; go_simp; all_goals exact rfl)); simp only [Act.put, List.setIfInBounds_toArray, List.set_cons_succ, List.set_cons_zero])
          apply quiet_call; (focus rfl); (focus (intro w' hw'; go_simp; all_goals (first | exact rfl | (apply And.intro <;> exact rfl))))
          · exact fun w' hw' => same_quiet (domainHas_any d v w' hdb.1 (by omega) hv5) hw'
          (simp only [Act.put, List.setIfInBounds_toArray, List.set_cons_succ, List.set_cons_zero])
          (apply quiet_val; (focus rfl); (focus (intro w' hw'; have hk' := hw'.cells; go_simp; all_goals exact rfl)); simp only [Act.put, List.setIfInBounds_toArray, List.set_cons_succ, List.set_cons_zero])
          refine wpQuiet_nil ?_
          intro w2 hx2
          have HX2 := hide hx2
          have d6 := (hx2.cells _ _ hltr).trans d6
          have d7 := (hx2.cells _ _ hltr).trans d7
          have hltr := Nat.lt_of_lt_of_le hltr hx2.size
          have fx0 := (hx2.cells _ _ hgx).trans fx0
          have hgx := Nat.lt_of_lt_of_le hgx hx2.size
          have fc := (hx2.cells _ _ hgs).trans fc
          have fz := (hx2.frz _ _ hgs).trans fz
          have hgs := Nat.lt_of_lt_of_le hgs hx2.size
          clear hx2
          rw [HH.out]
          go_wp2
          refine wp_region_ext_tail 22 (by kernel_rfl) (by kernel_rfl) ?_
          simp only [List.take_succ_cons, List.take_zero, List.drop_succ_cons, List.drop_zero]
          iterate 22 (apply quiet_val; (focus rfl); (focus (intro w' hw'; have hk' := hw'.cells; go_simp; all_goals exact rfl)); simp only [Act.put, List.setIfInBounds_toArray, List.set_cons_succ, List.set_cons_zero])
          refine wpQuiet_nil ?_
          intro w5 hx5
          have HX5 := hide (HX2.out.trans hx5)
          have fz := (hx5.frz _ _ hgs).trans fz
          have fc := (hx5.cells _ _ hgs).trans fc
          have hgs := Nat.lt_of_lt_of_le hgs hx5.size
          clear hx5
          try simp only [kp, kq]
          go_wp2
          go_roundw
          case rel =>
            refine ⟨k + 1, by go_num, by omega, ((HX5.out.row HROW.out).set k _).congr (fun j _ => ?_), (HKP.out.trans (HX5.out.keep _)).set (fun _ hh => hh rfl) _⟩
            rw [← orK_step, HVE.out, ← HDE.out, HO.out]
          case measure => simp [intOf]; omega
      · obtain rfl : k = n0 := by omega
        have hkI : ¬ ((k : Int) < k) := by omega
        have HE := hide (show WkEnd c (.slice Av c.vars.length cv) (.slice Aa c.args.length ca) (.slice Ar c.rows.length cr) vd gx gs bs p (leftT (satB c) l [p]) W (.returned (.tuple #[])) wr by
          refine ⟨rfl, ?_, (HX1.out.keep _).trans (HKP.out.mono (fun k _ hk => hk.2))⟩
          rw [HT.out]
          have hll : l.length = k := HST1.out.ll.trans HN.out.symm
          refine HST1.out.supp HKP.out ?_ (HST1.out.dom.orT HST1.out.val (by rw [HP.out, HST1.out.ll])) (by rw [orT_len, HST1.out.ll])
          rw [← HN.out]
          refine HROW.out.congr (fun j hj => ?_)
          rw [← hll, orK_all (by omega)])
        go_wp2
        go_end0
        exact HE.out
end Go.Proofs.YtalgilgfoekioaaGreatDoor
/- The reference's walk over all tuples of a constraint: a node, and the whole. -/
namespace Go.Proofs.YtalgilgfoekioaaGreatDoor
open Go.RowKit

/-- The tuples that begin with p and one of the values of d below k. -/
def partW (p : List Int) (d : Int) (rs : List Int) (k : Nat) : List (List Int) := (domK d k).flatMap fun u => (tups rs).map fun t => p ++ u :: t
theorem partW_zero (p : List Int) (d : Int) (rs : List Int) : partW p d rs 0 = [] := rfl
theorem partW_yes (p : List Int) {d : Int} (rs : List Int) {k : Nat} (h : hasB d k = true) : partW p d rs (k + 1) = partW p d rs k ++ (tups rs).map fun t => (p ++ [(k : Int)]) ++ t := by
  unfold partW
  rw [domK, if_pos h, List.flatMap_append]
  simp
theorem partW_no (p : List Int) {d : Int} (rs : List Int) {k : Nat} (h : hasB d k = false) : partW p d rs (k + 1) = partW p d rs k := by
  unfold partW
  rw [domK, h, if_neg (by simp)]
theorem partW_all (p : List Int) (d : Int) (rs : List Int) : partW p d rs 6 = (tups (d :: rs)).map fun t => p ++ t := by
  unfold partW
  simp [tups, domL, List.map_flatMap, List.map_map, Function.comp_def]
theorem leftT_app (q : List Int → Bool) (l : List Int) (A B : List (List Int)) : leftT q l (A ++ B) = leftT q (leftT q l A) B := by
  unfold leftT; rw [List.foldl_append]
theorem at0_mid (a : List Int) (d : Int) (b : List Int) {i : Nat} (h : i = a.length) : at0 (a ++ d :: b) i = d := by
  subst h
  unfold at0
  rw [getD_lt _ _ (by simp)]
  simp
set_option maxRecDepth 100000 in
set_option maxHeartbeats 8000000 in
theorem walk_node (c : Con) (ds : List Int) (vv va vr vd : Value) (gx gs bs : Nat) (w0 : World) (hcv : vCon c ds.length = true) (hV : SInts w0 vv c.vars) (hD : SInts w0 vd ds) (hd : DomL ds) (hgx : w0.heap.size ≤ gx) (hgs : w0.heap.size ≤ gs) (d : Int) (rs : List Int)
    (IH : ∀ (done p l : List Int) (W : World), wordL c.vars ds = done ++ rs → p.length = done.length → Ext w0 W → WkSt c vv va vr vd gx gs bs p l W →
      Calls Tryz.prog 105 #[.pointer (some ⟨bs, 0, none⟩), .int .i64 p.length] W (WkEnd c vv va vr vd gx gs bs p (leftT (satB c) l ((tups rs).map fun t => p ++ t)) W))
    (done p l : List Int) (W : World) (hds : wordL c.vars ds = done ++ d :: rs) (hp : p.length = done.length) (hx0 : Ext w0 W) (hst : WkSt c vv va vr vd gx gs bs p l W) :
    Calls Tryz.prog 105 #[.pointer (some ⟨bs, 0, none⟩), .int .i64 p.length] W (WkEnd c vv va vr vd gx gs bs p (leftT (satB c) l ((tups (d :: rs)).map fun t => p ++ t)) W) := by
  have hvl := vCon_len hcv
  have hok := vCon_var hcv
  have hlt : p.length < c.vars.length := by
    have h := wordL_len c.vars ds
    rw [hds] at h; simp at h; omega
  have hat : at0 ds (at0 c.vars p.length).toNat = d := by
    rw [← wordL_at ds hlt, hds]; exact at0_mid _ _ _ hp
  obtain ⟨hu0, hul⟩ := hok.rg p.length hlt
  obtain ⟨u, hu⟩ : ∃ u : Nat, at0 c.vars p.length = u := ⟨(at0 c.vars p.length).toNat, by omega⟩
  rw [hu, Int.toNat_natCast] at hat hul
  have hdb := hd u hul
  rw [hat] at hdb
  obtain ⟨Av, cv, rfl, -, hlv⟩ := hV.form
  obtain ⟨Ad, cd, rfl, -, hld⟩ := hD.form
  obtain ⟨bv, ov, rfl, hbv, f1⟩ := hV.at_ hlt
  obtain ⟨bd, od, rfl, hbd, f2⟩ := hD.at_ hul
  rw [hu] at f1
  rw [hat] at f2
  have HST := hide hst
  have HIH := hide IH
  have HD := hide hds
  have HP := hide hp
  have HX0 := hide hx0
  have F1 := hide f1
  have F2 := hide f2
  have hn4 : c.vars.length ≤ 4 := by omega
  have hpI : (p.length : Int) < c.vars.length := by omega
  have hulI : (u : Int) < ds.length := by omega
  have hne : ((p.length : Int) == (c.vars.length : Int)) = false := by rw [beq_eq_false_iff_ne]; omega
  have c6 := hst.c6
  have hltb := hst.lt
  clear hst hds hp hx0 hat IH hu f1 f2 hvl hok hV hD hd hcv hu0
  go_enter Tryz.func105, Tryz.ntmps105
  go_wp2_with fail
  go_loopw [5] (fun i wr => ∃ k : Nat, k ≤ 6 ∧ i = .int .i64 k ∧ WkSt c (.slice (some ⟨bv, ov, none⟩) c.vars.length cv) va vr (.slice (some ⟨bd, od, none⟩) ds.length cd) gx gs bs p (leftT (satB c) l (partW p d rs k)) wr ∧ Keep (fun k => k ≠ gx ∧ k ≠ gs) W wr) (fun i _ => 6 - (intOf i).toNat)
  case atStart => exact ⟨0, by omega, rfl, by rw [partW_zero]; exact HST.out, Keep.refl _ _⟩
  case round =>
    obtain ⟨k, hk, rfl, hS, hK⟩ := hrel
    have HS := hide hS
    have HK := hide hK
    have hE0 : Ext w0 wr := Below.trans HX0.out (hK.below HX0.out.size (fun k hk => by omega))
    have HE0 := hide hE0
    have c1 := hS.c1
    have c5 := hS.c5
    have c6 := hS.c6
    have hlr := hS.lt
    have g1 := (hE0.cells _ _ hbv).trans F1.out
    have g2 := (hE0.cells _ _ hbd).trans F2.out
    have hbvr := Nat.lt_of_lt_of_le hbv hE0.size
    have hbdr := Nat.lt_of_lt_of_le hbd hE0.size
    obtain ⟨fr, hrow, -⟩ := hS.rx
    have hgl := hrow.lt
    have x0 := hrow.cell hlt
    have xz := hrow.frozen p.length
    clear hS hK hE0 hrow
    by_cases hk6 : k < 6
    · have hkI : (k : Int) < 6 := by omega
      have hkI5 : (k : Int) ≤ 5 := by omega
      have hk5 : k ≤ 5 := by omega
      cases hh : hasB d k with
      | false =>
        have HH := hide hh
        have HN := hide (partW_no p rs hh)
        clear hh
        go_wp2_with fail
        refine wp_region_ext (by kernel_rfl) (by kernel_rfl) ?_
        iterate 15 (apply quiet_val; (focus rfl); (focus (intro w' hw'; have hk' := hw'.cells; go_simp; all_goals exact rfl)); simp only [Act.put, List.setIfInBounds_toArray, List.set_cons_succ, List.set_cons_zero])
        apply quiet_call; (focus rfl); (focus (intro w' hw'; go_simp; all_goals (first | exact rfl | (apply And.intro <;> exact rfl))))
        · exact fun w' hw' => same_quiet (domainHas_any d k w' hdb.1 (by omega) hk5) hw'
        (simp only [Act.put, List.setIfInBounds_toArray, List.set_cons_succ, List.set_cons_zero])
        refine wpQuiet_nil ?_
        intro w2 hx2
        have HX2 := hide hx2
        clear hx2
        rw [HH.out]
        go_wp2_with fail
        go_roundw
        case rel => exact ⟨k + 1, by omega, by go_num, by rw [HN.out]; exact HS.out.ext HX2.out, HK.out.ext HX2.out⟩
        case measure => simp [intOf]; omega
      | true =>
        have HH := hide hh
        have HN := hide (partW_yes p rs hh)
        clear hh
        go_wp2_with fail
        refine wp_region_ext (by kernel_rfl) (by kernel_rfl) ?_
        iterate 15 (apply quiet_val; (focus rfl); (focus (intro w' hw'; have hk' := hw'.cells; go_simp; all_goals exact rfl)); simp only [Act.put, List.setIfInBounds_toArray, List.set_cons_succ, List.set_cons_zero])
        apply quiet_call; (focus rfl); (focus (intro w' hw'; go_simp; all_goals (first | exact rfl | (apply And.intro <;> exact rfl))))
        · exact fun w' hw' => same_quiet (domainHas_any d k w' hdb.1 (by omega) hk5) hw'
        (simp only [Act.put, List.setIfInBounds_toArray, List.set_cons_succ, List.set_cons_zero])
        refine wpQuiet_nil ?_
        intro w2 hx2
        have HX2 := hide hx2
        have c6 := (hx2.cells _ _ hlr).trans c6
        have hlr := Nat.lt_of_lt_of_le hlr hx2.size
        have x0 := (hx2.cells _ _ hgl).trans x0
        have xz := (hx2.frz _ _ hgl).trans xz
        have hgl := Nat.lt_of_lt_of_le hgl hx2.size
        clear hx2 c1 c5 g1 g2
        rw [HH.out]
        go_wp2_with fail
        have hK4 := hide (show Keep (fun k => k ≠ gx ∧ k ≠ gs) wr (w2.setCell ⟨gx, p.length, none⟩ (.int .i64 k)) from (HX2.out.keep _).set (fun _ hh => hh.1 rfl) _)
        have hE4 : Ext w0 (w2.setCell ⟨gx, p.length, none⟩ (.int .i64 k)) := Below.trans HX0.out ((HK.out.trans hK4.out).below HX0.out.size (fun k hk => by omega))
        have hpl : ((p.length : Int) + 1) = ((p ++ [(k : Int)]).length : Int) := by simp
        have hih := HIH.out (done ++ [d]) (p ++ [(k : Int)]) (leftT (satB c) l (partW p d rs k)) _ (by rw [HD.out]; simp) (by simp [HP.out]) hE4 ((HS.out.ext HX2.out).push (k : Int) (by omega) hkI5 hlt)
        rw [← hpl] at hih
        refine hih.mono ?_
        clear hih hE4 hpl
        rintro e W5 ⟨rfl, hS5, hK5⟩
        have HS5 := hide hS5
        have HK5 := hide hK5
        clear hS5 hK5 x0 xz
        go_wp2_with fail
        go_roundw
        case rel => exact ⟨k + 1, by omega, by go_num, by rw [HN.out, leftT_app]; exact HS5.out.pop, HK.out.trans (hK4.out.trans HK5.out)⟩
        case measure => simp [intOf]; omega
    · obtain rfl : k = 6 := by omega
      have hE := hide (show WkEnd c (.slice (some ⟨bv, ov, none⟩) c.vars.length cv) va vr (.slice (some ⟨bd, od, none⟩) ds.length cd) gx gs bs p (leftT (satB c) l ((tups (d :: rs)).map fun t => p ++ t)) W (.returned (.tuple #[])) wr by rw [← partW_all]; exact ⟨rfl, HS.out, HK.out⟩)
      go_wp2_with fail
      go_end0
      exact hE.out
theorem walk_any (c : Con) (ds : List Int) (vv va vr vd : Value) (gx gs bs : Nat) (w0 : World) (hcv : vCon c ds.length = true) (hV : SInts w0 vv c.vars) (hA : SInts w0 va c.args) (hR : SRows w0 vr c.rows) (hD : SInts w0 vd ds) (hd : DomL ds) (hgx : w0.heap.size ≤ gx) (hgs : w0.heap.size ≤ gs) :
    ∀ (rs done p l : List Int) (W : World), wordL c.vars ds = done ++ rs → p.length = done.length → Ext w0 W → WkSt c vv va vr vd gx gs bs p l W →
      Calls Tryz.prog 105 #[.pointer (some ⟨bs, 0, none⟩), .int .i64 p.length] W (WkEnd c vv va vr vd gx gs bs p (leftT (satB c) l ((tups rs).map fun t => p ++ t)) W)
  | [], done, p, l, W, hds, hp, hx, hst => by
    have hl : p.length = c.vars.length := by
      have h := wordL_len c.vars ds
      rw [hds] at h; simp at h; omega
    have := walk_leaf c ds.length vv va vr vd gx gs bs p l W hcv (hV.ext hx) (hA.ext hx) (hR.ext hx) hl hst
    simpa [tups] using this
  | d :: rs, done, p, l, W, hds, hp, hx, hst =>
    walk_node c ds vv va vr vd gx gs bs w0 hcv hV hD hd hgx hgs d rs (fun done p l W => walk_any c ds vv va vr vd gx gs bs w0 hcv hV hA hR hD hd hgx hgs rs done p l W) done p l W hds hp hx hst
end Go.Proofs.YtalgilgfoekioaaGreatDoor
/- supported of the reference: what a constraint leaves of the domains. -/
namespace Go.Proofs.YtalgilgfoekioaaGreatDoor
open Go.RowKit
attribute [local go_sem] evalOf

/-- A new row of n zeros. -/
def RS.zr (D : List Nat) (B n : Nat) : RS := ⟨D, fun _ v W => ∃ b, v = .slice (some ⟨b, 0, none⟩) n n ∧ B ≤ b ∧ W.rowIs b 3 n (fun _ => .int .i64 0), fun _ _ _ _ h hx => by obtain ⟨b, h1, h2, h3⟩ := h; exact ⟨b, h1, h2, hx.row h3⟩⟩
/-- A new box that holds the parts of a struct of eight cells. -/
def RS.en (D : List Nat) (B : Nat) : RS := ⟨D, fun vs v W => ∃ (b : Nat) (cs : Array Value), vs.getD 0 undef = .agg cs ∧ cs.size = 8 ∧ v = .pointer (some ⟨b, 0, none⟩) ∧ B ≤ b ∧ W.rowIs b 94 8 (fun k => cs.getD k undef), fun _ _ _ _ h hx => by obtain ⟨b, cs, h1, h2, h3, h4, h5⟩ := h; exact ⟨b, cs, h1, h2, h3, h4, hx.row h5⟩⟩
/-- A struct of which two parts are slices that have been made. -/
def RS.bd (D : List Nat) (n : Nat) (F : Nat → Nat → Array Value) : RS := ⟨D, fun vs v _ => ∃ gx gs, vs.getD 2 undef = .slice (some ⟨gx, 0, none⟩) n n ∧ vs.getD 3 undef = .slice (some ⟨gs, 0, none⟩) n n ∧ v = .agg (F gx gs), fun _ _ _ _ h _ => h⟩
theorem row_ty {W : World} {b : Nat} {t u : TypeId} {n m : Nat} {f g : Nat → Value} (h : W.rowIs b t n f) (k : W.rowIs b u m g) : t = u := by
  obtain ⟨c1, p1, -⟩ := h
  obtain ⟨c2, p2, -⟩ := k
  rw [p1] at p2
  injection p2 with p2
  injection p2 with _ p3
theorem getD_some {cs : Array Value} {i : Nat} (hi : i < cs.size) : cs[i]? = some (cs.getD i undef) := by simp [Array.getD_eq_getD_getElem?, hi]
theorem leftW {c : Con} {ds : List Int} (p : List Int → Bool) : (leftT p (zer c.vars.length) (tups (wordL c.vars ds))).length = c.vars.length := (left_spec p c.vars ds).1
set_option maxRecDepth 100000 in
set_option maxHeartbeats 8000000 in
theorem supported_any (v vd : Value) (c : Con) (ds : List Int) (w : World) (hC : SCon w v c) (hD : SInts w vd ds) (hcv : vCon c ds.length = true) (hd : DomL ds) :
    Calls Tryz.prog 92 #[v, vd] w (OwnRes (filtL c ds) w) := by
  have hvl := vCon_len hcv
  have HOK := hide (vCon_var hcv)
  have HCV := hide hcv
  have HDM := hide hd
  have hC0 := hide hC
  have hD0 := hide hD
  obtain ⟨vv, va, vr, rfl, hV, hA, hR⟩ := hC
  obtain ⟨Av, cv, rfl, -, hlv⟩ := hV.form
  obtain ⟨Aa, ca, rfl, -, hla⟩ := hA.form
  obtain ⟨Ar, cr, rfl, -, hlr⟩ := hR.form
  obtain ⟨Ad, cd, rfl, -, hld⟩ := hD.form
  have hV0 := hide hV
  have hA0 := hide hA
  have hR0 := hide hR
  have hn4 : c.vars.length ≤ 4 := by omega
  have hn0 : 0 < c.vars.length := by omega
  have hdp : 0 < ds.length := by omega
  obtain ⟨w0, hw0⟩ : ∃ w0, w0 = w.alloc (.cells #[.int .i64 c.kk, .slice Av c.vars.length cv, .slice Aa c.args.length ca, .int .i64 c.bound, .slice Ar c.rows.length cr] 60) := ⟨_, rfl⟩
  have hx0 : Ext w w0 := by rw [hw0]; exact (Ext.refl w).alloc _
  have k0 : w0.cell? ⟨w.heap.size, 0, none⟩ = some (.int .i64 c.kk) := by rw [hw0]; go_simp
  have k1 : w0.cell? ⟨w.heap.size, 1, none⟩ = some (.slice Av c.vars.length cv) := by rw [hw0]; go_simp
  have k2 : w0.cell? ⟨w.heap.size, 2, none⟩ = some (.slice Aa c.args.length ca) := by rw [hw0]; go_simp
  have k3 : w0.cell? ⟨w.heap.size, 3, none⟩ = some (.int .i64 c.bound) := by rw [hw0]; go_simp
  have k4 : w0.cell? ⟨w.heap.size, 4, none⟩ = some (.slice Ar c.rows.length cr) := by rw [hw0]; go_simp
  have ks : w.heap.size < w0.heap.size := by rw [hw0]; simp
  have HX0 := hide hx0
  have K1 := hide k1
  clear hV hA hR hD hcv hd hvl
  go_enter Tryz.func92, Tryz.ntmps92
  go_wp2
  rw [← hw0]
  refine wp_region_relMT (mk := [5, 9]) OldS ApS OldS.ext (n := 12) (ts := [12]) (sp := [RS.q [] (fun _ => .agg #[.int .i64 c.kk, .slice Av c.vars.length cv, .slice Aa c.args.length ca, .int .i64 c.bound, .slice Ar c.rows.length cr]), RS.q [] (fun _ => .slice Ad ds.length cd), RS.q [] (fun _ => .pointer (some ⟨w.heap.size, 1, none⟩)), RS.q [2] (fun _ => .slice Av c.vars.length cv), RS.q [3] (fun _ => .int .i64 c.vars.length), RS.zr [4] w0.heap.size c.vars.length, RS.q [] (fun _ => .pointer (some ⟨w.heap.size, 1, none⟩)), RS.q [6] (fun _ => .slice Av c.vars.length cv), RS.q [7] (fun _ => .int .i64 c.vars.length), RS.zr [8] w0.heap.size c.vars.length, RS.bd [0, 1, 5, 9] c.vars.length (fun gx gs => #[.int .i64 c.kk, .slice Av c.vars.length cv, .slice Aa c.args.length ca, .int .i64 c.bound, .slice Ar c.rows.length cr, .slice Ad ds.length cd, .slice (some ⟨gx, 0, none⟩) c.vars.length c.vars.length, .slice (some ⟨gs, 0, none⟩) c.vars.length c.vars.length]), RS.en [10] w0.heap.size])
    (fun W => Ext w0 W) (by kernel_rfl) (relOK (D := [[], [], [], [2], [3], [4], [], [6], [7], [8], [0, 1, 5, 9], [10]]) rfl (by kernel_rfl) rfl) (by kernel_rfl) (fun W W' h hx => h.trans hx) (Ext.refl w0).drew (by decide) ?steps ?ends
  case steps =>
    refine ⟨?_, ?_, ?_, ?_, ?_, ?_, ?_, ?_, ?_, ?_, ?_, ?_, trivial⟩
    · intro V τ W hC hf ht h0
      have s2 : τ 2 = .pointer (some ⟨w.heap.size, 0, none⟩) := h0 2 (by kernel_rfl)
      have k0 := (hC.cells _ _ ks).trans k0
      have k1 := (hC.cells _ _ ks).trans k1
      have k2 := (hC.cells _ _ ks).trans k2
      have k3 := (hC.cells _ _ ks).trans k3
      have k4 := (hC.cells _ _ ks).trans k4
      refine Does.val (w' := W) (v := .agg #[.int .i64 c.kk, .slice Av c.vars.length cv, .slice Aa c.args.length ca, .int .i64 c.bound, .slice Ar c.rows.length cr]) ?_ ⟨⟨Ext.refl W, rfl⟩, fun h => absurd h (by decide)⟩
      clear h0 ht hf
      have e2 : evalOf τ (.tmp 2) = .pointer (some ⟨w.heap.size, 0, none⟩) := s2
      clear hw0
      go_simp
      try simp only [e2]
      try go_simp
    · intro V τ W hC hf ht h0
      have s1 : τ 1 = .slice Ad ds.length cd := h0 1 (by kernel_rfl)
      refine Does.val (w' := W) (v := .slice Ad ds.length cd) ?_ ⟨⟨Ext.refl W, rfl⟩, fun h => absurd h (by decide)⟩
      go_simp
    · intro V τ W hC hf ht h0
      have s2 : τ 2 = .pointer (some ⟨w.heap.size, 0, none⟩) := h0 2 (by kernel_rfl)
      refine Does.val (w' := W) (v := .pointer (some ⟨w.heap.size, 1, none⟩)) ?_ ⟨⟨Ext.refl W, rfl⟩, fun h => absurd h (by decide)⟩
      go_simp
    · intro V τ W hC hf ht h0
      have f2 : V 2 = .pointer (some ⟨w.heap.size, 1, none⟩) := hf 2 (by simp [RS.at_, RS.q])
      have s10 := (ht 2 (by simp [RS.at_, RS.q]) 10 rfl).trans f2
      have k1 := (hC.cells _ _ ks).trans k1
      refine Does.val (w' := W) (v := .slice Av c.vars.length cv) ?_ ⟨⟨Ext.refl W, rfl⟩, fun h => absurd h (by decide)⟩
      go_simp
    · intro V τ W hC hf ht h0
      have f3 : V 3 = .slice Av c.vars.length cv := hf 3 (by simp [RS.at_, RS.q])
      have s11 := (ht 3 (by simp [RS.at_, RS.q]) 11 rfl).trans f3
      refine Does.val (w' := W) (v := .int .i64 c.vars.length) ?_ ⟨⟨Ext.refl W, rfl⟩, fun h => absurd h (by decide)⟩
      go_simp
    · intro V τ W hC hf ht h0
      have f4 : V 4 = .int .i64 c.vars.length := hf 4 (by simp [RS.at_, RS.zr])
      have s12 := (ht 4 (by simp [RS.at_, RS.zr]) 12 rfl).trans f4
      refine Does.make _ _ 23 rfl 3 (.int .i64 0) 1 8 Tryz.underlying23 Tryz.infoI .i64 .i64 c.vars.length s12 s12 (by omega) (by omega) (fun _ => .int .i64 0) (fun i _ => by simp [Value.cells, Nat.mod_one]) ?_
      intro W' hrow hsz hx
      rw [Nat.mul_one] at hrow
      exact ⟨⟨hx, W.heap.size, rfl, hC.size, hrow⟩, fun _ => ⟨⟨_, _, rfl, by omega⟩, fun u hu => hu.new _ _⟩⟩
    · intro V τ W hC hf ht h0
      have s2 : τ 2 = .pointer (some ⟨w.heap.size, 0, none⟩) := h0 2 (by kernel_rfl)
      refine Does.val (w' := W) (v := .pointer (some ⟨w.heap.size, 1, none⟩)) ?_ ⟨⟨Ext.refl W, rfl⟩, fun h => absurd h (by decide)⟩
      go_simp
    · intro V τ W hC hf ht h0
      have f6 : V 6 = .pointer (some ⟨w.heap.size, 1, none⟩) := hf 6 (by simp [RS.at_, RS.q])
      have s14 := (ht 6 (by simp [RS.at_, RS.q]) 14 rfl).trans f6
      have k1 := (hC.cells _ _ ks).trans k1
      refine Does.val (w' := W) (v := .slice Av c.vars.length cv) ?_ ⟨⟨Ext.refl W, rfl⟩, fun h => absurd h (by decide)⟩
      go_simp
    · intro V τ W hC hf ht h0
      have f7 : V 7 = .slice Av c.vars.length cv := hf 7 (by simp [RS.at_, RS.q])
      have s15 := (ht 7 (by simp [RS.at_, RS.q]) 15 rfl).trans f7
      refine Does.val (w' := W) (v := .int .i64 c.vars.length) ?_ ⟨⟨Ext.refl W, rfl⟩, fun h => absurd h (by decide)⟩
      go_simp
    · intro V τ W hC hf ht h0
      have f8 : V 8 = .int .i64 c.vars.length := hf 8 (by simp [RS.at_, RS.zr])
      have s16 := (ht 8 (by simp [RS.at_, RS.zr]) 16 rfl).trans f8
      refine Does.make _ _ 23 rfl 3 (.int .i64 0) 1 8 Tryz.underlying23 Tryz.infoI .i64 .i64 c.vars.length s16 s16 (by omega) (by omega) (fun _ => .int .i64 0) (fun i _ => by simp [Value.cells, Nat.mod_one]) ?_
      intro W' hrow hsz hx
      rw [Nat.mul_one] at hrow
      exact ⟨⟨hx, W.heap.size, rfl, hC.size, hrow⟩, fun _ => ⟨⟨_, _, rfl, by omega⟩, fun u hu => hu.new _ _⟩⟩
    · intro V τ W hC hf ht h0
      have f0 : V 0 = .agg #[.int .i64 c.kk, .slice Av c.vars.length cv, .slice Aa c.args.length ca, .int .i64 c.bound, .slice Ar c.rows.length cr] := hf 0 (by simp [RS.at_, RS.bd])
      have f1 : V 1 = .slice Ad ds.length cd := hf 1 (by simp [RS.at_, RS.bd])
      obtain ⟨b5, f5, -, -⟩ := (show ∃ b, V 5 = _ ∧ _ ∧ _ from hf 5 (by simp [RS.at_, RS.bd]))
      obtain ⟨b9, f9, -, -⟩ := (show ∃ b, V 9 = _ ∧ _ ∧ _ from hf 9 (by simp [RS.at_, RS.bd]))
      have s8 := (ht 0 (by simp [RS.at_, RS.bd]) 8 rfl).trans f0
      have s9 := (ht 1 (by simp [RS.at_, RS.bd]) 9 rfl).trans f1
      have s13 := (ht 5 (by simp [RS.at_, RS.bd]) 13 rfl).trans f5
      have s17 := (ht 9 (by simp [RS.at_, RS.bd]) 17 rfl).trans f9
      refine Does.val (w' := W) (v := .agg #[.int .i64 c.kk, .slice Av c.vars.length cv, .slice Aa c.args.length ca, .int .i64 c.bound, .slice Ar c.rows.length cr, .slice Ad ds.length cd, .slice (some ⟨b5, 0, none⟩) c.vars.length c.vars.length, .slice (some ⟨b9, 0, none⟩) c.vars.length c.vars.length]) ?_ ⟨⟨Ext.refl W, b5, b9, f5, f9, rfl⟩, fun h => absurd h (by decide)⟩
      go_simp
    · intro V τ W hC hf ht h0
      obtain ⟨gx, gs, -, -, f10⟩ := (show ∃ gx gs, _ ∧ _ ∧ V 10 = .agg _ from hf 10 (by simp [RS.at_, RS.en]))
      have s18 := (ht 10 (by simp [RS.at_, RS.en]) 18 rfl).trans f10
      refine Does.val (w' := W.alloc (.cells #[.int .i64 c.kk, .slice Av c.vars.length cv, .slice Aa c.args.length ca, .int .i64 c.bound, .slice Ar c.rows.length cr, .slice Ad ds.length cd, .slice (some ⟨gx, 0, none⟩) c.vars.length c.vars.length, .slice (some ⟨gs, 0, none⟩) c.vars.length c.vars.length] 94)) (v := .pointer (some ⟨W.heap.size, 0, none⟩)) ?_ ⟨⟨(Ext.refl W).alloc _, W.heap.size, _, f10, rfl, rfl, hC.size, World.rowIs_alloc _ _ _ _ (fun i hi => getD_some hi)⟩, fun h => absurd h (by decide)⟩
      clear h0 ht hf hw0
      go_simp
  case ends =>
    intro V W hC hf hp
    have f0 : V 0 = .agg #[.int .i64 c.kk, .slice Av c.vars.length cv, .slice Aa c.args.length ca, .int .i64 c.bound, .slice Ar c.rows.length cr] := hf 0 (by omega)
    have f1 : V 1 = .slice Ad ds.length cd := hf 1 (by omega)
    have f2 : V 2 = .pointer (some ⟨w.heap.size, 1, none⟩) := hf 2 (by omega)
    have f3 : V 3 = .slice Av c.vars.length cv := hf 3 (by omega)
    have f4 : V 4 = .int .i64 c.vars.length := hf 4 (by omega)
    obtain ⟨gx, f5, hgx, hrx⟩ := (show ∃ b, V 5 = _ ∧ _ ∧ _ from hf 5 (by omega))
    have f6 : V 6 = .pointer (some ⟨w.heap.size, 1, none⟩) := hf 6 (by omega)
    have f7 : V 7 = .slice Av c.vars.length cv := hf 7 (by omega)
    have f8 : V 8 = .int .i64 c.vars.length := hf 8 (by omega)
    obtain ⟨gs, f9, hgs, hrs⟩ := (show ∃ b, V 9 = _ ∧ _ ∧ _ from hf 9 (by omega))
    obtain ⟨gx', gs', f5', f9', f10⟩ := (show ∃ gx gs, V 5 = _ ∧ V 9 = _ ∧ V 10 = .agg _ from hf 10 (by omega))
    obtain rfl : gx' = gx := by rw [f5] at f5'; injection f5' with e; injection e with e; injection e with e; exact e.symm
    obtain rfl : gs' = gs := by rw [f9] at f9'; injection f9' with e; injection e with e; injection e with e; exact e.symm
    obtain ⟨bs, cs, f10', -, f11, hbs, hrb⟩ := (show ∃ b cs, V 10 = .agg cs ∧ _ ∧ V 11 = _ ∧ _ ∧ _ from hf 11 (by omega))
    rw [f10] at f10'
    injection f10' with f10'
    subst f10'
    have hne : gx' ≠ gs' := hp 5 (by simp) 9 (by simp) (by decide) gx' _ _ gs' _ _ f5 f9
    clear hf hp
    simp only [List.take_succ_cons, List.take_zero, putAll, Act.put, List.setIfInBounds_toArray, List.set_cons_succ, List.set_cons_zero, Nat.reduceAdd, f0, f1, f2, f3, f4, f5, f6, f7, f8, f9, f10, f11]
    simp only [nths, nth1]
    have HC := hide hC
    have HRX := hide hrx
    have HRB := hide hrb
    have HRS := hide hrs
    have hsz := hC.size
    have hgxl := hrx.lt
    have hgsl := hrs.lt
    clear hC hrx hrs hrb f0 f1 f2 f3 f4 f5 f6 f7 f8 f9 f10 f11 f5' f9' k0 k2 k3 k4
    have hst : WkSt c (.slice Av c.vars.length cv) (.slice Aa c.args.length ca) (.slice Ar c.rows.length cr) (.slice Ad ds.length cd) gx' gs' bs [] (zer c.vars.length) W :=
      ⟨HRB.out.cell (i := 0) (by omega), HRB.out.cell (i := 1) (by omega), HRB.out.cell (i := 2) (by omega), HRB.out.cell (i := 3) (by omega), HRB.out.cell (i := 4) (by omega), HRB.out.cell (i := 5) (by omega), HRB.out.cell (i := 6) (by omega), HRB.out.cell (i := 7) (by omega),
       ⟨_, HRX.out, fun j hj => absurd hj (by simp)⟩, HRS.out.congr (fun j _ => by rw [zer_at]), fun i hi => absurd hi (by simp), DomL.zer _, zer_len _, Nat.zero_le _, hne,
       fun e => by have h := HRX.out; rw [e] at h; have := row_ty h HRB.out; revert this; decide,
       fun e => by have h := HRS.out; rw [e] at h; have := row_ty h HRB.out; revert this; decide, HRB.out.lt⟩
    have he := walk_any c ds _ _ _ _ gx' gs' bs w0 HCV.out (hV0.out.ext HX0.out) (hA0.out.ext HX0.out) (hR0.out.ext HX0.out) (hD0.out.ext HX0.out) HDM.out hgx hgs (wordL c.vars ds) [] [] (zer c.vars.length) W rfl rfl HC.out hst
    have hmap : (tups (wordL c.vars ds)).map (fun t => [] ++ t) = tups (wordL c.vars ds) := by simp
    rw [hmap] at he
    clear hst hmap hw0
    go_wp2_with fail
    refine he.mono ?_
    clear he
    rintro e W4 ⟨rfl, hS4, hK4⟩
    have HS4 := hide hS4
    have hE4 : Ext w0 W4 := Below.trans HC.out (hK4.below hsz (fun k hk => by omega))
    have HE4 := hide hE4
    have g1 := (hE4.cells _ _ ks).trans K1.out
    have ks4 := Nat.lt_of_lt_of_le ks hE4.size
    clear hS4 hK4 hE4 k1
    go_wp2_with fail
    refine (copyInts_any _ ds _ (hD0.out.ext (HX0.out.trans HE4.out)) hdp).mono ?_
    rintro e W5 ⟨Ao, co, bo, mo, fo, rfl, hco, hdo, hbo, hoo, hx5⟩
    obtain ⟨rfl, hro, hmo, hfo⟩ := hoo hdp
    have HS5 := hide (HS4.out.ext hx5)
    have HX5 := hide ((HX0.out.trans HE4.out).trans hx5)
    have HXO := hide (HX0.out.trans HE4.out)
    have HRO := hide hro
    have HFO := hide hfo
    have hbol := hro.lt
    have hbs4 := HS4.out.lt
    have g1 := (hx5.cells _ _ ks4).trans g1
    have ks5 := Nat.lt_of_lt_of_le ks4 hx5.size
    have hgs4 := HS4.out.rs.lt
    have hbsn : bs ≠ bo := by omega
    have hgsn : gs' ≠ bo := by omega
    have hwn : w.heap.size ≠ bo := by omega
    have hbow : w.heap.size ≤ bo := Nat.le_trans (HX0.out.trans HE4.out).size hbo
    obtain ⟨L, hL⟩ : ∃ L, L = leftT (satB c) (zer c.vars.length) (tups (wordL c.vars ds)) := ⟨_, rfl⟩
    have HL := hide hL
    rw [← hL] at HS4 HS5
    have c7 := HS5.out.c7
    clear hx5 hro hfo hoo hL
    go_wp2
    go_loopw [7] (fun i wr => ∃ (k : Nat) (f : Nat → Value), i = .int .i64 k ∧ k ≤ c.vars.length ∧ wr.rowIs bo 3 mo f ∧ (∀ j, j < ds.length → f j = .int .i64 (at0 (putV ds c.vars L k) j)) ∧ Keep (fun j => j ≠ bo) W5 wr) (fun i _ => c.vars.length - (intOf i).toNat)
    case atStart => exact ⟨0, fo, rfl, Nat.zero_le _, HRO.out, HFO.out, Keep.refl _ _⟩
    case round =>
      obtain ⟨k, f, rfl, hk, hrow, hf, hkp⟩ := hrel
      have HROW := hide hrow
      have HF := hide hf
      have HKP := hide hkp
      have g1 := (hkp.cell (p := ⟨w.heap.size, 1, none⟩) ks5 hwn).trans g1
      have ksr := Nat.lt_of_lt_of_le ks5 hkp.size
      have c7 := (hkp.cell (p := ⟨bs, 7, none⟩) HS5.out.lt hbsn).trans c7
      have hbsr := Nat.lt_of_lt_of_le HS5.out.lt hkp.size
      by_cases hlt : k < c.vars.length
      · have hkI : (k : Int) < c.vars.length := by omega
        have hrs := hkp.row (g := gs') hgsn HS5.out.rs
        have fs := hrs.cell hlt
        have hgsr := hrs.lt
        obtain ⟨bv, ov, rfl, hbv, f1⟩ := hV0.out.at_ hlt
        obtain ⟨hu0, hul⟩ := HOK.out.rg k hlt
        obtain ⟨u, hu⟩ : ∃ u : Nat, at0 c.vars k = u := ⟨(at0 c.vars k).toNat, by omega⟩
        rw [hu] at f1 hu0 hul
        have hul : u < ds.length := hul
        have hulI : (u : Int) < ds.length := by omega
        have hbv5 := Nat.lt_of_lt_of_le hbv HX5.out.size
        have f1 := (hkp.cell (p := ⟨bv, ov + k, none⟩) hbv5 (by show bv ≠ bo; omega)).trans ((HX5.out.cells _ _ hbv).trans f1)
        have hbvr := Nat.lt_of_lt_of_le hbv5 hkp.size
        have fo0 := hrow.cell (i := u) (by omega)
        have foz := hrow.frozen u
        have hbor := hrow.lt
        have HP := hide (show ∀ j, j < ds.length → (if j = u then Value.int .i64 (at0 L k) else f j) = .int .i64 (at0 (putV ds c.vars L (k + 1)) j) from fun j hj => by
          rw [putV, hu, Int.toNat_natCast, at0_set _ _ _ _ (by rw [putV_len]; exact hul)]
          by_cases e : j = u
          · subst e; rw [if_pos rfl, if_pos rfl]
          · rw [if_neg e, if_neg (fun h => e h.symm)]; exact hf j hj)
        clear hrow hf hkp hrs hu
        go_wp2
        refine wp_region_ext_tail 14 (by kernel_rfl) (by kernel_rfl) ?_
        simp only [List.take_succ_cons, List.take_zero, List.drop_succ_cons, List.drop_zero]
        iterate 14 (apply quiet_val; (focus rfl); (focus (intro w' hw'; have hk' := hw'.cells; go_simp; all_goals exact rfl)); simp only [Act.put, List.setIfInBounds_toArray, List.set_cons_succ, List.set_cons_zero])
        refine wpQuiet_nil ?_
        intro w7 hx7
        have HX7 := hide hx7
        have foz := (hx7.frz _ _ hbor).trans foz
        have fo0 := (hx7.cells _ _ hbor).trans fo0
        have hbor := Nat.lt_of_lt_of_le hbor hx7.size
        clear hx7
        go_wp2
        go_roundw
        case rel => exact ⟨k + 1, _, by go_num, by omega, (HX7.out.row HROW.out).set u _, HP.out, (HKP.out.trans (HX7.out.keep _)).set (fun _ hh => hh rfl) _⟩
        case measure => simp [intOf]; omega
      · obtain rfl : k = c.vars.length := by omega
        have hkI : ¬ ((c.vars.length : Int) < c.vars.length) := by omega
        have HE := hide (show OwnRes (filtL c ds) w (.returned (.slice (some ⟨bo, 0, none⟩) ds.length co)) wr by
          have hfl : filtL c ds = putV ds c.vars L c.vars.length := by rw [HL.out]; rfl
          have hlen : (filtL c ds).length = ds.length := filtP_len _ _ _
          refine ⟨some ⟨bo, 0, none⟩, co, bo, mo, f, by rw [hlen], by rw [hlen]; exact hco, by rw [hlen]; exact hdo, hbow, fun _ => ⟨rfl, HROW.out, by rw [hlen]; exact hmo, fun i hi => ?_⟩, ?_⟩
          · rw [hfl]; exact HF.out i (by rw [hlen] at hi; exact hi)
          · exact Below.trans HX5.out (HKP.out.below HX5.out.size (fun j hj => by omega)))
        go_wp2
        go_ret
        exact HE.out
end Go.Proofs.YtalgilgfoekioaaGreatDoor
/- fixpoint of the reference. -/
namespace Go.Proofs.YtalgilgfoekioaaGreatDoor
open Go.RowKit

set_option maxHeartbeats 1000000 in
theorem equalIntsS_any (v v' : Value) (xs ys : List Int) (w : World) (hS : SInts w v xs) (hS' : SInts w v' ys) :
    Calls Tryz.prog 43 #[v, v'] w (Ret (.bool (decide (xs = ys))) w) := by
  have hS0 := hide hS
  have hS0' := hide hS'
  obtain ⟨A, cp, rfl, hl, hlen⟩ := hS.form
  obtain ⟨A', cp', rfl, hl', -⟩ := hS'.form
  clear hS hS'
  by_cases he : xs.length = ys.length
  · have heI : ((xs.length : Int) != (ys.length : Int)) = false := by simp [he]
    have HE := hide he
    clear he
    go_enter Tryz.func43, Tryz.ntmps43
    go_wp2
    go_loopw [5] (fun i wr => ∃ k : Nat, k ≤ xs.length ∧ i = .int .i64 k ∧ Ext w wr ∧ ∀ j, j < k → at0 xs j = at0 ys j) (fun i _ => xs.length - (intOf i).toNat)
    case atStart => exact ⟨0, Nat.zero_le _, rfl, Ext.refl w, fun j hj => by omega⟩
    case round =>
      obtain ⟨k, hk, rfl, hxr, hall⟩ := hrel
      have HA := hide hall
      clear hall
      by_cases hlt : k < xs.length
      · have hlt2 : k < ys.length := by rw [← HE.out]; exact hlt
        have hltI : (k : Int) < xs.length := by omega
        have hltI2 : (k : Int) < ys.length := by omega
        obtain ⟨b, off, rfl, hbl, f1⟩ := (hS0.out.ext hxr).at_ hlt
        obtain ⟨b', off', rfl, hbl', f1'⟩ := (hS0'.out.ext hxr).at_ hlt2
        cases hd : (at0 xs k != at0 ys k) with
        | true =>
          have HD := hide (show decide (xs = ys) = false by
            rw [decide_eq_false_iff_not]; intro e; rw [e] at hd; simp at hd)
          have HX := hide hxr
          clear hxr
          go_wp2
          refine wp_region_ext (by kernel_rfl) (by kernel_rfl) ?_
          iterate 9 (apply quiet_val; (focus rfl); (focus (intro w' hw'; have hk' := hw'.cells; go_simp; all_goals exact rfl)); simp only [Act.put, List.setIfInBounds_toArray, List.set_cons_succ, List.set_cons_zero])
          refine wpQuiet_nil ?_
          intro w2 hx2
          have HX2 := hide (HX.out.trans hx2)
          clear hx2
          go_wp2
          go_ret
          exact Ret.mk (ret_b HD.out.symm) HX2.out
        | false =>
          have HD := hide (show at0 xs k = at0 ys k by simpa using hd)
          have HX := hide hxr
          clear hxr
          go_wp2
          refine wp_region_ext (by kernel_rfl) (by kernel_rfl) ?_
          iterate 9 (apply quiet_val; (focus rfl); (focus (intro w' hw'; have hk' := hw'.cells; go_simp; all_goals exact rfl)); simp only [Act.put, List.setIfInBounds_toArray, List.set_cons_succ, List.set_cons_zero])
          refine wpQuiet_nil ?_
          intro w2 hx2
          have HX2 := hide (HX.out.trans hx2)
          clear hx2
          go_wp2
          go_roundw
          case rel => exact ⟨k + 1, by omega, by go_num, HX2.out, fun j hj => by
            by_cases e : j = k
            · subst e; exact HD.out
            · exact HA.out j (by omega)⟩
          case measure => simp [intOf]; omega
      · obtain rfl : k = xs.length := by omega
        have hkI : ¬ ((xs.length : Int) < xs.length) := by omega
        have HD := hide (show decide (xs = ys) = true from decide_eq_true (at0_ext HE.out HA.out))
        go_wp2
        go_ret
        exact Ret.mk (ret_b HD.out.symm) hxr
  · have heI : ((xs.length : Int) != (ys.length : Int)) = true := by simp; omega
    have HD := hide (show decide (xs = ys) = false by
      rw [decide_eq_false_iff_not]; intro e; exact he (by rw [e]))
    clear he
    go_enter Tryz.func43, Tryz.ntmps43
    go_wp2
    go_ret
    exact Ret.mk (ret_b HD.out.symm) (Ext.refl _)
set_option maxHeartbeats 1000000 in
theorem hasEmpty_any (v : Value) (xs : List Int) (w : World) (hS : SInts w v xs) :
    Calls Tryz.prog 19 #[v] w fun e w' => e = .returned (.bool (hasI xs 0)) ∧ w = w' := by
  have hS0 := hide hS
  obtain ⟨A, c, rfl, -, hln⟩ := hS.form
  clear hS
  go_enter Tryz.func19, Tryz.ntmps19
  go_wp2
  go_loop [3] (fun i => ∃ k : Nat, k ≤ xs.length ∧ i = .int .i64 k ∧ ∀ j, j < k → ((0 : Int) == at0 xs j) = false) (fun i => xs.length - (intOf i).toNat)
  case atStart => exact ⟨0, Nat.zero_le _, rfl, fun j hj => by omega⟩
  case round =>
    obtain ⟨k, hk, rfl, hno⟩ := hrel
    have HNO := hide hno
    clear hno
    by_cases hlt : k < xs.length
    · obtain ⟨b, off, rfl, hbl, f1⟩ := hS0.out.at_ hlt
      have hkI : (k : Int) < xs.length := by omega
      cases hx : (at0 xs k == 0) with
      | true =>
        have HF := hide (show hasI xs 0 = true from anyB_iff.2 ⟨k, hlt, by rw [beq_iff_eq] at hx ⊢; exact hx.symm⟩)
        go_wp2
        go_ret
        exact ⟨ret_b HF.out.symm, rfl⟩
      | false =>
        have HX := hide (show ((0 : Int) == at0 xs k) = false by rw [beq_eq_false_iff_ne] at hx ⊢; exact fun h => hx h.symm)
        go_wp2
        go_round
        case rel => exact ⟨k + 1, by omega, by go_num, upto_succ HNO.out HX.out⟩
        case measure => simp [intOf]; omega
    · obtain rfl : k = xs.length := by omega
      have HF := hide (show hasI xs 0 = false from anyB_false.2 HNO.out)
      go_wp2
      go_ret
      exact ⟨ret_b HF.out.symm, rfl⟩
set_option maxRecDepth 100000 in
set_option maxHeartbeats 4000000 in
theorem isConsistentS_any (v vd : Value) (D ds : List Int) (cs : List Con) (w : World) (hM : SMod w v D cs) (hD : SInts w vd ds) (hG : GoodD cs ds.length ds) :
    Calls Tryz.prog 91 #[v, vd] w (Ret (.bool (conB cs ds)) w) := by
  obtain ⟨ve, vc, rfl, hE, hC⟩ := hM
  have HG := hide hG
  obtain ⟨Ae, ce, rfl, -, hle⟩ := hE.form
  obtain ⟨Ac, cc, rfl, -, hlc⟩ := hC.form
  obtain ⟨Ad, cd, rfl, -, hld⟩ := hD.form
  obtain ⟨w0, hw0⟩ : ∃ w0, w0 = w.alloc (.cells #[.slice Ae D.length ce, .slice Ac cs.length cc] 26) := ⟨_, rfl⟩
  have hx0 : Ext w w0 := by rw [hw0]; exact (Ext.refl w).alloc _
  have k1 : w0.cell? ⟨w.heap.size, 1, none⟩ = some (.slice Ac cs.length cc) := by rw [hw0]; go_simp
  have ks : w.heap.size < w0.heap.size := by rw [hw0]; simp
  have HX0 := hide hx0
  have K1 := hide k1
  have hC0 := hide (hC.ext hx0)
  have hD0 := hide (hD.ext hx0)
  clear hE hC hD hG hx0 k1
  go_enter Tryz.func91, Tryz.ntmps91
  go_wp2
  rw [← hw0]
  clear hw0
  go_loopw [5] (fun i wr => ∃ k : Nat, i = .int .i64 k ∧ k ≤ cs.length ∧ Ext w0 wr ∧ ∀ j, j < k → decide (filtL (con0 cs j) ds ≠ ds) = false) (fun i _ => cs.length - (intOf i).toNat)
  case atStart => exact ⟨0, rfl, Nat.zero_le _, Ext.refl _, fun j hj => by omega⟩
  case round =>
    obtain ⟨k, rfl, hk, hx, hno⟩ := hrel
    have HX := hide hx
    have HNO := hide hno
    have k1 := (hx.cells _ _ ks).trans K1.out
    have ksr := Nat.lt_of_lt_of_le ks hx.size
    clear hno
    by_cases hlt : k < cs.length
    · have hkI : (k : Int) < cs.length := by omega
      obtain ⟨b, off, rfl, hbl, vv, va, vr, f1, f2, f3, f4, f5, s1, s2, s3⟩ := (hC0.out.ext hx).at_ hlt
      obtain ⟨Av, cv, rfl, -, -⟩ := s1.form
      obtain ⟨Aa, ca, rfl, -, -⟩ := s2.form
      obtain ⟨Ar, cr, rfl, -, -⟩ := s3.form
      have HC := hide (show SCon wr (.agg #[.int .i64 (con0 cs k).kk, .slice Av (con0 cs k).vars.length cv, .slice Aa (con0 cs k).args.length ca, .int .i64 (con0 cs k).bound, .slice Ar (con0 cs k).rows.length cr]) (con0 cs k) from ⟨_, _, _, rfl, s1, s2, s3⟩)
      have HV := hide (HG.out.2.2 k hlt)
      clear s1 s2 s3 hx
      go_wp2_with fail
      refine (supported_any _ _ (con0 cs k) ds _ HC.out (hD0.out.ext HX.out) HV.out HG.out.2.1).mono ?_
      rintro e w2 ⟨A2, c2, b2, m2, g2, rfl, hc2, hb2, hn2, ho2, hx2⟩
      have hfl : (filtL (con0 cs k) ds).length = ds.length := filtP_len _ _ _
      have hG2 := (HG.out.filt (i := k) hlt).1
      have HS2 := hide (SInts.own hc2 hb2 ho2 (fun i hi => by have := hG2.2.1 i hi; unfold I64; omega))
      have HX2 := hide (HX.out.trans hx2)
      have hsx2 := hx2.size
      have k1 := (hx2.cells _ _ ksr).trans k1
      have ksr := Nat.lt_of_lt_of_le ksr hx2.size
      rw [hfl] at HS2 ⊢
      clear hx2 ho2 hG2 hfl hb2 hc2
      go_wp2_with fail
      refine (equalIntsS_any _ _ (filtL (con0 cs k) ds) ds _ HS2.out (hD0.out.ext HX2.out)).mono ?_
      rintro e w3 ⟨rfl, hx3⟩
      have HX3 := hide (HX2.out.trans hx3)
      clear hx3
      by_cases he : filtL (con0 cs k) ds = ds
      · have HE := hide (show decide (filtL (con0 cs k) ds ≠ ds) = false by simpa using he)
        rw [decide_eq_true he]
        clear he
        go_wp2
        go_roundw
        case rel => exact ⟨k + 1, by go_num, by omega, HX3.out, upto_succ HNO.out HE.out⟩
        case measure => simp [intOf]; omega
      · have HE := hide (show conB cs ds = false by
          rw [conB, anyB_iff.2 ⟨k, hlt, by simpa using he⟩]; rfl)
        rw [decide_eq_false he]
        clear he
        go_wp2
        go_ret
        exact Ret.mk (ret_b HE.out.symm) (HX0.out.trans HX3.out)
    · obtain rfl : k = cs.length := by omega
      have hkI : ¬ ((cs.length : Int) < cs.length) := by omega
      have HE := hide (show conB cs ds = true by rw [conB, anyB_false.2 HNO.out]; rfl)
      go_wp2
      go_ret
      exact Ret.mk (ret_b HE.out.symm) (HX0.out.trans HX.out)
end Go.Proofs.YtalgilgfoekioaaGreatDoor
/- fixpoint of the reference: the walk. -/
namespace Go.Proofs.YtalgilgfoekioaaGreatDoor
open Go.RowKit

theorem fixL_empty {st : List Int → List Int} {k : Nat} {ds : List Int} (h : hasI ds 0 = true) : fixL st (k + 1) ds = zer ds.length := by rw [fixL, if_pos h]
theorem fixL_done {st : List Int → List Int} {k : Nat} {ds : List Int} (h : hasI ds 0 = false) (h2 : st ds = ds) : fixL st (k + 1) ds = ds := by rw [fixL, h, if_neg (by simp), if_pos h2]
theorem fixL_on {st : List Int → List Int} {k : Nat} {ds : List Int} (h : hasI ds 0 = false) (h2 : st ds ≠ ds) : fixL st (k + 1) ds = fixL st k (st ds) := by rw [fixL, h, if_neg (by simp), if_neg h2]
theorem GoodD.i64 {cs : List Con} {n : Nat} {ds : List Int} (h : GoodD cs n ds) : ∀ i, i < ds.length → I64 (at0 ds i) := fun i hi => by have := h.2.1 i hi; unfold I64; omega
/-- A result of its own reads. -/
theorem OwnRes.ints {xs : List Int} {w w' : World} {v : Value} (h : OwnRes xs w (.returned v) w') (hb : ∀ i, i < xs.length → I64 (at0 xs i)) : SInts w' v xs := by
  obtain ⟨A, c, b, m, f, h1, h2, h3, h4, h5, h6⟩ := h
  injection h1 with h1
  subst h1
  exact SInts.own h2 h3 h5 hb
theorem OwnRes.form {xs : List Int} {w w' : World} {v : Value} (h : OwnRes xs w (.returned v) w') : ∃ A c, v = .slice A xs.length c := by
  obtain ⟨A, c, b, m, f, h1, -⟩ := h
  injection h1 with h1
  exact ⟨A, c, h1⟩
theorem OwnRes.ext0 {xs : List Int} {w w' : World} {e : Ending} (h : OwnRes xs w e w') : Ext w w' := by
  obtain ⟨A, c, b, m, f, h1, h2, h3, h4, h5, h6⟩ := h
  exact h6
theorem OwnRes.from {xs : List Int} {w w1 w' : World} {e : Ending} (h : OwnRes xs w1 e w') (hx : Ext w w1) : OwnRes xs w e w' := by
  obtain ⟨A, c, b, m, f, h1, h2, h3, h4, h5, h6⟩ := h
  exact ⟨A, c, b, m, f, h1, h2, h3, Nat.le_trans hx.size h4, h5, hx.trans h6⟩
theorem zer_own {w w' : World} {b n : Nat} (hr : w'.rowIs b 3 n (fun _ => .int .i64 0)) (hb : w.heap.size ≤ b) (hx : Ext w w') (h4 : n ≤ 4) : OwnRes (zer n) w (.returned (.slice (some ⟨b, 0, none⟩) n n)) w' :=
  ⟨_, n, b, n, _, by rw [zer_len], by rw [zer_len]; exact Nat.le_refl _, by rw [zer_len]; omega, hb, fun _ => ⟨rfl, hr, by rw [zer_len]; exact Nat.le_refl _, fun i _ => by rw [zer_at]⟩, hx⟩
set_option maxRecDepth 100000 in
set_option maxHeartbeats 8000000 in
theorem fixpointS_any (v vd : Value) (D ds : List Int) (cs : List Con) (w : World) (hM : SMod w v D cs) (hD : SInts w vd ds) (hG : GoodD cs ds.length ds) (h4 : ds.length ≤ 4) (h1 : 0 < ds.length) :
    Calls Tryz.prog 71 #[v, vd] w (OwnRes (propL cs ds) w) := by
  obtain ⟨ve, vc, rfl, hE, hC⟩ := hM
  have HG := hide hG
  obtain ⟨Ae, ce, rfl, -, hle⟩ := hE.form
  obtain ⟨Ac, cc, rfl, -, hlc⟩ := hC.form
  obtain ⟨Ad, cd, rfl, -, hld⟩ := hD.form
  obtain ⟨w0, hw0⟩ : ∃ w0, w0 = w.alloc (.cells #[.slice Ae D.length ce, .slice Ac cs.length cc] 26) := ⟨_, rfl⟩
  have hx0 : Ext w w0 := by rw [hw0]; exact (Ext.refl w).alloc _
  have k0 : w0.cell? ⟨w.heap.size, 0, none⟩ = some (.slice Ae D.length ce) := by rw [hw0]; go_simp
  have k1 : w0.cell? ⟨w.heap.size, 1, none⟩ = some (.slice Ac cs.length cc) := by rw [hw0]; go_simp
  have ks : w.heap.size < w0.heap.size := by rw [hw0]; simp
  have HX0 := hide hx0
  have K0 := hide k0
  have K1 := hide k1
  have hE0 := hide (hE.ext hx0)
  have hC0 := hide (hC.ext hx0)
  have hD0 := hide (hD.ext hx0)
  clear hE hC hD hG hx0 k0 k1
  go_enter Tryz.func71, Tryz.ntmps71
  go_wp2_with fail
  rw [← hw0]
  clear hw0
  refine (copyInts_any _ ds _ hD0.out h1).mono ?_
  rintro e w1 ⟨A1, c1, b1, m1, f1, rfl, hc1, hb1, hn1, ho1, hx1⟩
  have HO := hide (show OwnRes ds w0 (.returned (.slice A1 ds.length c1)) w1 from ⟨A1, c1, b1, m1, f1, rfl, hc1, hb1, hn1, ho1, hx1⟩)
  obtain ⟨n, hn⟩ : ∃ n, n = ds.length := ⟨_, rfl⟩
  have HN := hide hn
  rw [← hn] at h4 h1 HO HG ⊢
  clear hn ho1 hx1 hb1 hn1
  go_wp2_with fail
  go_loopg [5] 300 (fun gk v wr => ∃ now : List Int, now.length = n ∧ OwnRes now w0 (.returned v) wr ∧ GoodD cs n now ∧ fixL (stepL cs) gk now = propL cs ds ∧ sumL now < gk)
  case atStart => exact ⟨ds, HN.out.symm, HO.out, HG.out, rfl, by have := sumL_bd ds HG.out.2.1; have := HN.out; omega⟩
  case round =>
    obtain ⟨now, hnl, how, hgn, hR, hsum⟩ := hrel
    obtain ⟨A, cc2, rfl⟩ := how.form
    have HOW := hide how
    have HGN := hide hgn
    have HR := hide hR
    have HNL := hide hnl
    have HS := hide (how.ints hgn.i64)
    have hx := how.ext0
    have HX := hide hx
    have k0 := (hx.cells _ _ ks).trans K0.out
    have k1 := (hx.cells _ _ ks).trans K1.out
    have ksr := Nat.lt_of_lt_of_le ks hx.size
    have hsb := (sumL_bd now hgn.2.1).1
    obtain ⟨k, rfl⟩ : ∃ k, gk = k + 1 := ⟨gk - 1, by omega⟩
    rw [hnl] at HS HOW ⊢
    clear hgn hR hx how hnl
    go_wp2_with fail
    refine (isConsistentS_any _ _ D now cs _ ⟨_, _, rfl, hE0.out.ext HX.out, hC0.out.ext HX.out⟩ HS.out (by rw [HNL.out]; exact HGN.out)).mono ?_
    rintro e w2 ⟨rfl, hx2⟩
    have HX2 := hide (HX.out.trans hx2)
    have HOW2 := hide (HOW.out.grow hx2)
    have HS2 := hide (HS.out.ext hx2)
    have k1 := (hx2.cells _ _ ksr).trans k1
    have ksr := Nat.lt_of_lt_of_le ksr hx2.size
    clear hx2 k0
    cases hcb : conB cs now with
    | true =>
      have hst : stepL cs now = now := (conB_iff HGN.out).1 hcb
      clear hcb
      cases h0 : hasI now 0 with
      | true =>
        have H0 := hide h0
        have HZ := hide (show propL cs ds = zer n by rw [← HR.out, fixL_empty h0, HNL.out])
        clear h0 hst
        go_wp2_with (first | (go_at_call 19; refine (hasEmpty_any _ now _ HS2.out).mono ?_; rintro e w' ⟨rfl, rfl⟩; rw [H0.out]) | (at_make; go_must (refine wpList_make_gen _ rfl _ _ 23 rfl 3 (.int .i64 0) 1 8 Tryz.underlying23 Tryz.infoI .i64 .i64 n rfl rfl (by omega) (by omega) (fun _ => .int .i64 0) (fun i _ => by simp [Value.cells, Nat.mod_one]) ?_); intro w3 hrow3 hsz3 hx3; rw [Nat.mul_one] at hrow3; have HROW := hide hrow3; have HX3 := hide hx3; clear hrow3 hx3 hsz3))
        go_ret
        rw [HZ.out]
        exact zer_own HROW.out (HX0.out.trans HX2.out).size ((HX0.out.trans HX2.out).trans HX3.out) h4
      | false =>
        have H0 := hide h0
        have HZ := hide (show propL cs ds = now by rw [← HR.out, fixL_done h0 hst])
        clear h0 hst
        go_wp2_with (go_at_call 19; refine (hasEmpty_any _ now _ HS2.out).mono ?_; rintro e w' ⟨rfl, rfl⟩; rw [H0.out])
        go_ret
        rw [HZ.out]
        exact HOW2.out.from HX0.out
    | false =>
      have hne : stepL cs now ≠ now := fun h => by rw [(conB_iff HGN.out).2 h] at hcb; cases hcb
      clear hcb
      cases h0 : hasI now 0 with
      | true =>
        have H0 := hide h0
        have HZ := hide (show propL cs ds = zer n by rw [← HR.out, fixL_empty h0, HNL.out])
        clear h0 hne
        go_wp2_with (first | (go_at_call 19; refine (hasEmpty_any _ now _ HS2.out).mono ?_; rintro e w' ⟨rfl, rfl⟩; rw [H0.out]) | (at_make; go_must (refine wpList_make_gen _ rfl _ _ 23 rfl 3 (.int .i64 0) 1 8 Tryz.underlying23 Tryz.infoI .i64 .i64 n rfl rfl (by omega) (by omega) (fun _ => .int .i64 0) (fun i _ => by simp [Value.cells, Nat.mod_one]) ?_); intro w3 hrow3 hsz3 hx3; rw [Nat.mul_one] at hrow3; have HROW := hide hrow3; have HX3 := hide hx3; clear hrow3 hx3 hsz3))
        go_ret
        rw [HZ.out]
        exact zer_own HROW.out (HX0.out.trans HX2.out).size ((HX0.out.trans HX2.out).trans HX3.out) h4
      | false =>
        have H0 := hide h0
        have HZ := hide (show fixL (stepL cs) k (stepL cs now) = propL cs ds by rw [← HR.out, fixL_on h0 hne])
        have hst := stepOK cs n
        have HLT := hide (SubD.sum (hst.dom _ (hst.stay now HGN.out)) (hst.dom now HGN.out) (hst.sub now HGN.out) hne)
        clear h0 hne hst
        obtain ⟨W2, rfl⟩ : ∃ W2, W2 = w2 := ⟨w2, rfl⟩
        go_wp2_with (go_at_call 19; refine (hasEmpty_any _ now _ HS2.out).mono ?_; rintro e w' ⟨rfl, rfl⟩; rw [H0.out])
        go_loopw [5, 6] (fun d i wr => ∃ j : Nat, i = .int .i64 j ∧ j ≤ cs.length ∧ OwnRes (stepK cs now j) w0 (.returned d) wr) (fun _ i _ => cs.length - (intOf i).toNat)
        case atStart => exact ⟨0, rfl, Nat.zero_le _, HOW2.out⟩
        case round =>
          obtain ⟨j, rfl, hj, how⟩ := hrel
          obtain ⟨Gj, Sj⟩ := HGN.out.stepK j hj
          obtain ⟨A3, c3, rfl⟩ := how.form
          have hx := how.ext0
          have HXJ := hide hx
          have HSJ := hide (how.ints Gj.i64)
          have HOJ := hide how
          have HGJ := hide Gj
          have k1 := (hx.cells _ _ ks).trans K1.out
          have ksr := Nat.lt_of_lt_of_le ks hx.size
          rw [Gj.1] at HSJ HOJ ⊢
          clear how Gj Sj
          by_cases hlt : j < cs.length
          · have hjI : (j : Int) < cs.length := by omega
            obtain ⟨b, off, rfl, hbl, vv, va, vr, f1, f2, f3, f4, f5, s1, s2, s3⟩ := (hC0.out.ext hx).at_ hlt
            obtain ⟨Av, cv, rfl, -, -⟩ := s1.form
            obtain ⟨Aa, ca, rfl, -, -⟩ := s2.form
            obtain ⟨Ar, cr, rfl, -, -⟩ := s3.form
            have HC := hide (show SCon _ (.agg #[.int .i64 (con0 cs j).kk, .slice Av (con0 cs j).vars.length cv, .slice Aa (con0 cs j).args.length ca, .int .i64 (con0 cs j).bound, .slice Ar (con0 cs j).rows.length cr]) (con0 cs j) from ⟨_, _, _, rfl, s1, s2, s3⟩)
            have HV := hide (show vCon (con0 cs j) (stepK cs now j).length = true by rw [HGJ.out.1]; exact HG.out.2.2 j hlt)
            clear s1 s2 s3 hx
            go_wp2_with fail
            refine (supported_any _ _ (con0 cs j) (stepK cs now j) _ HC.out (by have := HSJ.out; exact this) HV.out HGJ.out.2.1).mono ?_
            rintro e w5 hres
            have HRES := hide (show OwnRes (stepK cs now (j + 1)) w0 e w5 from OwnRes.from hres HXJ.out)
            obtain ⟨A5, c5, b5, m5, f5, rfl, -⟩ := hres
            obtain ⟨L, hL⟩ : ∃ L, L = (filtL (con0 cs j) (stepK cs now j)).length := ⟨_, rfl⟩
            rw [← hL] at HRES ⊢
            clear hL
            go_wp2_with fail
            go_roundw
            case rel => exact ⟨j + 1, by go_num, by omega, HRES.out⟩
            case measure => simp [intOf]; omega
          · obtain rfl : j = cs.length := by omega
            have hjI : ¬ ((cs.length : Int) < cs.length) := by omega
            have HST := hide (show (stepL cs now).length = n from HGJ.out.1)
            go_wp2_with fail
            go_roundg k
            case measure => omega
            case rel => exact ⟨stepL cs now, HST.out, HOJ.out, HGJ.out, HZ.out, by have := HLT.out; omega⟩
end Go.Proofs.YtalgilgfoekioaaGreatDoor
