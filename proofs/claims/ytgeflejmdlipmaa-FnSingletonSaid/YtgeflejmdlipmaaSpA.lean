/- When a constraint is satisfied: the walks of the reference's helpers. -/
import Derived.Test.YtgeflejmdlipmaaSatI
namespace Go.Proofs.Ytgeflejmdlipmaa
open Go.RowKit

set_option maxHeartbeats 2000000 in
theorem distinctS_any (v : Value) (xs : List Int) (w : World) (hS : SInts w v xs) :
    Calls Try.prog 79 #[v] w (Ret (.bool (dst xs)) w) := by
  have hS0 := hide hS
  obtain ⟨A, c, rfl, hlc, hln⟩ := hS.form
  clear hS
  go_enter Try.func79, Try.ntmps79
  go_wp2
  go_loopw [3] (fun i wr => ∃ k : Nat, k ≤ xs.length ∧ i = .int .i64 k ∧ Ext w wr ∧ ∀ j, j < k → hasI (xs.take j) (at0 xs j) = false) (fun i _ => xs.length - (intOf i).toNat)
  case atStart => exact ⟨0, Nat.zero_le _, rfl, Ext.refl w, fun j hj => by omega⟩
  case round =>
    obtain ⟨k, hk, rfl, hx, hno⟩ := hrel
    have HNO := hide hno
    have HX := hide hx
    obtain ⟨W0, rfl⟩ : ∃ W0, W0 = wr := ⟨wr, rfl⟩
    clear hno hx
    by_cases hlt : k < xs.length
    · have hkI : (k : Int) < xs.length := by omega
      go_wp2
      go_loopw [4] (fun i wr => ∃ m : Nat, m ≤ k ∧ i = .int .i64 m ∧ Ext W0 wr ∧ ∀ j, j < m → (at0 xs k == at0 xs j) = false) (fun i _ => k - (intOf i).toNat)
      case atStart => exact ⟨0, Nat.zero_le _, rfl, Ext.refl _, fun j hj => by omega⟩
      case round =>
        obtain ⟨m, hm, rfl, hxm, hnm⟩ := hrel
        have HNM := hide hnm
        have HXM := hide hxm
        clear hnm hxm
        by_cases hmk : m < k
        · have hmI : (m : Int) < k := by omega
          have hml : m < xs.length := by omega
          have hmlI : (m : Int) < xs.length := by omega
          obtain ⟨b, off, rfl, hbl, f1⟩ := ((hS0.out.ext HX.out).ext HXM.out).at_ hlt
          have f2 := ((hS0.out.ext HX.out).ext HXM.out).cell_ hml
          cases he : (at0 xs k == at0 xs m) with
          | true =>
            have HD := hide (show dst xs = false by
              have hh : hasI (xs.take k) (at0 xs k) = true := by
                refine anyB_iff.2 ⟨m, by rw [List.length_take]; omega, ?_⟩
                have e1 : at0 (xs.take k) m = at0 xs m := by
                  unfold at0
                  rw [getD_lt _ _ (by rw [List.length_take]; omega), getD_lt _ _ (by omega), List.getElem_take]
                rw [e1]; exact he
              rw [dst, anyB_iff.2 ⟨k, hlt, hh⟩]; rfl)
            go_wp2
            refine wp_region_ext (by kernel_rfl) (by kernel_rfl) ?_
            iterate 9 (apply quiet_val; (focus rfl); (focus (intro w' hw'; have hk' := hw'.cells; go_simp; all_goals exact rfl)); simp only [Act.put, List.setIfInBounds_toArray, List.set_cons_succ, List.set_cons_zero])
            refine wpQuiet_nil ?_
            intro w2 hx2
            have HX2 := hide ((HX.out.trans HXM.out).trans hx2)
            clear hx2
            go_wp2
            go_ret
            exact Ret.mk (ret_b HD.out.symm) HX2.out
          | false =>
            have HE := hide he
            go_wp2
            refine wp_region_ext (by kernel_rfl) (by kernel_rfl) ?_
            iterate 9 (apply quiet_val; (focus rfl); (focus (intro w' hw'; have hk' := hw'.cells; go_simp; all_goals exact rfl)); simp only [Act.put, List.setIfInBounds_toArray, List.set_cons_succ, List.set_cons_zero])
            refine wpQuiet_nil ?_
            intro w2 hx2
            have HX2 := hide (HXM.out.trans hx2)
            clear hx2
            go_wp2
            go_roundw
            case rel => exact ⟨m + 1, by omega, by go_num, HX2.out, upto_succ HNM.out HE.out⟩
            case measure => simp [intOf]; omega
        · obtain rfl : m = k := by omega
          have hmI : ¬ ((m : Int) < m) := by omega
          have HH := hide (show hasI (xs.take m) (at0 xs m) = false by
            refine anyB_false.2 fun j hj => ?_
            rw [List.length_take] at hj
            have e1 : at0 (xs.take m) j = at0 xs j := by
              unfold at0
              rw [getD_lt _ _ (by rw [List.length_take]; omega), getD_lt _ _ (by omega), List.getElem_take]
            rw [e1]; exact HNM.out j (by omega))
          go_wp2
          go_roundw
          case rel => exact ⟨m + 1, by omega, by go_num, HX.out.trans HXM.out, upto_succ HNO.out HH.out⟩
          case measure => simp [intOf]; omega
    · obtain rfl : k = xs.length := by omega
      have hkI : ¬ ((xs.length : Int) < xs.length) := by omega
      have HD := hide (show dst xs = true by rw [dst, anyB_false.2 HNO.out]; rfl)
      go_wp2
      go_ret
      exact Ret.mk (ret_b HD.out.symm) HX.out
/-- The first k numbers are the same. -/
def sameK (r x : List Int) : Nat → Bool
  | 0 => true
  | k + 1 => sameK r x k && (at0 r k == at0 x k)
theorem sameK_iff (r x : List Int) : ∀ k, sameK r x k = true ↔ ∀ j, j < k → at0 r j = at0 x j
  | 0 => by simp [sameK]
  | k + 1 => by
    rw [sameK, Bool.and_eq_true, sameK_iff r x k, beq_iff_eq]
    constructor
    · rintro ⟨a, b⟩ j hj
      by_cases e : j = k
      · subst e; exact b
      · exact a j (by omega)
    · intro h
      exact ⟨fun j hj => h j (by omega), h k (by omega)⟩
theorem sameK_eq {r x : List Int} (hl : r.length = x.length) : sameK r x x.length = decide (r = x) := by
  rw [Bool.eq_iff_iff, sameK_iff, decide_eq_true_iff]
  constructor
  · intro h; exact at0_ext hl fun u hu => h u (by omega)
  · rintro rfl _ _; rfl
set_option maxHeartbeats 4000000 in
theorem hasRow_any (v vx : Value) (rs : List (List Int)) (x : List Int) (w : World) (hR : SRows w v rs) (hX : SInts w vx x) (hl : ∀ i, i < rs.length → (rw0 rs i).length = x.length) :
    Calls Try.prog 106 #[v, vx] w (Ret (.bool (anyB (fun i => decide (rw0 rs i = x)) rs.length)) w) := by
  have hR0 := hide hR
  have hX0 := hide hX
  have HL := hide hl
  obtain ⟨Ar, cr, rfl, -, hlr⟩ := hR.form
  obtain ⟨Ax, cx, rfl, -, hlx⟩ := hX.form
  clear hR hX hl
  go_enter Try.func106, Try.ntmps106
  go_wp2
  go_loopw [5] (fun i wr => ∃ k : Nat, k ≤ rs.length ∧ i = .int .i64 k ∧ Ext w wr ∧ ∀ j, j < k → decide (rw0 rs j = x) = false) (fun i _ => rs.length - (intOf i).toNat)
  case atStart => exact ⟨0, Nat.zero_le _, rfl, Ext.refl w, fun j hj => by omega⟩
  case round =>
    obtain ⟨k, hk, rfl, hx, hno⟩ := hrel
    have HNO := hide hno
    have HX := hide hx
    obtain ⟨W0, rfl⟩ : ∃ W0, W0 = wr := ⟨wr, rfl⟩
    clear hno hx
    by_cases hlt : k < rs.length
    · have hkI : (k : Int) < rs.length := by omega
      have HLK := hide (HL.out k hlt)
      go_wp2
      go_loopw [6, 7] (fun s i wr => ∃ m : Nat, m ≤ x.length ∧ i = .int .i64 m ∧ Ext W0 wr ∧ s = .bool (sameK (rw0 rs k) x m)) (fun _ i _ => x.length - (intOf i).toNat)
      case atStart => exact ⟨0, Nat.zero_le _, rfl, Ext.refl _, rfl⟩
      case round =>
        obtain ⟨m, hm, rfl, hxm, rfl⟩ := hrel
        have HXM := hide hxm
        clear hxm
        by_cases hml : m < x.length
        · have hmI : (m : Int) < x.length := by omega
          have hmr : m < (rw0 rs k).length := by have := HLK.out; omega
          have hmrI : (m : Int) < (rw0 rs k).length := by omega
          obtain ⟨b, off, A', c', rfl, hbl, f1, hrow⟩ := ((hR0.out.ext HX.out).ext HXM.out).at_ hlt
          obtain ⟨bx, ox, rfl, hbx, f2⟩ := ((hX0.out.ext HX.out).ext HXM.out).at_ hml
          obtain ⟨b3, o3, rfl, hb3, f3⟩ := hrow.at_ hmr
          clear hrow
          cases hs : sameK (rw0 rs k) x m with
          | true =>
            have HK := hide (show (at0 (rw0 rs k) m == at0 x m) = sameK (rw0 rs k) x (m + 1) by rw [sameK, hs, Bool.true_and])
            clear hs
            go_wp2
            refine wp_region_ext (by kernel_rfl) (by kernel_rfl) ?_
            iterate 2 (apply quiet_val; (focus rfl); (focus (intro w' hw'; have hk' := hw'.cells; go_simp; all_goals exact rfl)); simp only [Act.put, List.setIfInBounds_toArray, List.set_cons_succ, List.set_cons_zero])
            iterate 12 (go_big_quiet_want; apply quietK_val; (focus (intro w' hw'; have hk' := hw'.cells; go_simp; all_goals exact rfl)); simp only [Act.put, List.setIfInBounds_toArray, List.set_cons_succ, List.set_cons_zero]; go_big_quiet_on)
            iterate 2 (apply quiet_val; (focus rfl); (focus (intro w' hw'; have hk' := hw'.cells; go_simp; all_goals exact rfl)); simp only [Act.put, List.setIfInBounds_toArray, List.set_cons_succ, List.set_cons_zero])
            refine wpQuiet_nil ?_
            intro w2 hx2
            have HX2 := hide (HXM.out.trans hx2)
            clear hx2
            go_wp2
            go_roundw
            case rel => exact ⟨m + 1, by omega, by go_num, HX2.out, by rw [← HK.out]⟩
            case measure => simp [intOf]; omega
          | false =>
            have HK := hide (show false = sameK (rw0 rs k) x (m + 1) by rw [sameK, hs, Bool.false_and])
            clear hs
            go_wp2
            refine wp_region_ext (by kernel_rfl) (by kernel_rfl) ?_
            iterate 2 (apply quiet_val; (focus rfl); (focus (intro w' hw'; have hk' := hw'.cells; go_simp; all_goals exact rfl)); simp only [Act.put, List.setIfInBounds_toArray, List.set_cons_succ, List.set_cons_zero])
            iterate 12 go_big_quiet_skip
            iterate 2 (apply quiet_val; (focus rfl); (focus (intro w' hw'; have hk' := hw'.cells; go_simp; all_goals exact rfl)); simp only [Act.put, List.setIfInBounds_toArray, List.set_cons_succ, List.set_cons_zero])
            refine wpQuiet_nil ?_
            intro w2 hx2
            have HX2 := hide (HXM.out.trans hx2)
            clear hx2
            go_wp2
            go_roundw
            case rel => exact ⟨m + 1, by omega, by go_num, HX2.out, by rw [← HK.out]⟩
            case measure => simp [intOf]; omega
        · obtain rfl : m = x.length := by omega
          have hmI : ¬ ((x.length : Int) < x.length) := by omega
          have HS := hide (sameK_eq HLK.out)
          cases hd : decide (rw0 rs k = x) with
          | true =>
            have HD := hide (show anyB (fun i => decide (rw0 rs i = x)) rs.length = true from anyB_iff.2 ⟨k, hlt, hd⟩)
            rw [HS.out, hd]
            clear hd
            go_wp2
            go_ret
            exact Ret.mk (ret_b HD.out.symm) (HX.out.trans HXM.out)
          | false =>
            have HD := hide hd
            rw [HS.out, hd]
            clear hd
            go_wp2
            go_roundw
            case rel => exact ⟨k + 1, by omega, by go_num, HX.out.trans HXM.out, upto_succ HNO.out HD.out⟩
            case measure => simp [intOf]; omega
    · obtain rfl : k = rs.length := by omega
      have hkI : ¬ ((rs.length : Int) < rs.length) := by omega
      have HD := hide (show anyB (fun i => decide (rw0 rs i = x)) rs.length = false from anyB_false.2 HNO.out)
      go_wp2
      go_ret
      exact Ret.mk (ret_b HD.out.symm) HX.out
set_option maxHeartbeats 4000000 in
theorem withinCapacity_any (v vx : Value) (c : Con) (x : List Int) (w : World) (hC : SCon w v c) (hX : SInts w vx x) (ha : allR c.args 0 9 = true) (hb : inR c.bound 0 9 = true) (hx : ValL x) (hl : c.args.length = 2 * x.length) (h4 : x.length ≤ 100) :
    Calls Try.prog 107 #[v, vx] w (Ret (.bool (roomB c.args c.bound x)) w) := by
  obtain ⟨vv, va, vr, rfl, hV, hA, hR⟩ := hC
  have HAR := hide ha
  have HXV := hide hx
  have HL := hide hl
  obtain ⟨Av, cv, rfl, -, hlv⟩ := hV.form
  obtain ⟨Aa, ca, rfl, -, hla⟩ := hA.form
  obtain ⟨Ar, cr, rfl, -, hlr⟩ := hR.form
  obtain ⟨Ax, cx, rfl, -, hlx⟩ := hX.form
  obtain ⟨w0, hw0⟩ : ∃ w0, w0 = w.alloc (.cells #[.int .i64 c.kk, .slice Av c.vars.length cv, .slice Aa c.args.length ca, .int .i64 c.bound, .slice Ar c.rows.length cr] 54) := ⟨_, rfl⟩
  have hx0 : Ext w w0 := by rw [hw0]; exact (Ext.refl w).alloc _
  have k2 : w0.cell? ⟨w.heap.size, 2, none⟩ = some (.slice Aa c.args.length ca) := by rw [hw0]; go_simp
  have k3 : w0.cell? ⟨w.heap.size, 3, none⟩ = some (.int .i64 c.bound) := by rw [hw0]; go_simp
  have ks : w.heap.size < w0.heap.size := by rw [hw0]; simp
  have HX0 := hide hx0
  have hA0 := hide (hA.ext hx0)
  have hX0 := hide (hX.ext hx0)
  have K2 := hide k2
  have K3 := hide k3
  have hbb : 0 ≤ c.bound ∧ c.bound ≤ 9 := by simpa [inR] using hb
  clear hx0 hV hA hR hX ha hx hl hb k2 k3
  go_enter Try.func107, Try.ntmps107
  go_wp2
  rw [← hw0]
  clear hw0
  go_loopw [6] (fun i wr => ∃ t : Nat, t ≤ 15 ∧ i = .int .i64 t ∧ Ext w0 wr ∧ ∀ u, u < t → ¬ c.bound < loadT c.args x x.length (u : Nat) x.length) (fun i _ => 15 - (intOf i).toNat)
  case atStart => exact ⟨0, by omega, rfl, Ext.refl _, fun u hu => by omega⟩
  case round =>
    obtain ⟨t, ht, rfl, hxt, hno⟩ := hrel
    have HNO := hide hno
    have HXT := hide hxt
    obtain ⟨W0, rfl⟩ : ∃ W0, W0 = wr := ⟨wr, rfl⟩
    clear hno hxt
    by_cases htl : t < 15
    · have htI : (t : Int) < 15 := by omega
      have htI2 : (t : Int) ≤ 14 := by omega
      go_wp2
      go_loopw [7, 8] (fun s i wr => ∃ k : Nat, k ≤ x.length ∧ i = .int .i64 k ∧ s = .int .i64 (loadT c.args x x.length t k) ∧ Ext w0 wr) (fun _ i _ => x.length - (intOf i).toNat)
      case atStart => exact ⟨0, by omega, rfl, rfl, HXT.out⟩
      case round =>
        obtain ⟨k, hk, rfl, rfl, hxk⟩ := hrel
        have HXK := hide hxk
        have g2 := (hxk.cells _ _ ks).trans K2.out
        have g3 := (hxk.cells _ _ ks).trans K3.out
        have ksr := Nat.lt_of_lt_of_le ks hxk.size
        clear hxk
        by_cases hlt : k < x.length
        · have hkI : (k : Int) < x.length := by omega
          have hka : k < c.args.length := by have := HL.out; omega
          have hka2 : x.length + k < c.args.length := by have := HL.out; omega
          have hkaI : (k : Int) < c.args.length := by omega
          have hka2I : (x.length : Int) + (k : Int) < c.args.length := by omega
          obtain ⟨bx, ox, rfl, hbx, f2⟩ := (hX0.out.ext HXK.out).at_ hlt
          obtain ⟨b, off, rfl, hbl, f1⟩ := (hA0.out.ext HXK.out).at_ hka
          have f3 := (hA0.out.ext HXK.out).cell_ hka2
          have hld := loadT_bd (x := x) (t := t) HAR.out HL.out k hk
          have h1 := allR_at HAR.out hka
          have h2 := allR_at HAR.out hka2
          have h3 := HXV.out k hlt
          have kw : IntKind.i64.wrap (at0 x k + at0 c.args k) = at0 x k + at0 c.args k := IntWalk.i64_in _ (by omega)
          by_cases hr3 : at0 x k ≤ t
          · by_cases hr4 : (t : Int) < at0 x k + at0 c.args k
            · have hr : runsB c.args x t k = true := by simp [runsB, hr3, hr4]
              have HK := hide (show loadT c.args x x.length t k + at0 c.args (x.length + k) = loadT c.args x x.length t (k + 1) by rw [loadT, if_pos hr])
              clear hr
              have d3 : decide (at0 x k ≤ (t : Int)) = true := decide_eq_true hr3
              have d4 : decide ((t : Int) < at0 x k + at0 c.args k) = true := decide_eq_true hr4
              go_wp2
              refine wp_region_ext (by kernel_rfl) (by kernel_rfl) ?_
              iterate 7 (apply quiet_val; (focus rfl); (focus (intro w' hw'; have hk' := hw'.cells; go_simp; all_goals exact rfl)); simp only [Act.put, List.setIfInBounds_toArray, List.set_cons_succ, List.set_cons_zero])
              iterate 12 (go_big_quiet_want; apply quietK_val; (focus (intro w' hw'; have hk' := hw'.cells; go_simp; all_goals exact rfl)); simp only [Act.put, List.setIfInBounds_toArray, List.set_cons_succ, List.set_cons_zero]; go_big_quiet_on)
              (apply quiet_val; (focus rfl); (focus (intro w' hw'; have hk' := hw'.cells; go_simp; all_goals exact rfl)); simp only [Act.put, List.setIfInBounds_toArray, List.set_cons_succ, List.set_cons_zero])
              refine wpQuiet_nil ?_
              intro w2 hx2
              have HX2 := hide (HXK.out.trans hx2)
              have g2 := (hx2.cells _ _ ksr).trans g2
              have f3 := (hA0.out.ext HX2.out).cell_ hka2
              have hbl := Nat.lt_of_lt_of_le hbl hx2.size
              clear hx2
              go_wp2
              go_roundw
              case rel => exact ⟨k + 1, by omega, by go_num, by rw [← HK.out], HX2.out⟩
              case measure => simp [intOf]; omega
            · have hr : ¬ runsB c.args x t k = true := by intro h; simp [runsB] at h; omega
              have HK := hide (show loadT c.args x x.length t k = loadT c.args x x.length t (k + 1) by rw [loadT, if_neg hr])
              clear hr
              have d3 : decide (at0 x k ≤ (t : Int)) = true := decide_eq_true hr3
              have d4 : decide ((t : Int) < at0 x k + at0 c.args k) = false := decide_eq_false hr4
              go_wp2
              refine wp_region_ext (by kernel_rfl) (by kernel_rfl) ?_
              iterate 7 (apply quiet_val; (focus rfl); (focus (intro w' hw'; have hk' := hw'.cells; go_simp; all_goals exact rfl)); simp only [Act.put, List.setIfInBounds_toArray, List.set_cons_succ, List.set_cons_zero])
              iterate 12 (go_big_quiet_want; apply quietK_val; (focus (intro w' hw'; have hk' := hw'.cells; go_simp; all_goals exact rfl)); simp only [Act.put, List.setIfInBounds_toArray, List.set_cons_succ, List.set_cons_zero]; go_big_quiet_on)
              (apply quiet_val; (focus rfl); (focus (intro w' hw'; have hk' := hw'.cells; go_simp; all_goals exact rfl)); simp only [Act.put, List.setIfInBounds_toArray, List.set_cons_succ, List.set_cons_zero])
              refine wpQuiet_nil ?_
              intro w2 hx2
              have HX2 := hide (HXK.out.trans hx2)
              clear hx2
              go_wp2
              go_roundw
              case rel => exact ⟨k + 1, by omega, by go_num, by rw [← HK.out], HX2.out⟩
              case measure => simp [intOf]; omega
          · have hr : ¬ runsB c.args x t k = true := by intro h; simp [runsB] at h; omega
            have HK := hide (show loadT c.args x x.length t k = loadT c.args x x.length t (k + 1) by rw [loadT, if_neg hr])
            clear hr
            have d3 : decide (at0 x k ≤ (t : Int)) = false := decide_eq_false hr3
            go_wp2
            refine wp_region_ext (by kernel_rfl) (by kernel_rfl) ?_
            iterate 7 (apply quiet_val; (focus rfl); (focus (intro w' hw'; have hk' := hw'.cells; go_simp; all_goals exact rfl)); simp only [Act.put, List.setIfInBounds_toArray, List.set_cons_succ, List.set_cons_zero])
            iterate 12 go_big_quiet_skip
            (apply quiet_val; (focus rfl); (focus (intro w' hw'; have hk' := hw'.cells; go_simp; all_goals exact rfl)); simp only [Act.put, List.setIfInBounds_toArray, List.set_cons_succ, List.set_cons_zero])
            refine wpQuiet_nil ?_
            intro w2 hx2
            have HX2 := hide (HXK.out.trans hx2)
            clear hx2
            go_wp2
            go_roundw
            case rel => exact ⟨k + 1, by omega, by go_num, by rw [← HK.out], HX2.out⟩
            case measure => simp [intOf]; omega
        · obtain rfl : k = x.length := by omega
          have hkI : ¬ ((x.length : Int) < x.length) := by omega
          have hld := loadT_bd (x := x) (t := t) HAR.out HL.out x.length (Nat.le_refl _)
          by_cases hbl : c.bound < loadT c.args x x.length t x.length
          · have HR := hide (roomB_no htl hbl)
            go_wp2
            go_ret
            exact Ret.mk (ret_b HR.out.symm) (HX0.out.trans HXK.out)
          · have HB := hide hbl
            go_wp2
            go_roundw
            case rel => exact ⟨t + 1, by omega, by go_num, HXK.out, fun u hu => by
              by_cases e : u = t
              · subst e; exact HB.out
              · have := HNO.out u (by omega); omega⟩
            case measure => simp [intOf]; omega
    · obtain rfl : t = 15 := by omega
      have HR := hide (roomB_yes HNO.out)
      go_wp2
      go_ret
      exact Ret.mk (ret_b HR.out.symm) (HX0.out.trans HXT.out)
end Go.Proofs.Ytgeflejmdlipmaa
/- When a constraint is satisfied: the reference's walks of an automaton and of a circuit. -/
namespace Go.Proofs.Ytgeflejmdlipmaa
open Go.RowKit

set_option maxHeartbeats 4000000 in
theorem acceptsS_any (v vx : Value) (c : Con) (x : List Int) (w : World) (hC : SCon w v c) (hX : SInts w vx x) (hr : vRows c.rows 6 (-1) (c.rows.length - 1) = true) (hx : ValL x) (h4 : x.length ≤ 100) :
    Calls Try.prog 108 #[v, vx] w (Ret (.bool (acceptB c.rows c.args x)) w) := by
  obtain ⟨vv, va, vr, rfl, hV, hA, hR⟩ := hC
  have HVR := hide hr
  have HXV := hide hx
  obtain ⟨Av, cv, rfl, -, hlv⟩ := hV.form
  obtain ⟨Aa, ca, rfl, -, hla⟩ := hA.form
  obtain ⟨Ar, cr, rfl, -, hlr⟩ := hR.form
  obtain ⟨Ax, cx, rfl, -, hlx⟩ := hX.form
  have hrl := vRows_len hr
  obtain ⟨w0, hw0⟩ : ∃ w0, w0 = w.alloc (.cells #[.int .i64 c.kk, .slice Av c.vars.length cv, .slice Aa c.args.length ca, .int .i64 c.bound, .slice Ar c.rows.length cr] 54) := ⟨_, rfl⟩
  have hx0 : Ext w w0 := by rw [hw0]; exact (Ext.refl w).alloc _
  have k2 : w0.cell? ⟨w.heap.size, 2, none⟩ = some (.slice Aa c.args.length ca) := by rw [hw0]; go_simp
  have k4 : w0.cell? ⟨w.heap.size, 4, none⟩ = some (.slice Ar c.rows.length cr) := by rw [hw0]; go_simp
  have ks : w.heap.size < w0.heap.size := by rw [hw0]; simp
  have HX0 := hide hx0
  have hA0 := hide (hA.ext hx0)
  have hR0 := hide (hR.ext hx0)
  have hX0 := hide (hX.ext hx0)
  have K2 := hide k2
  have K4 := hide k4
  clear hx0 hV hA hR hX hr hx k2 k4
  go_enter Try.func108, Try.ntmps108
  go_wp2
  rw [← hw0]
  clear hw0
  go_loopw [5, 6] (fun s i wr => ∃ k : Nat, k ≤ x.length ∧ i = .int .i64 k ∧ s = .int .i64 (runA c.rows x k) ∧ Ext w0 wr ∧ 0 ≤ runA c.rows x k ∧ runA c.rows x k < c.rows.length) (fun _ i _ => x.length - (intOf i).toNat)
  case atStart => exact ⟨0, by omega, rfl, rfl, Ext.refl _, by simp [runA], by simp [runA]; omega⟩
  case round =>
    obtain ⟨k, hk, rfl, rfl, hxk, hs0, hs1⟩ := hrel
    have HXK := hide hxk
    have g2 := (hxk.cells _ _ ks).trans K2.out
    have g4 := (hxk.cells _ _ ks).trans K4.out
    have ksr := Nat.lt_of_lt_of_le ks hxk.size
    clear hxk
    by_cases hlt : k < x.length
    · have hkI : (k : Int) < x.length := by omega
      obtain ⟨s, hs⟩ : ∃ s : Nat, runA c.rows x k = s := ⟨(runA c.rows x k).toNat, by omega⟩
      rw [hs] at hs0 hs1
      have hsl : s < c.rows.length := by omega
      obtain ⟨bx, ox, rfl, hbx, f1⟩ := (hX0.out.ext HXK.out).at_ hlt
      have h3 := HXV.out k hlt
      obtain ⟨u, hu⟩ : ∃ u : Nat, at0 x k = u := ⟨(at0 x k).toNat, by omega⟩
      rw [hu] at f1 h3
      obtain ⟨br, orr, A', c', rfl, hbl, f2, hrow⟩ := (hR0.out.ext HXK.out).at_ hsl
      obtain ⟨q1, q2⟩ := vRows_at HVR.out hsl
      have hul : u < (rw0 c.rows s).length := by omega
      have hulI : (u : Int) < (rw0 c.rows s).length := by omega
      obtain ⟨b3, o3, rfl, hb3, f3⟩ := hrow.at_ hul
      have h5 := allR_at q2 hul
      have HK := hide (show runA c.rows x (k + 1) = at0 (rw0 c.rows s) u by rw [runA, hs, hu, if_neg (by omega)]; rfl)
      have HS := hide hs
      have HI := hide (hrow.i64 hul)
      have hq1 := hide q1
      rw [hs]
      clear hs hu hrow q2 q1
      by_cases hneg : at0 (rw0 c.rows s) u < 0
      · have HN := hide (acceptB_no (f := c.args) (show k + 1 ≤ x.length by omega) (by rw [HK.out]; exact hneg))
        go_wp2
        refine wp_region_ext (by kernel_rfl) (by kernel_rfl) ?_
        iterate 12 (apply quiet_val; (focus rfl); (focus (intro w' hw'; have hk' := hw'.cells; go_simp; all_goals exact rfl)); simp only [Act.put, List.setIfInBounds_toArray, List.set_cons_succ, List.set_cons_zero])
        refine wpQuiet_nil ?_
        intro w2 hx2
        have HX2 := hide ((HX0.out.trans HXK.out).trans hx2)
        clear hx2
        go_wp2
        go_ret
        exact Ret.mk (ret_b HN.out.symm) HX2.out
      · have HN := hide hneg
        go_wp2
        refine wp_region_ext (by kernel_rfl) (by kernel_rfl) ?_
        iterate 12 (apply quiet_val; (focus rfl); (focus (intro w' hw'; have hk' := hw'.cells; go_simp; all_goals exact rfl)); simp only [Act.put, List.setIfInBounds_toArray, List.set_cons_succ, List.set_cons_zero])
        refine wpQuiet_nil ?_
        intro w2 hx2
        have HX2 := hide (HXK.out.trans hx2)
        clear hx2
        go_wp2
        go_roundw
        case rel => exact ⟨k + 1, by omega, by go_num, by rw [HK.out], HX2.out, by rw [HK.out]; omega, by rw [HK.out]; omega⟩
        case measure => simp [intOf]; omega
    · obtain rfl : k = x.length := by omega
      have hkI : ¬ ((x.length : Int) < x.length) := by omega
      have HQ := hide (show acceptB c.rows c.args x = hasI c.args (runA c.rows x x.length) by unfold acceptB; rw [decide_eq_true hs0, Bool.true_and])
      obtain ⟨s, hs⟩ : ∃ s, s = runA c.rows x x.length := ⟨_, rfl⟩
      rw [← hs] at HQ ⊢
      obtain ⟨W1, rfl⟩ : ∃ W1, W1 = wr := ⟨wr, rfl⟩
      clear hs0 hs1 hs
      go_wp2
      go_loopw [7] (fun i wr => ∃ m : Nat, m ≤ c.args.length ∧ i = .int .i64 m ∧ wr = W1 ∧ ∀ j, j < m → (s == at0 c.args j) = false) (fun i _ => c.args.length - (intOf i).toNat)
      case atStart => exact ⟨0, by omega, rfl, by first | rfl | trivial, fun j hj => by omega⟩
      case round =>
        obtain ⟨m, hm, rfl, rfl, hno⟩ := hrel
        have HNO := hide hno
        clear hno
        by_cases hml : m < c.args.length
        · have hmI : (m : Int) < c.args.length := by omega
          obtain ⟨b, off, rfl, hbl, f1⟩ := (hA0.out.ext HXK.out).at_ hml
          cases he : (s == at0 c.args m) with
          | true =>
            have HD := hide (show hasI c.args s = true from anyB_iff.2 ⟨m, hml, he⟩)
            have he2 : (at0 c.args m == s) = true := by rw [beq_iff_eq] at he ⊢; exact he.symm
            clear he
            go_wp2
            go_ret
            exact Ret.mk (ret_b (by rw [HQ.out, HD.out])) (HX0.out.trans HXK.out)
          | false =>
            have HE := hide he
            have he2 : (at0 c.args m == s) = false := by rw [beq_eq_false_iff_ne] at he ⊢; exact fun h => he h.symm
            clear he
            go_wp2
            go_roundw
            case rel => exact ⟨m + 1, by omega, by go_num, by first | rfl | trivial, upto_succ HNO.out HE.out⟩
            case measure => simp [intOf]; omega
        · obtain rfl : m = c.args.length := by omega
          have hmI : ¬ ((c.args.length : Int) < c.args.length) := by omega
          have HD := hide (show hasI c.args s = false from anyB_false.2 HNO.out)
          go_wp2
          go_ret
          exact Ret.mk (ret_b (by rw [HQ.out, HD.out])) (HX0.out.trans HXK.out)
/-- A way that comes back at last only leads through all places. -/
def cycT (x : List Int) : Bool :=
  !((posC x x.length == 0) && (!anyB (fun k => decide (0 < k) && posC x k == 0) x.length && !anyB (fun k => decide ((x.length : Int) ≤ posC x k)) x.length)) || allR x 0 (x.length - 1)
theorem cycT_all : (List.range 5).all (fun n => (tups (List.replicate n 63)).all cycT) = true := by decide +kernel
theorem cycT_any {x : List Int} (hx : ValL x) (h4 : x.length ≤ 4) : cycT x = true := by
  have h := List.all_eq_true.1 cycT_all x.length (List.mem_range.2 (by omega))
  refine List.all_eq_true.1 h x ((tups_in _ x).2 ⟨by simp, fun i hi => ?_⟩)
  rw [List.length_replicate] at hi
  obtain ⟨v, hv, e⟩ := hx.at_ hi
  refine ⟨v, hv, e, ?_⟩
  have : at0 (List.replicate x.length (63 : Int)) i = 63 := by
    unfold at0; rw [getD_lt _ _ (by simpa using hi)]; simp
  rw [this]
  have : (List.range 6).all (fun v => hasB 63 v) = true := by decide
  exact List.all_eq_true.1 this v (List.mem_range.2 hv)
theorem cycB_ret {x : List Int} (hx : ValL x) (h4 : x.length ≤ 4) {s : Nat} (h0 : 0 < s) (hs : s ≤ x.length) (hz : posC x s = 0) (hn : ∀ k, 0 < k → k < s → posC x k ≠ 0) (hb : ∀ k, k < s → posC x k < x.length) : cycB x = decide (s = x.length) := by
  by_cases e : s = x.length
  · have hc := cycT_any hx h4
    have : allR x 0 (x.length - 1) = true := by
      unfold cycT at hc
      subst e
      rw [hz, anyB_false.2 (fun k hk => by
        by_cases h0 : 0 < k
        · have := hn k h0 hk; simp [this]
        · simp [h0]), anyB_false.2 (fun k hk => by have := hb k hk; simp; omega)] at hc
      simpa using hc
    exact cycB_at this h0 hs hz hn
  · rw [decide_eq_false e]
    unfold cycB
    rw [anyB_iff.2 ⟨s, by omega, by simp [h0, hz]⟩]
    simp
theorem allR_of_out {x : List Int} {u : Nat} (hu : u < x.length) (h : (x.length : Int) ≤ at0 x u) : allR x 0 (x.length - 1) = false := by
  refine allR_no hu ?_
  have : ¬ at0 x u ≤ x.length - 1 := by omega
  simp [inR, this]
set_option maxHeartbeats 4000000 in
theorem isCircuit_any (vx : Value) (x : List Int) (w : World) (hX : SInts w vx x) (hx : ValL x) (h4 : x.length ≤ 4) (h1 : 1 ≤ x.length) :
    Calls Try.prog 109 #[vx] w (Ret (.bool (cycB x)) w) := by
  have hX0 := hide hX
  have HXV := hide hx
  obtain ⟨Ax, cx, rfl, -, hlx⟩ := hX.form
  clear hX hx
  have HB0 := hide (show ∀ j, j ≤ 0 → posC x j < x.length from fun j hj => by
    obtain rfl : j = 0 := by omega
    simp [posC]; omega)
  go_enter Try.func109, Try.ntmps109
  go_wp2
  go_loop [3, 4] (fun s i => ∃ k u : Nat, k ≤ x.length ∧ i = .int .i64 ((k : Int) + 1) ∧ s = .int .i64 u ∧ posC x k = u ∧ u < x.length ∧ (∀ j, 0 < j → j ≤ k → posC x j ≠ 0) ∧ ∀ j, j ≤ k → posC x j < x.length) (fun _ i => x.length + 1 - (intOf i).toNat)
  case atStart => exact ⟨0, 0, by omega, rfl, rfl, rfl, by omega, fun j h0 hj => by omega, HB0.out⟩
  case round =>
    obtain ⟨k, u, hk, rfl, rfl, hu, hul, hno, hbd⟩ := hrel
    have HNO := hide hno
    have HBD := hide hbd
    have HU := hide hu
    clear hno hu hbd
    by_cases hlt : k < x.length
    · have hkI : (k : Int) + 1 ≤ x.length := by omega
      have hulI : (u : Int) < x.length := by omega
      obtain ⟨bx, ox, rfl, hbx, f1⟩ := hX0.out.at_ hul
      have h3 := HXV.out u hul
      obtain ⟨t, ht⟩ : ∃ t : Nat, at0 x u = t := ⟨(at0 x u).toNat, by omega⟩
      rw [ht] at f1 h3
      have HP := hide (show posC x (k + 1) = t by rw [posC, HU.out, Int.toNat_natCast, ht])
      have HT := hide ht
      clear ht
      by_cases hout : (x.length : Int) ≤ t
      · have HC := hide (cycB_big (allR_of_out hul (by rw [HT.out]; exact hout)))
        go_wp2
        go_ret
        exact Ret.mk (ret_b HC.out.symm) (Ext.refl _)
      · have htl : ¬ (x.length : Int) ≤ t := hout
        cases hz : ((t : Int) == 0) with
        | true =>
          have HC := hide (cycB_ret HXV.out h4 (s := k + 1) (by omega) (by omega) (by rw [HP.out]; rw [beq_iff_eq] at hz; exact hz) (fun j h0 hj => HNO.out j h0 (by omega)) (fun j hj => HBD.out j (by omega)))
          cases hd : ((k : Int) + 1 == (x.length : Int)) with
          | true =>
            have HE := hide (show decide (k + 1 = x.length) = true by rw [beq_iff_eq] at hd; simp; omega)
            go_wp2
            go_ret
            exact Ret.mk (ret_b (HC.out.trans HE.out).symm) (Ext.refl _)
          | false =>
            have HE := hide (show decide (k + 1 = x.length) = false by rw [beq_eq_false_iff_ne] at hd; simp; omega)
            go_wp2
            go_ret
            exact Ret.mk (ret_b (HC.out.trans HE.out).symm) (Ext.refl _)
        | false =>
          have HZ := hide hz
          go_wp2
          go_round
          case rel => exact ⟨k + 1, t, by omega, by go_num, rfl, HP.out, by omega, fun j h0 hj => by
            by_cases e : j = k + 1
            · subst e; rw [HP.out]; have := HZ.out; rw [beq_eq_false_iff_ne] at this; exact this
            · exact HNO.out j h0 (by omega), fun j hj => by
            by_cases e : j = k + 1
            · subst e; rw [HP.out]; omega
            · exact HBD.out j (by omega)⟩
          case measure => simp [intOf]; omega
    · obtain rfl : k = x.length := by omega
      have hkI : ¬ ((x.length : Int) + 1 ≤ x.length) := by omega
      have HC := hide (cycB_none HNO.out h1)
      go_wp2
      go_ret
      exact Ret.mk (ret_b HC.out.symm) (Ext.refl _)
end Go.Proofs.Ytgeflejmdlipmaa
/- When a constraint is satisfied: satisfies of the reference, kind by kind. -/
namespace Go.Proofs.Ytgeflejmdlipmaa
open Go.RowKit

set_option maxRecDepth 100000 in
set_option maxHeartbeats 4000000 in
theorem sps_1 (vv va vr vx : Value) (vars args : List Int) (b : Int) (rows : List (List Int)) (x : List Int) (w : World) (hV : SInts w vv vars) (hA : SInts w va args) (hR : SRows w vr rows) (hX : SInts w vx x) (hx : ValL x) (hl : x.length = vars.length) (h4 : x.length ≤ 4) (h1 : 1 ≤ x.length) (ha : allR args (-9) 9 = true) (hal : args.length = vars.length):
    Calls Try.prog 105 #[.agg #[.int .i64 1, vv, va, .int .i64 b, vr], vx] w (Ret (.bool (satB ⟨1, vars, args, b, rows⟩ x)) w) := by
  have HXV := hide hx
  have HL := hide hl
  obtain ⟨Av, cv, rfl, -, hlv⟩ := hV.form
  obtain ⟨Aa, ca, rfl, -, hla⟩ := hA.form
  obtain ⟨Ar, cr, rfl, -, hlr⟩ := hR.form
  obtain ⟨Ax, cx, rfl, -, hlx⟩ := hX.form
  obtain ⟨w0, hw0⟩ : ∃ w0, w0 = w.alloc (.cells #[.int .i64 1, .slice Av vars.length cv, .slice Aa args.length ca, .int .i64 b, .slice Ar rows.length cr] 54) := ⟨_, rfl⟩
  have hx0 : Ext w w0 := by rw [hw0]; exact (Ext.refl w).alloc _
  have k0 : w0.cell? ⟨w.heap.size, 0, none⟩ = some (.int .i64 1) := by rw [hw0]; go_simp
  have k1 : w0.cell? ⟨w.heap.size, 1, none⟩ = some (.slice Av vars.length cv) := by rw [hw0]; go_simp
  have k2 : w0.cell? ⟨w.heap.size, 2, none⟩ = some (.slice Aa args.length ca) := by rw [hw0]; go_simp
  have k3 : w0.cell? ⟨w.heap.size, 3, none⟩ = some (.int .i64 b) := by rw [hw0]; go_simp
  have k4 : w0.cell? ⟨w.heap.size, 4, none⟩ = some (.slice Ar rows.length cr) := by rw [hw0]; go_simp
  have ks : w.heap.size < w0.heap.size := by rw [hw0]; simp
  have HX0 := hide hx0
  have hV0 := hide (hV.ext hx0)
  have hA0 := hide (hA.ext hx0)
  have hR0 := hide (hR.ext hx0)
  have hX0 := hide (hX.ext hx0)
  have K0 := hide k0
  have K1 := hide k1
  have K2 := hide k2
  have K3 := hide k3
  have K4 := hide k4
  clear hx0 hV hA hR hX hx hl k0 k1 k2 k3 k4
  have _u4 := h4
  have _u1 := h1
  clear _u4 _u1
  have HA := hide ha
  have hal2 : args.length = x.length := hal.trans HL.out.symm
  have HAL := hide hal2
  have HS := hide (show satB ⟨1, vars, args, b, rows⟩ x = decide (wsum args x x.length ≤ b) from rfl)
  clear ha hal hal2
  go_enter Try.func105, Try.ntmps105
  go_wp2
  rw [← hw0]
  clear hw0
  go_loopw [5, 6] (fun s i wr => ∃ k : Nat, k ≤ x.length ∧ i = .int .i64 k ∧ s = .int .i64 (wsum args x k) ∧ Ext w0 wr) (fun _ i _ => x.length - (intOf i).toNat)
  case atStart => exact ⟨0, Nat.zero_le _, rfl, rfl, Ext.refl _⟩
  case round =>
    obtain ⟨k, hk, rfl, rfl, hxk⟩ := hrel
    have HXK := hide hxk
    have g2 := (hxk.cells _ _ ks).trans K2.out
    have g3 := (hxk.cells _ _ ks).trans K3.out
    have ksr := Nat.lt_of_lt_of_le ks hxk.size
    clear hxk
    by_cases hlt : k < x.length
    · have hkI : (k : Int) < x.length := by omega
      have hka : k < args.length := by rw [HAL.out]; exact hlt
      have hkaI : (k : Int) < args.length := by omega
      obtain ⟨bx, ox, rfl, hbx, f2⟩ := (hX0.out.ext HXK.out).at_ hlt
      obtain ⟨ba, oa, rfl, hba, f1⟩ := (hA0.out.ext HXK.out).at_ hka
      have h1' := wsum_bd HA.out HXV.out HAL.out k (by omega)
      have h2 := allR_at HA.out hka
      have h3 := HXV.out k hlt
      have h5 := mul_bd (A := 9) (X := 5) h2.1 h2.2 h3.1 h3.2 (by omega)
      obtain ⟨p, hp⟩ : ∃ p, p = at0 args k * at0 x k := ⟨_, rfl⟩
      have HK := hide (show wsum args x k + p = wsum args x (k + 1) by rw [hp]; rfl)
      rw [← hp] at h5
      have kp : IntKind.i64.wrap (at0 args k * at0 x k) = p := by rw [← hp]; exact IntWalk.i64_in _ (by omega)
      have kq : IntKind.i64.wrap (wsum args x k + p) = wsum args x k + p := IntWalk.i64_in _ (by omega)
      clear hp
      go_wp2
      refine wp_region_ext (by kernel_rfl) (by kernel_rfl) ?_
      iterate 13 (apply quiet_val; (focus rfl); (focus (intro w' hw'; have hk' := hw'.cells; go_simp; all_goals exact rfl)); simp only [Act.put, List.setIfInBounds_toArray, List.set_cons_succ, List.set_cons_zero])
      refine wpQuiet_nil ?_
      intro w2 hx2
      have HX2 := hide (HXK.out.trans hx2)
      clear hx2
      go_wp2
      go_roundw
      case rel => exact ⟨k + 1, by omega, by go_num, by rw [← HK.out], HX2.out⟩
      case measure => simp [intOf]; omega
    · obtain rfl : k = x.length := by omega
      have hkI : ¬ ((x.length : Int) < x.length) := by omega
      go_wp2
      go_ret
      exact Ret.mk (ret_b HS.out.symm) (HX0.out.trans HXK.out)
set_option maxRecDepth 100000 in
set_option maxHeartbeats 4000000 in
theorem sps_2 (vv va vr vx : Value) (vars args : List Int) (b : Int) (rows : List (List Int)) (x : List Int) (w : World) (hV : SInts w vv vars) (hA : SInts w va args) (hR : SRows w vr rows) (hX : SInts w vx x) (hx : ValL x) (hl : x.length = vars.length) (h4 : x.length ≤ 4) (h1 : 1 ≤ x.length) (ha : allR args (-9) 9 = true) (hal : args.length = 1) (hv2 : vars.length = 2):
    Calls Try.prog 105 #[.agg #[.int .i64 2, vv, va, .int .i64 b, vr], vx] w (Ret (.bool (satB ⟨2, vars, args, b, rows⟩ x)) w) := by
  have HXV := hide hx
  have HL := hide hl
  obtain ⟨Av, cv, rfl, -, hlv⟩ := hV.form
  obtain ⟨Aa, ca, rfl, -, hla⟩ := hA.form
  obtain ⟨Ar, cr, rfl, -, hlr⟩ := hR.form
  obtain ⟨Ax, cx, rfl, -, hlx⟩ := hX.form
  obtain ⟨w0, hw0⟩ : ∃ w0, w0 = w.alloc (.cells #[.int .i64 2, .slice Av vars.length cv, .slice Aa args.length ca, .int .i64 b, .slice Ar rows.length cr] 54) := ⟨_, rfl⟩
  have hx0 : Ext w w0 := by rw [hw0]; exact (Ext.refl w).alloc _
  have k0 : w0.cell? ⟨w.heap.size, 0, none⟩ = some (.int .i64 2) := by rw [hw0]; go_simp
  have k1 : w0.cell? ⟨w.heap.size, 1, none⟩ = some (.slice Av vars.length cv) := by rw [hw0]; go_simp
  have k2 : w0.cell? ⟨w.heap.size, 2, none⟩ = some (.slice Aa args.length ca) := by rw [hw0]; go_simp
  have k3 : w0.cell? ⟨w.heap.size, 3, none⟩ = some (.int .i64 b) := by rw [hw0]; go_simp
  have k4 : w0.cell? ⟨w.heap.size, 4, none⟩ = some (.slice Ar rows.length cr) := by rw [hw0]; go_simp
  have ks : w.heap.size < w0.heap.size := by rw [hw0]; simp
  have HX0 := hide hx0
  have hV0 := hide (hV.ext hx0)
  have hA0 := hide (hA.ext hx0)
  have hR0 := hide (hR.ext hx0)
  have hX0 := hide (hX.ext hx0)
  have K0 := hide k0
  have K1 := hide k1
  have K2 := hide k2
  have K3 := hide k3
  have K4 := hide k4
  clear hx0 hV hA hR hX hx hl k0 k1 k2 k3 k4
  have _u4 := h4
  have _u1 := h1
  clear _u4 _u1
  have HS := hide (show satB ⟨2, vars, args, b, rows⟩ x = (at0 x 0 != at0 x 1 + at0 args 0) from rfl)
  have hx2l : x.length = 2 := HL.out.trans hv2
  have g0 := HXV.out 0 (by omega)
  have g1 := HXV.out 1 (by omega)
  have g2 := allR_at ha (k := 0) (by omega)
  have c2 := K2.out
  obtain ⟨bx, ox, rfl, hbx, f0⟩ := hX0.out.at_ (k := 0) (by omega)
  have f1 := hX0.out.cell_ (k := 1) (by omega)
  obtain ⟨ba, oa, rfl, hba, f2⟩ := hA0.out.at_ (k := 0) (by omega)
  have i0 : 0 < x.length := by omega
  have i1 : (1 : Int) < x.length := by omega
  have i2 : 0 < args.length := by omega
  simp only [Nat.add_zero] at f0 f2
  have kw : IntKind.i64.wrap (at0 x 1 + at0 args 0) = at0 x 1 + at0 args 0 := IntWalk.i64_in _ (by omega)
  have HH := hide hx2l
  have HHA := hide hal
  clear hx2l hv2 hal ha
  go_enter Try.func105, Try.ntmps105
  go_wp2
  rw [← hw0]
  clear hw0
  refine wp_region_ext (by kernel_rfl) (by kernel_rfl) ?_
  iterate 13 (apply quiet_val; (focus rfl); (focus (intro w' hw'; have hk' := hw'.cells; go_simp; all_goals exact rfl)); simp only [Act.put, List.setIfInBounds_toArray, List.set_cons_succ, List.set_cons_zero])
  refine wpQuiet_nil ?_
  intro w2 hx2
  have HX2 := hide (HX0.out.trans hx2)
  clear hx2
  go_wp2
  go_ret
  exact Ret.mk (ret_b HS.out.symm) HX2.out
set_option maxRecDepth 100000 in
set_option maxHeartbeats 4000000 in
theorem sps_3 (vv va vr vx : Value) (vars args : List Int) (b : Int) (rows : List (List Int)) (x : List Int) (w : World) (hV : SInts w vv vars) (hA : SInts w va args) (hR : SRows w vr rows) (hX : SInts w vx x) (hx : ValL x) (hl : x.length = vars.length) (h4 : x.length ≤ 4) (h1 : 1 ≤ x.length) :
    Calls Try.prog 105 #[.agg #[.int .i64 3, vv, va, .int .i64 b, vr], vx] w (Ret (.bool (satB ⟨3, vars, args, b, rows⟩ x)) w) := by
  have HXV := hide hx
  have HL := hide hl
  obtain ⟨Av, cv, rfl, -, hlv⟩ := hV.form
  obtain ⟨Aa, ca, rfl, -, hla⟩ := hA.form
  obtain ⟨Ar, cr, rfl, -, hlr⟩ := hR.form
  obtain ⟨Ax, cx, rfl, -, hlx⟩ := hX.form
  obtain ⟨w0, hw0⟩ : ∃ w0, w0 = w.alloc (.cells #[.int .i64 3, .slice Av vars.length cv, .slice Aa args.length ca, .int .i64 b, .slice Ar rows.length cr] 54) := ⟨_, rfl⟩
  have hx0 : Ext w w0 := by rw [hw0]; exact (Ext.refl w).alloc _
  have k0 : w0.cell? ⟨w.heap.size, 0, none⟩ = some (.int .i64 3) := by rw [hw0]; go_simp
  have k1 : w0.cell? ⟨w.heap.size, 1, none⟩ = some (.slice Av vars.length cv) := by rw [hw0]; go_simp
  have k2 : w0.cell? ⟨w.heap.size, 2, none⟩ = some (.slice Aa args.length ca) := by rw [hw0]; go_simp
  have k3 : w0.cell? ⟨w.heap.size, 3, none⟩ = some (.int .i64 b) := by rw [hw0]; go_simp
  have k4 : w0.cell? ⟨w.heap.size, 4, none⟩ = some (.slice Ar rows.length cr) := by rw [hw0]; go_simp
  have ks : w.heap.size < w0.heap.size := by rw [hw0]; simp
  have HX0 := hide hx0
  have hV0 := hide (hV.ext hx0)
  have hA0 := hide (hA.ext hx0)
  have hR0 := hide (hR.ext hx0)
  have hX0 := hide (hX.ext hx0)
  have K0 := hide k0
  have K1 := hide k1
  have K2 := hide k2
  have K3 := hide k3
  have K4 := hide k4
  clear hx0 hV hA hR hX hx hl k0 k1 k2 k3 k4
  have _u4 := h4
  have _u1 := h1
  clear _u4 _u1
  have HS := hide (show satB ⟨3, vars, args, b, rows⟩ x = dst x from rfl)
  go_enter Try.func105, Try.ntmps105
  go_wp2_with fail
  rw [← hw0]
  refine (distinctS_any _ x _ hX0.out).mono ?_
  rintro e w2 ⟨rfl, hx2⟩
  have HX2 := hide (HX0.out.trans hx2)
  clear hx2 hw0
  go_wp2
  go_ret
  exact Ret.mk (ret_b HS.out.symm) HX2.out
set_option maxRecDepth 100000 in
set_option maxHeartbeats 4000000 in
theorem sps_5 (vv va vr vx : Value) (vars args : List Int) (b : Int) (rows : List (List Int)) (x : List Int) (w : World) (hV : SInts w vv vars) (hA : SInts w va args) (hR : SRows w vr rows) (hX : SInts w vx x) (hx : ValL x) (hl : x.length = vars.length) (h4 : x.length ≤ 4) (h1 : 1 ≤ x.length) (hr : ∀ i, i < rows.length → (rw0 rows i).length = x.length) :
    Calls Try.prog 105 #[.agg #[.int .i64 5, vv, va, .int .i64 b, vr], vx] w (Ret (.bool (satB ⟨5, vars, args, b, rows⟩ x)) w) := by
  have HXV := hide hx
  have HL := hide hl
  obtain ⟨Av, cv, rfl, -, hlv⟩ := hV.form
  obtain ⟨Aa, ca, rfl, -, hla⟩ := hA.form
  obtain ⟨Ar, cr, rfl, -, hlr⟩ := hR.form
  obtain ⟨Ax, cx, rfl, -, hlx⟩ := hX.form
  obtain ⟨w0, hw0⟩ : ∃ w0, w0 = w.alloc (.cells #[.int .i64 5, .slice Av vars.length cv, .slice Aa args.length ca, .int .i64 b, .slice Ar rows.length cr] 54) := ⟨_, rfl⟩
  have hx0 : Ext w w0 := by rw [hw0]; exact (Ext.refl w).alloc _
  have k0 : w0.cell? ⟨w.heap.size, 0, none⟩ = some (.int .i64 5) := by rw [hw0]; go_simp
  have k1 : w0.cell? ⟨w.heap.size, 1, none⟩ = some (.slice Av vars.length cv) := by rw [hw0]; go_simp
  have k2 : w0.cell? ⟨w.heap.size, 2, none⟩ = some (.slice Aa args.length ca) := by rw [hw0]; go_simp
  have k3 : w0.cell? ⟨w.heap.size, 3, none⟩ = some (.int .i64 b) := by rw [hw0]; go_simp
  have k4 : w0.cell? ⟨w.heap.size, 4, none⟩ = some (.slice Ar rows.length cr) := by rw [hw0]; go_simp
  have ks : w.heap.size < w0.heap.size := by rw [hw0]; simp
  have HX0 := hide hx0
  have hV0 := hide (hV.ext hx0)
  have hA0 := hide (hA.ext hx0)
  have hR0 := hide (hR.ext hx0)
  have hX0 := hide (hX.ext hx0)
  have K0 := hide k0
  have K1 := hide k1
  have K2 := hide k2
  have K3 := hide k3
  have K4 := hide k4
  clear hx0 hV hA hR hX hx hl k0 k1 k2 k3 k4
  have _u4 := h4
  have _u1 := h1
  clear _u4 _u1
  have HR := hide hr
  clear hr
  have HS := hide (show satB ⟨5, vars, args, b, rows⟩ x = anyB (fun i => decide (rw0 rows i = x)) rows.length from rfl)
  go_enter Try.func105, Try.ntmps105
  go_wp2_with fail
  rw [← hw0]
  refine (hasRow_any _ _ rows x _ hR0.out hX0.out HR.out).mono ?_
  rintro e w2 ⟨rfl, hx2⟩
  have HX2 := hide (HX0.out.trans hx2)
  clear hx2 hw0
  go_wp2
  go_ret
  exact Ret.mk (ret_b HS.out.symm) HX2.out
set_option maxRecDepth 100000 in
set_option maxHeartbeats 4000000 in
theorem sps_7 (vv va vr vx : Value) (vars args : List Int) (b : Int) (rows : List (List Int)) (x : List Int) (w : World) (hV : SInts w vv vars) (hA : SInts w va args) (hR : SRows w vr rows) (hX : SInts w vx x) (hx : ValL x) (hl : x.length = vars.length) (h4 : x.length ≤ 4) (h1 : 1 ≤ x.length) (ha : allR args 0 9 = true) (hal : args.length = 2 * vars.length) (hb : inR b 0 9 = true) :
    Calls Try.prog 105 #[.agg #[.int .i64 7, vv, va, .int .i64 b, vr], vx] w (Ret (.bool (satB ⟨7, vars, args, b, rows⟩ x)) w) := by
  have HXV := hide hx
  have HL := hide hl
  obtain ⟨Av, cv, rfl, -, hlv⟩ := hV.form
  obtain ⟨Aa, ca, rfl, -, hla⟩ := hA.form
  obtain ⟨Ar, cr, rfl, -, hlr⟩ := hR.form
  obtain ⟨Ax, cx, rfl, -, hlx⟩ := hX.form
  obtain ⟨w0, hw0⟩ : ∃ w0, w0 = w.alloc (.cells #[.int .i64 7, .slice Av vars.length cv, .slice Aa args.length ca, .int .i64 b, .slice Ar rows.length cr] 54) := ⟨_, rfl⟩
  have hx0 : Ext w w0 := by rw [hw0]; exact (Ext.refl w).alloc _
  have k0 : w0.cell? ⟨w.heap.size, 0, none⟩ = some (.int .i64 7) := by rw [hw0]; go_simp
  have k1 : w0.cell? ⟨w.heap.size, 1, none⟩ = some (.slice Av vars.length cv) := by rw [hw0]; go_simp
  have k2 : w0.cell? ⟨w.heap.size, 2, none⟩ = some (.slice Aa args.length ca) := by rw [hw0]; go_simp
  have k3 : w0.cell? ⟨w.heap.size, 3, none⟩ = some (.int .i64 b) := by rw [hw0]; go_simp
  have k4 : w0.cell? ⟨w.heap.size, 4, none⟩ = some (.slice Ar rows.length cr) := by rw [hw0]; go_simp
  have ks : w.heap.size < w0.heap.size := by rw [hw0]; simp
  have HX0 := hide hx0
  have hV0 := hide (hV.ext hx0)
  have hA0 := hide (hA.ext hx0)
  have hR0 := hide (hR.ext hx0)
  have hX0 := hide (hX.ext hx0)
  have K0 := hide k0
  have K1 := hide k1
  have K2 := hide k2
  have K3 := hide k3
  have K4 := hide k4
  clear hx0 hV hA hR hX hx hl k0 k1 k2 k3 k4
  have _u4 := h4
  have _u1 := h1
  clear _u4 _u1
  have HA := hide ha
  have hal2 : args.length = 2 * x.length := by rw [hal, HL.out]
  have HAL := hide hal2
  have HB := hide hb
  clear ha hal hb hal2
  have HS := hide (show satB ⟨7, vars, args, b, rows⟩ x = roomB args b x from rfl)
  go_enter Try.func105, Try.ntmps105
  go_wp2_with fail
  rw [← hw0]
  refine (withinCapacity_any _ _ ⟨7, vars, args, b, rows⟩ x _ ⟨_, _, _, rfl, hV0.out, hA0.out, hR0.out⟩ hX0.out HA.out HB.out HXV.out HAL.out (by omega)).mono ?_
  rintro e w2 ⟨rfl, hx2⟩
  have HX2 := hide (HX0.out.trans hx2)
  clear hx2 hw0
  go_wp2
  go_ret
  exact Ret.mk (ret_b HS.out.symm) HX2.out
set_option maxRecDepth 100000 in
set_option maxHeartbeats 4000000 in
theorem sps_8 (vv va vr vx : Value) (vars args : List Int) (b : Int) (rows : List (List Int)) (x : List Int) (w : World) (hV : SInts w vv vars) (hA : SInts w va args) (hR : SRows w vr rows) (hX : SInts w vx x) (hx : ValL x) (hl : x.length = vars.length) (h4 : x.length ≤ 4) (h1 : 1 ≤ x.length) (hr : vRows rows 6 (-1) (rows.length - 1) = true):
    Calls Try.prog 105 #[.agg #[.int .i64 8, vv, va, .int .i64 b, vr], vx] w (Ret (.bool (satB ⟨8, vars, args, b, rows⟩ x)) w) := by
  have HXV := hide hx
  have HL := hide hl
  obtain ⟨Av, cv, rfl, -, hlv⟩ := hV.form
  obtain ⟨Aa, ca, rfl, -, hla⟩ := hA.form
  obtain ⟨Ar, cr, rfl, -, hlr⟩ := hR.form
  obtain ⟨Ax, cx, rfl, -, hlx⟩ := hX.form
  obtain ⟨w0, hw0⟩ : ∃ w0, w0 = w.alloc (.cells #[.int .i64 8, .slice Av vars.length cv, .slice Aa args.length ca, .int .i64 b, .slice Ar rows.length cr] 54) := ⟨_, rfl⟩
  have hx0 : Ext w w0 := by rw [hw0]; exact (Ext.refl w).alloc _
  have k0 : w0.cell? ⟨w.heap.size, 0, none⟩ = some (.int .i64 8) := by rw [hw0]; go_simp
  have k1 : w0.cell? ⟨w.heap.size, 1, none⟩ = some (.slice Av vars.length cv) := by rw [hw0]; go_simp
  have k2 : w0.cell? ⟨w.heap.size, 2, none⟩ = some (.slice Aa args.length ca) := by rw [hw0]; go_simp
  have k3 : w0.cell? ⟨w.heap.size, 3, none⟩ = some (.int .i64 b) := by rw [hw0]; go_simp
  have k4 : w0.cell? ⟨w.heap.size, 4, none⟩ = some (.slice Ar rows.length cr) := by rw [hw0]; go_simp
  have ks : w.heap.size < w0.heap.size := by rw [hw0]; simp
  have HX0 := hide hx0
  have hV0 := hide (hV.ext hx0)
  have hA0 := hide (hA.ext hx0)
  have hR0 := hide (hR.ext hx0)
  have hX0 := hide (hX.ext hx0)
  have K0 := hide k0
  have K1 := hide k1
  have K2 := hide k2
  have K3 := hide k3
  have K4 := hide k4
  clear hx0 hV hA hR hX hx hl k0 k1 k2 k3 k4
  have _u4 := h4
  have _u1 := h1
  clear _u4 _u1
  have HR := hide hr
  clear hr
  have HS := hide (show satB ⟨8, vars, args, b, rows⟩ x = acceptB rows args x from rfl)
  go_enter Try.func105, Try.ntmps105
  go_wp2_with fail
  rw [← hw0]
  refine (acceptsS_any _ _ ⟨8, vars, args, b, rows⟩ x _ ⟨_, _, _, rfl, hV0.out, hA0.out, hR0.out⟩ hX0.out HR.out HXV.out (by omega)).mono ?_
  rintro e w2 ⟨rfl, hx2⟩
  have HX2 := hide (HX0.out.trans hx2)
  clear hx2 hw0
  go_wp2
  go_ret
  exact Ret.mk (ret_b HS.out.symm) HX2.out
set_option maxRecDepth 100000 in
set_option maxHeartbeats 4000000 in
theorem sps_9 (vv va vr vx : Value) (vars args : List Int) (b : Int) (rows : List (List Int)) (x : List Int) (w : World) (hV : SInts w vv vars) (hA : SInts w va args) (hR : SRows w vr rows) (hX : SInts w vx x) (hx : ValL x) (hl : x.length = vars.length) (h4 : x.length ≤ 4) (h1 : 1 ≤ x.length) :
    Calls Try.prog 105 #[.agg #[.int .i64 9, vv, va, .int .i64 b, vr], vx] w (Ret (.bool (satB ⟨9, vars, args, b, rows⟩ x)) w) := by
  have HXV := hide hx
  have HL := hide hl
  obtain ⟨Av, cv, rfl, -, hlv⟩ := hV.form
  obtain ⟨Aa, ca, rfl, -, hla⟩ := hA.form
  obtain ⟨Ar, cr, rfl, -, hlr⟩ := hR.form
  obtain ⟨Ax, cx, rfl, -, hlx⟩ := hX.form
  obtain ⟨w0, hw0⟩ : ∃ w0, w0 = w.alloc (.cells #[.int .i64 9, .slice Av vars.length cv, .slice Aa args.length ca, .int .i64 b, .slice Ar rows.length cr] 54) := ⟨_, rfl⟩
  have hx0 : Ext w w0 := by rw [hw0]; exact (Ext.refl w).alloc _
  have k0 : w0.cell? ⟨w.heap.size, 0, none⟩ = some (.int .i64 9) := by rw [hw0]; go_simp
  have k1 : w0.cell? ⟨w.heap.size, 1, none⟩ = some (.slice Av vars.length cv) := by rw [hw0]; go_simp
  have k2 : w0.cell? ⟨w.heap.size, 2, none⟩ = some (.slice Aa args.length ca) := by rw [hw0]; go_simp
  have k3 : w0.cell? ⟨w.heap.size, 3, none⟩ = some (.int .i64 b) := by rw [hw0]; go_simp
  have k4 : w0.cell? ⟨w.heap.size, 4, none⟩ = some (.slice Ar rows.length cr) := by rw [hw0]; go_simp
  have ks : w.heap.size < w0.heap.size := by rw [hw0]; simp
  have HX0 := hide hx0
  have hV0 := hide (hV.ext hx0)
  have hA0 := hide (hA.ext hx0)
  have hR0 := hide (hR.ext hx0)
  have hX0 := hide (hX.ext hx0)
  have K0 := hide k0
  have K1 := hide k1
  have K2 := hide k2
  have K3 := hide k3
  have K4 := hide k4
  clear hx0 hV hA hR hX hx hl k0 k1 k2 k3 k4
  have _u4 := h4
  have _u1 := h1
  clear _u4 _u1
  have HS := hide (show satB ⟨9, vars, args, b, rows⟩ x = cycB x from rfl)
  go_enter Try.func105, Try.ntmps105
  go_wp2_with fail
  rw [← hw0]
  refine (isCircuit_any _ x _ hX0.out HXV.out h4 h1).mono ?_
  rintro e w2 ⟨rfl, hx2⟩
  have HX2 := hide (HX0.out.trans hx2)
  clear hx2 hw0
  go_wp2
  go_ret
  exact Ret.mk (ret_b HS.out.symm) HX2.out
set_option maxRecDepth 100000 in
set_option maxHeartbeats 4000000 in
theorem sps_6 (vv va vr vx : Value) (vars args : List Int) (b : Int) (rows : List (List Int)) (x : List Int) (w : World) (hV : SInts w vv vars) (hA : SInts w va args) (hR : SRows w vr rows) (hX : SInts w vx x) (hx : ValL x) (hl : x.length = vars.length) (h4 : x.length ≤ 4) (h1 : 1 ≤ x.length) (hal : args.length = 1):
    Calls Try.prog 105 #[.agg #[.int .i64 6, vv, va, .int .i64 b, vr], vx] w (Ret (.bool (satB ⟨6, vars, args, b, rows⟩ x)) w) := by
  have HXV := hide hx
  have HL := hide hl
  obtain ⟨Av, cv, rfl, -, hlv⟩ := hV.form
  obtain ⟨Aa, ca, rfl, -, hla⟩ := hA.form
  obtain ⟨Ar, cr, rfl, -, hlr⟩ := hR.form
  obtain ⟨Ax, cx, rfl, -, hlx⟩ := hX.form
  obtain ⟨w0, hw0⟩ : ∃ w0, w0 = w.alloc (.cells #[.int .i64 6, .slice Av vars.length cv, .slice Aa args.length ca, .int .i64 b, .slice Ar rows.length cr] 54) := ⟨_, rfl⟩
  have hx0 : Ext w w0 := by rw [hw0]; exact (Ext.refl w).alloc _
  have k0 : w0.cell? ⟨w.heap.size, 0, none⟩ = some (.int .i64 6) := by rw [hw0]; go_simp
  have k1 : w0.cell? ⟨w.heap.size, 1, none⟩ = some (.slice Av vars.length cv) := by rw [hw0]; go_simp
  have k2 : w0.cell? ⟨w.heap.size, 2, none⟩ = some (.slice Aa args.length ca) := by rw [hw0]; go_simp
  have k3 : w0.cell? ⟨w.heap.size, 3, none⟩ = some (.int .i64 b) := by rw [hw0]; go_simp
  have k4 : w0.cell? ⟨w.heap.size, 4, none⟩ = some (.slice Ar rows.length cr) := by rw [hw0]; go_simp
  have ks : w.heap.size < w0.heap.size := by rw [hw0]; simp
  have HX0 := hide hx0
  have hV0 := hide (hV.ext hx0)
  have hA0 := hide (hA.ext hx0)
  have hR0 := hide (hR.ext hx0)
  have hX0 := hide (hX.ext hx0)
  have K0 := hide k0
  have K1 := hide k1
  have K2 := hide k2
  have K3 := hide k3
  have K4 := hide k4
  clear hx0 hV hA hR hX hx hl k0 k1 k2 k3 k4
  have _u4 := h4
  have _u1 := h1
  clear _u4 _u1
  have HS := hide (show satB ⟨6, vars, args, b, rows⟩ x = (cntV x (at0 args 0) x.length == b) from rfl)
  obtain ⟨ba, oa, rfl, hba, f2⟩ := hA0.out.at_ (k := 0) (by omega)
  simp only [Nat.add_zero] at f2
  have F2 := hide f2
  have i2 : 0 < args.length := by omega
  have HAL := hide hal
  clear hal f2
  go_enter Try.func105, Try.ntmps105
  go_wp2
  rw [← hw0]
  clear hw0
  go_loopw [7, 8] (fun s i wr => ∃ k : Nat, k ≤ x.length ∧ i = .int .i64 k ∧ s = .int .i64 (cntV x (at0 args 0) k) ∧ Ext w0 wr) (fun _ i _ => x.length - (intOf i).toNat)
  case atStart => exact ⟨0, by omega, rfl, rfl, Ext.refl _⟩
  case round =>
    obtain ⟨k, hk, rfl, rfl, hxk⟩ := hrel
    have HXK := hide hxk
    have g2 := (hxk.cells _ _ ks).trans K2.out
    have g3 := (hxk.cells _ _ ks).trans K3.out
    have f2 := (hxk.cells _ _ hba).trans F2.out
    have ksr := Nat.lt_of_lt_of_le ks hxk.size
    have hbar := Nat.lt_of_lt_of_le hba hxk.size
    have hcb := cntV_bd x (at0 args 0) k
    clear hxk
    by_cases hlt : k < x.length
    · have hkI : (k : Int) < x.length := by omega
      obtain ⟨bx, ox, rfl, hbx, f1⟩ := (hX0.out.ext HXK.out).at_ hlt
      cases he : (at0 x k == at0 args 0) with
      | true =>
        have HK := hide (show cntV x (at0 args 0) k + 1 = cntV x (at0 args 0) (k + 1) by rw [cntV, if_pos he])
        go_wp2
        refine wp_region_ext (by kernel_rfl) (by kernel_rfl) ?_
        iterate 9 (apply quiet_val; (focus rfl); (focus (intro w' hw'; have hk' := hw'.cells; go_simp; all_goals exact rfl)); simp only [Act.put, List.setIfInBounds_toArray, List.set_cons_succ, List.set_cons_zero])
        refine wpQuiet_nil ?_
        intro w2 hx2
        have HX2 := hide (HXK.out.trans hx2)
        clear hx2
        go_wp2
        go_roundw
        case rel => exact ⟨k + 1, by omega, by go_num, by rw [← HK.out], HX2.out⟩
        case measure => simp [intOf]; omega
      | false =>
        have HK := hide (show cntV x (at0 args 0) k = cntV x (at0 args 0) (k + 1) by rw [cntV, he]; rfl)
        go_wp2
        refine wp_region_ext (by kernel_rfl) (by kernel_rfl) ?_
        iterate 9 (apply quiet_val; (focus rfl); (focus (intro w' hw'; have hk' := hw'.cells; go_simp; all_goals exact rfl)); simp only [Act.put, List.setIfInBounds_toArray, List.set_cons_succ, List.set_cons_zero])
        refine wpQuiet_nil ?_
        intro w2 hx2
        have HX2 := hide (HXK.out.trans hx2)
        clear hx2
        go_wp2
        go_roundw
        case rel => exact ⟨k + 1, by omega, by go_num, by rw [← HK.out], HX2.out⟩
        case measure => simp [intOf]; omega
    · obtain rfl : k = x.length := by omega
      have hkI : ¬ ((x.length : Int) < x.length) := by omega
      go_wp2
      go_ret
      exact Ret.mk (ret_b HS.out.symm) (HX0.out.trans HXK.out)
set_option maxRecDepth 100000 in
set_option maxHeartbeats 4000000 in
theorem sps_4 (vv va vr vx : Value) (vars args : List Int) (b : Int) (rows : List (List Int)) (x : List Int) (w : World) (hV : SInts w vv vars) (hA : SInts w va args) (hR : SRows w vr rows) (hX : SInts w vx x) (hx : ValL x) (hl : x.length = vars.length) (h4 : x.length ≤ 4) (h1 : 1 ≤ x.length) (hv2 : vars.length = 2):
    Calls Try.prog 105 #[.agg #[.int .i64 4, vv, va, .int .i64 b, vr], vx] w (Ret (.bool (satB ⟨4, vars, args, b, rows⟩ x)) w) := by
  have HXV := hide hx
  have HL := hide hl
  obtain ⟨Av, cv, rfl, -, hlv⟩ := hV.form
  obtain ⟨Aa, ca, rfl, -, hla⟩ := hA.form
  obtain ⟨Ar, cr, rfl, -, hlr⟩ := hR.form
  obtain ⟨Ax, cx, rfl, -, hlx⟩ := hX.form
  obtain ⟨w0, hw0⟩ : ∃ w0, w0 = w.alloc (.cells #[.int .i64 4, .slice Av vars.length cv, .slice Aa args.length ca, .int .i64 b, .slice Ar rows.length cr] 54) := ⟨_, rfl⟩
  have hx0 : Ext w w0 := by rw [hw0]; exact (Ext.refl w).alloc _
  have k0 : w0.cell? ⟨w.heap.size, 0, none⟩ = some (.int .i64 4) := by rw [hw0]; go_simp
  have k1 : w0.cell? ⟨w.heap.size, 1, none⟩ = some (.slice Av vars.length cv) := by rw [hw0]; go_simp
  have k2 : w0.cell? ⟨w.heap.size, 2, none⟩ = some (.slice Aa args.length ca) := by rw [hw0]; go_simp
  have k3 : w0.cell? ⟨w.heap.size, 3, none⟩ = some (.int .i64 b) := by rw [hw0]; go_simp
  have k4 : w0.cell? ⟨w.heap.size, 4, none⟩ = some (.slice Ar rows.length cr) := by rw [hw0]; go_simp
  have ks : w.heap.size < w0.heap.size := by rw [hw0]; simp
  have HX0 := hide hx0
  have hV0 := hide (hV.ext hx0)
  have hA0 := hide (hA.ext hx0)
  have hR0 := hide (hR.ext hx0)
  have hX0 := hide (hX.ext hx0)
  have K0 := hide k0
  have K1 := hide k1
  have K2 := hide k2
  have K3 := hide k3
  have K4 := hide k4
  clear hx0 hV hA hR hX hx hl k0 k1 k2 k3 k4
  have _u4 := h4
  have _u1 := h1
  clear _u4 _u1
  have HS := hide (show satB ⟨4, vars, args, b, rows⟩ x = (decide (at0 x 0 < args.length) && (at0 args (at0 x 0).toNat == at0 x 1)) from rfl)
  have hx2l : x.length = 2 := HL.out.trans hv2
  have g0 := HXV.out 0 (by omega)
  have g1 := HXV.out 1 (by omega)
  have c2 := K2.out
  obtain ⟨bx, ox, rfl, hbx, f0⟩ := hX0.out.at_ (k := 0) (by omega)
  have f1 := hX0.out.cell_ (k := 1) (by omega)
  have i0 : 0 < x.length := by omega
  have i1 : (1 : Int) < x.length := by omega
  simp only [Nat.add_zero] at f0
  obtain ⟨u, hu⟩ : ∃ u : Nat, at0 x 0 = u := ⟨(at0 x 0).toNat, by omega⟩
  rw [hu] at f0 g0 HS
  by_cases hul : u < args.length
  · obtain ⟨ba, oa, rfl, hba, f2⟩ := hA0.out.at_ hul
    have huI : (u : Int) < args.length := by omega
    have HU := hide (show (decide ((u : Int) < args.length) && (at0 args (u : Int).toNat == at0 x 1)) = (at0 args u == at0 x 1) by rw [decide_eq_true huI]; rfl)
    have HH := hide hx2l
    clear hx2l hv2 hu
    go_enter Try.func105, Try.ntmps105
    go_wp2
    rw [← hw0]
    clear hw0
    refine wp_region_ext (by kernel_rfl) (by kernel_rfl) ?_
    iterate 8 (apply quiet_val; (focus rfl); (focus (intro w' hw'; have hk' := hw'.cells; go_simp; all_goals exact rfl)); simp only [Act.put, List.setIfInBounds_toArray, List.set_cons_succ, List.set_cons_zero])
    iterate 11 (go_big_quiet_want; apply quietK_val; (focus (intro w' hw'; have hk' := hw'.cells; go_simp; all_goals exact rfl)); simp only [Act.put, List.setIfInBounds_toArray, List.set_cons_succ, List.set_cons_zero]; go_big_quiet_on)
    iterate 2 (apply quiet_val; (focus rfl); (focus (intro w' hw'; have hk' := hw'.cells; go_simp; all_goals exact rfl)); simp only [Act.put, List.setIfInBounds_toArray, List.set_cons_succ, List.set_cons_zero])
    refine wpQuiet_nil ?_
    intro w2 hx2
    have HX2 := hide (HX0.out.trans hx2)
    clear hx2
    go_wp2
    go_ret
    exact Ret.mk (ret_b (by rw [HS.out, HU.out])) HX2.out
  · have huI : ¬ (u : Int) < args.length := by omega
    have huD : decide ((u : Int) < args.length) = false := by simp; omega
    have HU := hide (show (decide ((u : Int) < args.length) && (at0 args (u : Int).toNat == at0 x 1)) = false by rw [decide_eq_false huI]; rfl)
    have HH := hide hx2l
    clear hx2l hv2 hu
    go_enter Try.func105, Try.ntmps105
    go_wp2
    rw [← hw0]
    clear hw0
    refine wp_region_ext (by kernel_rfl) (by kernel_rfl) ?_
    iterate 8 (apply quiet_val; (focus rfl); (focus (intro w' hw'; have hk' := hw'.cells; go_simp; all_goals exact rfl)); simp only [Act.put, List.setIfInBounds_toArray, List.set_cons_succ, List.set_cons_zero])
    iterate 11 go_big_quiet_skip
    iterate 2 (apply quiet_val; (focus rfl); (focus (intro w' hw'; have hk' := hw'.cells; go_simp; all_goals exact rfl)); simp only [Act.put, List.setIfInBounds_toArray, List.set_cons_succ, List.set_cons_zero])
    refine wpQuiet_nil ?_
    intro w2 hx2
    have HX2 := hide (HX0.out.trans hx2)
    clear hx2
    go_wp2
    go_ret
    exact Ret.mk (ret_b (by rw [HS.out, HU.out])) HX2.out
theorem satisfiesS_any (v vx : Value) (c : Con) (x : List Int) (n : Int) (w : World) (hC : SCon w v c) (hX : SInts w vx x) (hv : vCon c n = true) (hx : ValL x) (hl : x.length = c.vars.length) :
    Calls Try.prog 105 #[v, vx] w (Ret (.bool (satB c x)) w) := by
  obtain ⟨v1, v2, v3, -, -, hf⟩ := vCon_len hv
  obtain ⟨vv, va, vr, rfl, hV, hA, hR⟩ := hC
  obtain ⟨kk, vars, args, b, rows⟩ := c
  simp only at hV hA hR hl v1 v2 hf ⊢
  have h1 : 1 ≤ x.length := by omega
  have h4 : x.length ≤ 4 := by omega
  unfold fitB argsB at hf
  split at hf
  · subst kk
    simp only [Bool.and_eq_true, beq_iff_eq] at hf
    exact sps_1 _ _ _ _ vars args b rows x w hV hA hR hX hx hl h4 h1 hf.1.2 (by omega)
  split at hf
  · subst kk
    simp only [Bool.and_eq_true, beq_iff_eq] at hf
    exact sps_2 _ _ _ _ vars args b rows x w hV hA hR hX hx hl h4 h1 hf.2.1.2 (by omega) (by omega)
  split at hf
  · rename_i hk
    rcases hk with rfl | rfl
    · exact sps_3 _ _ _ _ vars args b rows x w hV hA hR hX hx hl h4 h1
    · exact sps_9 _ _ _ _ vars args b rows x w hV hA hR hX hx hl h4 h1
  split at hf
  · subst kk
    simp only [Bool.and_eq_true, beq_iff_eq] at hf
    exact sps_4 _ _ _ _ vars args b rows x w hV hA hR hX hx hl h4 h1 (by omega)
  split at hf
  · subst kk
    refine sps_5 _ _ _ _ vars args b rows x w hV hA hR hX hx hl h4 h1 ?_
    simp only [Bool.and_eq_true, beq_iff_eq] at hf
    intro i hi
    have := (vRows_at hf.2.2 hi).1
    omega
  split at hf
  · subst kk
    simp only [Bool.and_eq_true, beq_iff_eq] at hf
    exact sps_6 _ _ _ _ vars args b rows x w hV hA hR hX hx hl h4 h1 (by omega)
  split at hf
  · subst kk
    simp only [Bool.and_eq_true, beq_iff_eq] at hf
    exact sps_7 _ _ _ _ vars args b rows x w hV hA hR hX hx hl h4 h1 hf.1.2 (by omega) hf.2.1
  split at hf
  · subst kk
    simp only [Bool.and_eq_true] at hf
    exact sps_8 _ _ _ _ vars args b rows x w hV hA hR hX hx hl h4 h1 hf.1
  · cases hf
end Go.Proofs.Ytgeflejmdlipmaa
