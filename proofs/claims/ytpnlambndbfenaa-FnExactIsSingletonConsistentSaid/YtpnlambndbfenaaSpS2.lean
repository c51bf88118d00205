/- When a constraint is satisfied: the reference's walks of an automaton and of a circuit. -/
import Derived.Test.YtpnlambndbfenaaSatK
namespace Go.Proofs.Ytpnlambndbfenaa
open Go.RowKit

set_option maxHeartbeats 4000000 in
theorem acceptsS_any (v vx : Value) (c : Con) (x : List Int) (w : World) (hC : SCon w v c) (hX : SInts w vx x) (hr : vRows c.rows 6 (-1) (c.rows.length - 1) = true) (hx : ValL x) (h4 : x.length ≤ 100) :
    Calls Try.prog 137 #[v, vx] w (Ret (.bool (acceptB c.rows c.args x)) w) := by
  obtain ⟨vv, va, vr, rfl, hV, hA, hR⟩ := hC
  have HVR := hide hr
  have HXV := hide hx
  obtain ⟨Av, cv, rfl, -, hlv⟩ := hV.form
  obtain ⟨Aa, ca, rfl, -, hla⟩ := hA.form
  obtain ⟨Ar, cr, rfl, -, hlr⟩ := hR.form
  obtain ⟨Ax, cx, rfl, -, hlx⟩ := hX.form
  have hrl := vRows_len hr
  obtain ⟨w0, hw0⟩ : ∃ w0, w0 = w.alloc (.cells #[.int .i64 c.kk, .slice Av c.vars.length cv, .slice Aa c.args.length ca, .int .i64 c.bound, .slice Ar c.rows.length cr] 32) := ⟨_, rfl⟩
  have hx0 : Ext w w0 := by rw [hw0]; exact (Ext.refl w).alloc _
  have k2 : w0.cell? ⟨w.heap.size, 2, none⟩ = some (.slice Aa c.args.length ca) := by rw [hw0]; go_simp
  have k4 : w0.cell? ⟨w.heap.size, 4, none⟩ = some (.slice Ar c.rows.length cr) := by rw [hw0]; go_simp
  have ks : w.heap.size < w0.heap.size := by rw [hw0]; simp
  have HX0 := hide hx0
  have hA0 := hide (hA.ext hx0)
  have hR0 := hide (hR.ext hx0)
  have hX0 := hide (hX.ext hx0)
  have K2 := hide k2
  have K4 := hide k4
  clear hx0 hV hA hR hX hr hx k2 k4
  go_enter Try.func137, Try.ntmps137
  go_wp2
  rw [← hw0]
  clear hw0
  go_loopw [5, 6] (fun s i wr => ∃ k : Nat, k ≤ x.length ∧ i = .int .i64 k ∧ s = .int .i64 (runA c.rows x k) ∧ Ext w0 wr ∧ 0 ≤ runA c.rows x k ∧ runA c.rows x k < c.rows.length) (fun _ i _ => x.length - (intOf i).toNat)
  case atStart => exact ⟨0, by omega, rfl, rfl, Ext.refl _, by simp [runA], by simp [runA]; omega⟩
  case round =>
    obtain ⟨k, hk, rfl, rfl, hxk, hs0, hs1⟩ := hrel
    have HXK := hide hxk
    have g2 := (hxk.cells _ _ ks).trans K2.out
    have g4 := (hxk.cells _ _ ks).trans K4.out
    have ksr := Nat.lt_of_lt_of_le ks hxk.size
    clear hxk
    by_cases hlt : k < x.length
    · have hkI : (k : Int) < x.length := by omega
      obtain ⟨s, hs⟩ : ∃ s : Nat, runA c.rows x k = s := ⟨(runA c.rows x k).toNat, by omega⟩
      rw [hs] at hs0 hs1
      have hsl : s < c.rows.length := by omega
      obtain ⟨bx, ox, rfl, hbx, f1⟩ := (hX0.out.ext HXK.out).at_ hlt
      have h3 := HXV.out k hlt
      obtain ⟨u, hu⟩ : ∃ u : Nat, at0 x k = u := ⟨(at0 x k).toNat, by omega⟩
      rw [hu] at f1 h3
      obtain ⟨br, orr, A', c', rfl, hbl, f2, hrow⟩ := (hR0.out.ext HXK.out).at_ hsl
      obtain ⟨q1, q2⟩ := vRows_at HVR.out hsl
      have hul : u < (rw0 c.rows s).length := by omega
      have hulI : (u : Int) < (rw0 c.rows s).length := by omega
      obtain ⟨b3, o3, rfl, hb3, f3⟩ := hrow.at_ hul
      have h5 := allR_at q2 hul
      have HK := hide (show runA c.rows x (k + 1) = at0 (rw0 c.rows s) u by rw [runA, hs, hu, if_neg (by omega)]; rfl)
      have HS := hide hs
      have HI := hide (hrow.i64 hul)
      have hq1 := hide q1
      rw [hs]
      clear hs hu hrow q2 q1
      by_cases hneg : at0 (rw0 c.rows s) u < 0
      · have HN := hide (acceptB_no (f := c.args) (show k + 1 ≤ x.length by omega) (by rw [HK.out]; exact hneg))
        go_wp2
        refine wp_region_ext (by kernel_rfl) (by kernel_rfl) ?_
        iterate 12 (apply quiet_val; (focus rfl); (focus (intro w' hw'; have hk' := hw'.cells; go_simp; all_goals exact rfl)); simp only [Act.put, List.setIfInBounds_toArray, List.set_cons_succ, List.set_cons_zero])
        refine wpQuiet_nil ?_
        intro w2 hx2
        have HX2 := hide ((HX0.out.trans HXK.out).trans hx2)
        clear hx2
        go_wp2
        go_ret
        exact Ret.mk (ret_b HN.out.symm) HX2.out
      · have HN := hide hneg
        go_wp2
        refine wp_region_ext (by kernel_rfl) (by kernel_rfl) ?_
        iterate 12 (apply quiet_val; (focus rfl); (focus (intro w' hw'; have hk' := hw'.cells; go_simp; all_goals exact rfl)); simp only [Act.put, List.setIfInBounds_toArray, List.set_cons_succ, List.set_cons_zero])
        refine wpQuiet_nil ?_
        intro w2 hx2
        have HX2 := hide (HXK.out.trans hx2)
        clear hx2
        go_wp2
        go_roundw
        case rel => exact ⟨k + 1, by omega, by go_num, by rw [HK.out], HX2.out, by rw [HK.out]; omega, by rw [HK.out]; omega⟩
        case measure => simp [intOf]; omega
    · obtain rfl : k = x.length := by omega
      have hkI : ¬ ((x.length : Int) < x.length) := by omega
      have HQ := hide (show acceptB c.rows c.args x = hasI c.args (runA c.rows x x.length) by unfold acceptB; rw [decide_eq_true hs0, Bool.true_and])
      obtain ⟨s, hs⟩ : ∃ s, s = runA c.rows x x.length := ⟨_, rfl⟩
      rw [← hs] at HQ ⊢
      obtain ⟨W1, rfl⟩ : ∃ W1, W1 = wr := ⟨wr, rfl⟩
      clear hs0 hs1 hs
      go_wp2
      go_loopw [7] (fun i wr => ∃ m : Nat, m ≤ c.args.length ∧ i = .int .i64 m ∧ wr = W1 ∧ ∀ j, j < m → (s == at0 c.args j) = false) (fun i _ => c.args.length - (intOf i).toNat)
      case atStart => exact ⟨0, by omega, rfl, by first | rfl | trivial, fun j hj => by omega⟩
      case round =>
        obtain ⟨m, hm, rfl, rfl, hno⟩ := hrel
        have HNO := hide hno
        clear hno
        by_cases hml : m < c.args.length
        · have hmI : (m : Int) < c.args.length := by omega
          obtain ⟨b, off, rfl, hbl, f1⟩ := (hA0.out.ext HXK.out).at_ hml
          cases he : (s == at0 c.args m) with
          | true =>
            have HD := hide (show hasI c.args s = true from anyB_iff.2 ⟨m, hml, he⟩)
            have he2 : (at0 c.args m == s) = true := by rw [beq_iff_eq] at he ⊢; exact he.symm
            clear he
            go_wp2
            go_ret
            exact Ret.mk (ret_b (by rw [HQ.out, HD.out])) (HX0.out.trans HXK.out)
          | false =>
            have HE := hide he
            have he2 : (at0 c.args m == s) = false := by rw [beq_eq_false_iff_ne] at he ⊢; exact fun h => he h.symm
            clear he
            go_wp2
            go_roundw
            case rel => exact ⟨m + 1, by omega, by go_num, by first | rfl | trivial, upto_succ HNO.out HE.out⟩
            case measure => simp [intOf]; omega
        · obtain rfl : m = c.args.length := by omega
          have hmI : ¬ ((c.args.length : Int) < c.args.length) := by omega
          have HD := hide (show hasI c.args s = false from anyB_false.2 HNO.out)
          go_wp2
          go_ret
          exact Ret.mk (ret_b (by rw [HQ.out, HD.out])) (HX0.out.trans HXK.out)
/-- A way that comes back at last only leads through all places. -/
def cycT (x : List Int) : Bool :=
  !((posC x x.length == 0) && (!anyB (fun k => decide (0 < k) && posC x k == 0) x.length && !anyB (fun k => decide ((x.length : Int) ≤ posC x k)) x.length)) || allR x 0 (x.length - 1)
theorem cycT_all : (List.range 5).all (fun n => (tups (List.replicate n 63)).all cycT) = true := by decide +kernel
theorem cycT_any {x : List Int} (hx : ValL x) (h4 : x.length ≤ 4) : cycT x = true := by
  have h := List.all_eq_true.1 cycT_all x.length (List.mem_range.2 (by omega))
  refine List.all_eq_true.1 h x ((tups_in _ x).2 ⟨by simp, fun i hi => ?_⟩)
  rw [List.length_replicate] at hi
  obtain ⟨v, hv, e⟩ := hx.at_ hi
  refine ⟨v, hv, e, ?_⟩
  have : at0 (List.replicate x.length (63 : Int)) i = 63 := by
    unfold at0; rw [getD_lt _ _ (by simpa using hi)]; simp
  rw [this]
  have : (List.range 6).all (fun v => hasB 63 v) = true := by decide
  exact List.all_eq_true.1 this v (List.mem_range.2 hv)
theorem cycB_ret {x : List Int} (hx : ValL x) (h4 : x.length ≤ 4) {s : Nat} (h0 : 0 < s) (hs : s ≤ x.length) (hz : posC x s = 0) (hn : ∀ k, 0 < k → k < s → posC x k ≠ 0) (hb : ∀ k, k < s → posC x k < x.length) : cycB x = decide (s = x.length) := by
  by_cases e : s = x.length
  · have hc := cycT_any hx h4
    have : allR x 0 (x.length - 1) = true := by
      unfold cycT at hc
      subst e
      rw [hz, anyB_false.2 (fun k hk => by
        by_cases h0 : 0 < k
        · have := hn k h0 hk; simp [this]
        · simp [h0]), anyB_false.2 (fun k hk => by have := hb k hk; simp; omega)] at hc
      simpa using hc
    exact cycB_at this h0 hs hz hn
  · rw [decide_eq_false e]
    unfold cycB
    rw [anyB_iff.2 ⟨s, by omega, by simp [h0, hz]⟩]
    simp
theorem allR_of_out {x : List Int} {u : Nat} (hu : u < x.length) (h : (x.length : Int) ≤ at0 x u) : allR x 0 (x.length - 1) = false := by
  refine allR_no hu ?_
  have : ¬ at0 x u ≤ x.length - 1 := by omega
  simp [inR, this]
set_option maxHeartbeats 4000000 in
theorem isCircuit_any (vx : Value) (x : List Int) (w : World) (hX : SInts w vx x) (hx : ValL x) (h4 : x.length ≤ 4) (h1 : 1 ≤ x.length) :
    Calls Try.prog 138 #[vx] w (Ret (.bool (cycB x)) w) := by
  have hX0 := hide hX
  have HXV := hide hx
  obtain ⟨Ax, cx, rfl, -, hlx⟩ := hX.form
  clear hX hx
  have HB0 := hide (show ∀ j, j ≤ 0 → posC x j < x.length from fun j hj => by
    obtain rfl : j = 0 := by omega
    simp [posC]; omega)
  go_enter Try.func138, Try.ntmps138
  go_wp2
  go_loop [3, 4] (fun s i => ∃ k u : Nat, k ≤ x.length ∧ i = .int .i64 ((k : Int) + 1) ∧ s = .int .i64 u ∧ posC x k = u ∧ u < x.length ∧ (∀ j, 0 < j → j ≤ k → posC x j ≠ 0) ∧ ∀ j, j ≤ k → posC x j < x.length) (fun _ i => x.length + 1 - (intOf i).toNat)
  case atStart => exact ⟨0, 0, by omega, rfl, rfl, rfl, by omega, fun j h0 hj => by omega, HB0.out⟩
  case round =>
    obtain ⟨k, u, hk, rfl, rfl, hu, hul, hno, hbd⟩ := hrel
    have HNO := hide hno
    have HBD := hide hbd
    have HU := hide hu
    clear hno hu hbd
    by_cases hlt : k < x.length
    · have hkI : (k : Int) + 1 ≤ x.length := by omega
      have hulI : (u : Int) < x.length := by omega
      obtain ⟨bx, ox, rfl, hbx, f1⟩ := hX0.out.at_ hul
      have h3 := HXV.out u hul
      obtain ⟨t, ht⟩ : ∃ t : Nat, at0 x u = t := ⟨(at0 x u).toNat, by omega⟩
      rw [ht] at f1 h3
      have HP := hide (show posC x (k + 1) = t by rw [posC, HU.out, Int.toNat_natCast, ht])
      have HT := hide ht
      clear ht
      by_cases hout : (x.length : Int) ≤ t
      · have HC := hide (cycB_big (allR_of_out hul (by rw [HT.out]; exact hout)))
        go_wp2
        go_ret
        exact Ret.mk (ret_b HC.out.symm) (Ext.refl _)
      · have htl : ¬ (x.length : Int) ≤ t := hout
        cases hz : ((t : Int) == 0) with
        | true =>
          have HC := hide (cycB_ret HXV.out h4 (s := k + 1) (by omega) (by omega) (by rw [HP.out]; rw [beq_iff_eq] at hz; exact hz) (fun j h0 hj => HNO.out j h0 (by omega)) (fun j hj => HBD.out j (by omega)))
          cases hd : ((k : Int) + 1 == (x.length : Int)) with
          | true =>
            have HE := hide (show decide (k + 1 = x.length) = true by rw [beq_iff_eq] at hd; simp; omega)
            go_wp2
            go_ret
            exact Ret.mk (ret_b (HC.out.trans HE.out).symm) (Ext.refl _)
          | false =>
            have HE := hide (show decide (k + 1 = x.length) = false by rw [beq_eq_false_iff_ne] at hd; simp; omega)
            go_wp2
            go_ret
            exact Ret.mk (ret_b (HC.out.trans HE.out).symm) (Ext.refl _)
        | false =>
          have HZ := hide hz
          go_wp2
          go_round
          case rel => exact ⟨k + 1, t, by omega, by go_num, rfl, HP.out, by omega, fun j h0 hj => by
            by_cases e : j = k + 1
            · subst e; rw [HP.out]; have := HZ.out; rw [beq_eq_false_iff_ne] at this; exact this
            · exact HNO.out j h0 (by omega), fun j hj => by
            by_cases e : j = k + 1
            · subst e; rw [HP.out]; omega
            · exact HBD.out j (by omega)⟩
          case measure => simp [intOf]; omega
    · obtain rfl : k = x.length := by omega
      have hkI : ¬ ((x.length : Int) + 1 ≤ x.length) := by omega
      have HC := hide (cycB_none HNO.out h1)
      go_wp2
      go_ret
      exact Ret.mk (ret_b HC.out.symm) (Ext.refl _)
end Go.Proofs.Ytpnlambndbfenaa
