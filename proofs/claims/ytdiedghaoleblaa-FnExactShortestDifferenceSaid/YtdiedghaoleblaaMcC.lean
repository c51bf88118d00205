/- The classes of the reference: refine, classes. -/
import Derived.Test.YtdiedghaoleblaaMcW
namespace Go.Proofs.Ytdiedghaoleblaa
open Go.RowKit

/-- The first k numbers are C's, then zeros. -/
def cRow (C : Nat → Nat) (k x : Nat) : Value := if x < k then .int .i64 (C x) else .int .i64 0
/-- Number k is in the making. -/
def cRow1 (C : Nat → Nat) (k y x : Nat) : Value := if x = k then .int .i64 y else cRow C k x
theorem cRow1_done {C : Nat → Nat} {k y : Nat} (h : y = C k) (x : Nat) : cRow1 C k y x = cRow C (k + 1) x := by
  subst h
  unfold cRow1 cRow
  by_cases e : x = k
  · subst e; rw [if_pos rfl, if_pos (by omega)]
  · rw [if_neg e]
    by_cases e2 : x < k
    · rw [if_pos e2, if_pos (by omega)]
    · rw [if_neg e2, if_neg (by omega)]
theorem cRow1_set {C : Nat → Nat} {k y z : Nat} (x : Nat) : (if x = k then Value.int .i64 z else cRow1 C k y x) = cRow1 C k z x := by
  unfold cRow1; by_cases e : x = k <;> simp [e]
/-- A new row of n numbers came. -/
def NewC (n : Nat) (C : Nat → Nat) (w : World) (e : Ending) (w' : World) : Prop := ∃ b, w.heap.size ≤ b ∧ e = .returned (.slice (some ⟨b, 0, none⟩) n n) ∧ w'.rowIs b 3 n (cRow C n) ∧ Ext w w'
theorem NewC.rd {n : Nat} {C : Nat → Nat} {b : Nat} {w' : World} (h : w'.rowIs b 3 n (cRow C n)) : RdC w' (.slice (some ⟨b, 0, none⟩) n n) n C := RdC.of_row h (Nat.le_refl _) (fun s hs => by unfold cRow; rw [if_pos hs])
theorem dn_step {p : Nat → Bool} {k t : Nat} (h : t + 1 ≤ k) : dn p k (k - t) = if p t then t else dn p k (k - (t + 1)) := by
  rw [show k - t = (k - (t + 1)) + 1 by omega, dn, show k - 1 - (k - (t + 1)) = t by omega]
set_option maxHeartbeats 4000000 in
theorem refine_any (vn vf vc : Value) (m : Mc) (C : Nat → Nat) (w : World) (hM : RdM w vn vf m) (hC : RdC w vc m.nx.length C) :
    Calls Try.prog 91 #[.agg #[vn, vf], vc] w (NewC m.nx.length (clS (eC m C)) w) := by
  have HM := hide hM
  have HC := hide hC
  obtain ⟨b, off, c, b2, off2, c2, rfl, rfl, -, -, -, -, -, -, hm⟩ := hM
  obtain ⟨b4, off4, c4, rfl, -, -, -⟩ := hC
  have hn := hm.le
  clear hm
  go_enter Try.func91, Try.ntmps91
  go_wp2_with (at_make; go_must (refine wpList_make_gen _ rfl _ _ 24 rfl 3 (.int .i64 0) 1 8 Try.underlying24 Try.infoI .i64 .i64 m.nx.length rfl rfl (by omega) (by omega) (fun _ => .int .i64 0) (fun i _ => by simp [Value.cells, Nat.mod_one]) ?_); intro w1 hrow hsz hx)
  have m0 : w1.cell? ⟨w.heap.size, 0, none⟩ = some (.slice (some ⟨b, off, none⟩) m.nx.length c) := (hx.cells w.heap.size 0 (by simp)).trans (by go_simp)
  have m1 : w1.cell? ⟨w.heap.size, 1, none⟩ = some (.slice (some ⟨b2, off2, none⟩) m.nx.length c2) := (hx.cells w.heap.size 1 (by simp)).trans (by go_simp)
  have hws : w.heap.size < w1.heap.size := by have := hx.size; simp at this; omega
  have HX1 := hide (((Ext.refl w).alloc _).trans hx)
  simp only [World.size_alloc] at hrow hsz
  rw [Nat.mul_one] at hrow
  have HROW := hide hrow
  clear hx hrow
  go_loopw [6] (fun i wr => ∃ k : Nat, k ≤ m.nx.length ∧ i = .int .i64 k ∧ Ext w wr ∧ wr.rowIs (w.heap.size + 1) 3 m.nx.length (cRow (clS (eC m C)) k) ∧ wr.cell? ⟨w.heap.size, 0, none⟩ = some (.slice (some ⟨b, off, none⟩) m.nx.length c) ∧ wr.cell? ⟨w.heap.size, 1, none⟩ = some (.slice (some ⟨b2, off2, none⟩) m.nx.length c2)) (fun i _ => m.nx.length - (intOf i).toNat)
  case atStart => exact ⟨0, Nat.zero_le _, rfl, HX1.out, HROW.out, m0, m1⟩
  case round =>
    obtain ⟨k, hk, rfl, hxr, hr, m0, m1⟩ := hrel
    obtain ⟨W0, rfl⟩ : ∃ W0, W0 = wr := ⟨wr, rfl⟩
    have HXR := hide hxr
    have HR := hide hr
    by_cases hlt : k < m.nx.length
    · have hkI : (k : Int) < m.nx.length := by omega
      have c0 := hr.cell (i := k) hlt
      have z0 := hr.frozen k
      have hlz := hr.lt
      clear hxr hr
      go_wp2
      go_loopw [7] (fun i wi => ∃ u : Nat, u ≤ k ∧ i = .int .i64 ((u : Int) - 1) ∧ Ext w wi ∧ wi.rowIs (w.heap.size + 1) 3 m.nx.length (cRow1 (clS (eC m C)) k (dn (fun t => eC m C k t) k (k - u))) ∧ wi.cell? ⟨w.heap.size, 0, none⟩ = some (.slice (some ⟨b, off, none⟩) m.nx.length c) ∧ wi.cell? ⟨w.heap.size, 1, none⟩ = some (.slice (some ⟨b2, off2, none⟩) m.nx.length c2)) (fun i _ => (intOf i + 1).toNat)
      case atStart =>
        refine ⟨k, Nat.le_refl _, rfl, HXR.out.set (by simp) _, ?_, ?_, ?_⟩
        · rw [Nat.sub_self]
          refine (HR.out.set k _).congr fun x _ => ?_
          show (if x = k then _ else _) = cRow1 _ k (dn _ k 0) x
          rfl
        · go_simp
        · go_simp
      case round =>
        obtain ⟨u, hu, rfl, hxi, hri, n0, n1⟩ := hrel
        have HXI := hide hxi
        have HRI := hide hri
        have ci := hri.cell (i := k) hlt
        have zi := hri.frozen k
        clear hxi hri
        cases u with
        | zero =>
          have h1 : ¬ ((0 : Nat) : Int) - 1 ≥ 0 := by omega
          go_wp2
          go_roundw
          case rel =>
            refine ⟨k + 1, by omega, by go_num, HXI.out, ?_, n0, n1⟩
            refine HRI.out.congr fun x _ => cRow1_done ?_ x
            rw [Nat.sub_zero, dn_lst _ _ ((eqv_eC m C).rf k)]
            unfold clS
            congr 1
            funext t
            rw [Bool.eq_iff_iff]
            exact ⟨(eqv_eC m C).sy _ _, (eqv_eC m C).sy _ _⟩
          case measure => simp [intOf]; omega
        | succ t =>
          rw [show ((t + 1 : Nat) : Int) - 1 = (t : Int) by omega]
          have h1 : (0 : Int) ≤ (t : Int) := by omega
          have htn : t < m.nx.length := by omega
          go_wp2_with fail
          refine (sameSplit_any _ _ _ m C k t _ (HM.out.ext HXI.out) (HC.out.ext HXI.out) hlt htn).mono ?_
          rintro e w5 ⟨rfl, hx5⟩
          have n0 := (hx5.cells _ _ (by have := HXI.out.size; have := HRI.out.lt; omega)).trans n0
          have n1 := (hx5.cells _ _ (by have := HXI.out.size; have := HRI.out.lt; omega)).trans n1
          have hr5 := hx5.row HRI.out
          have HR5 := hide hr5
          have ci := hr5.cell (i := k) hlt
          have zi := hr5.frozen k
          have HX5 := hide (HXI.out.trans hx5)
          clear hx5 hr5
          cases hq : eC m C k t with
          | true =>
            have HQ := hide hq
            clear hq
            go_wp2
            go_roundw
            case rel =>
              refine ⟨t, by omega, by go_num, HX5.out.set (by simp) _, ?_, ?_, ?_⟩
              · refine (HR5.out.set k _).congr fun x _ => ?_
                rw [dn_step hu, if_pos HQ.out]
                exact cRow1_set x
              · go_simp
              · go_simp
            case measure => simp [intOf]
          | false =>
            have HQ := hide hq
            clear hq
            go_wp2
            go_roundw
            case rel =>
              refine ⟨t, by omega, by go_num, HX5.out, ?_, n0, n1⟩
              rw [dn_step hu, if_neg (by rw [HQ.out]; simp)]
              exact HR5.out
            case measure => simp [intOf]
    · obtain rfl : k = m.nx.length := by omega
      clear hxr hr
      go_wp2
      go_ret
      exact ⟨_, by omega, rfl, HR.out, HXR.out⟩
set_option maxHeartbeats 4000000 in
theorem classesS_any (vn vf : Value) (m : Mc) (w : World) (hM : RdM w vn vf m) : Calls Try.prog 75 #[.agg #[vn, vf]] w (NewC m.nx.length (clF m) w) := by
  have HM := hide hM
  obtain ⟨b, off, c, b2, off2, c2, rfl, rfl, hb, hb2, hc, hc2, hR, hF, hm⟩ := hM
  have HF := hide hF
  have HMM := hide hm
  have hn := hm.le
  clear hm hR hF
  go_enter Try.func75, Try.ntmps75
  go_wp2_with (at_make; go_must (refine wpList_make_gen _ rfl _ _ 24 rfl 3 (.int .i64 0) 1 8 Try.underlying24 Try.infoI .i64 .i64 m.nx.length rfl rfl (by omega) (by omega) (fun _ => .int .i64 0) (fun i _ => by simp [Value.cells, Nat.mod_one]) ?_); intro w1 hrow hsz hx)
  have m0 : w1.cell? ⟨w.heap.size, 0, none⟩ = some (.slice (some ⟨b, off, none⟩) m.nx.length c) := (hx.cells w.heap.size 0 (by simp)).trans (by go_simp)
  have m1 : w1.cell? ⟨w.heap.size, 1, none⟩ = some (.slice (some ⟨b2, off2, none⟩) m.nx.length c2) := (hx.cells w.heap.size 1 (by simp)).trans (by go_simp)
  have HX1 := hide (((Ext.refl w).alloc _).trans hx)
  simp only [World.size_alloc] at hrow hsz
  rw [Nat.mul_one] at hrow
  have HROW := hide hrow
  clear hx hrow
  go_loopw [5] (fun i wr => ∃ k : Nat, k ≤ m.nx.length ∧ i = .int .i64 k ∧ Ext w wr ∧ wr.rowIs (w.heap.size + 1) 3 m.nx.length (cRow (SC m 0) k) ∧ wr.cell? ⟨w.heap.size, 0, none⟩ = some (.slice (some ⟨b, off, none⟩) m.nx.length c) ∧ wr.cell? ⟨w.heap.size, 1, none⟩ = some (.slice (some ⟨b2, off2, none⟩) m.nx.length c2)) (fun i _ => m.nx.length - (intOf i).toNat)
  case atStart => exact ⟨0, Nat.zero_le _, rfl, HX1.out, HROW.out, m0, m1⟩
  case round =>
    obtain ⟨k, hk, rfl, hxr, hr, m0, m1⟩ := hrel
    obtain ⟨W0, rfl⟩ : ∃ W0, W0 = wr := ⟨wr, rfl⟩
    have HXR := hide hxr
    have HR := hide hr
    by_cases hlt : k < m.nx.length
    · have hkI : (k : Int) < m.nx.length := by omega
      have c0 := hr.cell (i := k) hlt
      have z0 := hr.frozen k
      have f0 := (hxr.cells _ _ hb2).trans (HF.out k hlt)
      clear hxr hr
      cases hf : mF m k with
      | true =>
        rw [hf] at f0
        have HFK := hide hf
        clear hf
        go_wp2
        go_roundw
        case rel =>
          refine ⟨k + 1, by omega, by go_num, HXR.out.set (by simp) _, ?_, by go_simp, by go_simp⟩
          refine (HR.out.set k _).congr fun x _ => ?_
          rw [← cRow1_done (C := SC m 0) (k := k) (y := 1) (by simp [SC, HFK.out])]
          rfl
        case measure => simp [intOf]; omega
      | false =>
        rw [hf] at f0
        have HFK := hide hf
        clear hf
        go_wp2
        go_roundw
        case rel =>
          refine ⟨k + 1, by omega, by go_num, HXR.out, ?_, m0, m1⟩
          refine HR.out.congr fun x _ => ?_
          rw [← cRow1_done (C := SC m 0) (k := k) (y := 0) (by simp [SC, HFK.out])]
          unfold cRow1 cRow
          by_cases e : x = k
          · rw [if_pos e, if_neg (by omega)]; rfl
          · rw [if_neg e]
        case measure => simp [intOf]; omega
    · obtain rfl : k = m.nx.length := by omega
      clear hxr hr
      go_wp2
      go_loopw [4, 6] (fun o i wi => ∃ (j bo : Nat), j ≤ m.nx.length ∧ i = .int .i64 j ∧ w.heap.size ≤ bo ∧ o = .slice (some ⟨bo, 0, none⟩) m.nx.length m.nx.length ∧ Ext W0 wi ∧ wi.rowIs bo 3 m.nx.length (cRow (SC m j) m.nx.length)) (fun _ i _ => m.nx.length - (intOf i).toNat)
      case atStart => exact ⟨0, w.heap.size + 1, Nat.zero_le _, rfl, by omega, rfl, Ext.refl _, HR.out⟩
      case round =>
        obtain ⟨j, bo, hj, rfl, hbo, rfl, hxi, hri⟩ := hrel
        have HXI := hide hxi
        have HRI := hide hri
        have n0 := (hxi.cells _ _ (by have := HR.out.lt; omega)).trans m0
        have n1 := (hxi.cells _ _ (by have := HR.out.lt; omega)).trans m1
        clear hxi hri
        by_cases hjl : j < m.nx.length
        · have hjI : (j : Int) < m.nx.length := by omega
          go_wp2_with fail
          refine (refine_any _ _ _ m (SC m j) _ (HM.out.ext (HXR.out.trans HXI.out)) (NewC.rd HRI.out)).mono ?_
          rintro e w5 ⟨b5, hb5, rfl, hr5, hx5⟩
          have HR5 := hide hr5
          have HX5 := hide (HXI.out.trans hx5)
          clear hr5 hx5
          go_wp2
          go_roundw
          case rel => exact ⟨j + 1, b5, by omega, by go_num, by have := HXR.out.size; have := HXI.out.size; omega, rfl, HX5.out, HR5.out⟩
          case measure => simp [intOf]; omega
        · obtain rfl : j = m.nx.length := by omega
          go_wp2
          go_ret
          refine ⟨bo, hbo, rfl, ?_, HXR.out.trans HXI.out⟩
          rw [clF_spec m HMM.out]
          exact HRI.out
end Go.Proofs.Ytdiedghaoleblaa
