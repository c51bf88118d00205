/- Draws of the generator: a random task, and tasks. -/
import Derived.Test.YtkjbefokgmiehaaDoorDrwA
namespace Go.Proofs.YtkjbefokgmiehaaDoor
open Go.RowKit

theorem RdSt.far {w0 : World} {br N : Nat} {W W' : World} {B : Nat} (h : RdSt w0 br N W) (hk : Below B W W') (hb : br < B) : RdSt w0 br N W' :=
  h.keep (S := fun k => k < B) ⟨hk.os, hk.tape, hk.output, hk.size, fun k _ hs => hk.block k hs⟩ hb (fun k hk => by have := h.ge; omega)
set_option maxRecDepth 100000 in
set_option maxHeartbeats 4000000 in
theorem randomTask_any (w0 : World) (br N : Nat) (W : World) (hN : N ≤ 90000) (hR : RdSt w0 br N W) : Calls Tryd.prog 21 #[.pointer (some ⟨br, 0, none⟩)] W (TaskGot w0 br (N + 6) W) := by
  have HR := hide hR
  have hbr := hR.lt
  have hb0 : br ≠ W.heap.size := by omega
  have hlt0 : W.heap.size < W.heap.size + 1 := by omega
  clear hR
  go_enter Tryd.func21, Tryd.ntmps21
  go_wp2_with fail
  refine (pick_any w0 br N 4 _ (by omega) (by omega) (by omega) (HR.out.grow ((Ext.refl W).alloc _))).mono ?_
  rintro e W1 ⟨v, v0, v1, rfl, hR1, hK1⟩
  have HR1 := hide hR1
  have HK1 := hide (show Keep (fun k => k ≠ br) W W1 from (((Ext.refl W).alloc _).keep _).trans hK1)
  have q0 := (hK1.cell (p := ⟨W.heap.size, 0, none⟩) (by simp) (by show W.heap.size ≠ br; omega)).trans (show _ = some (.int .i64 0) by go_simp)
  have q1 := (hK1.cell (p := ⟨W.heap.size, 1, none⟩) (by simp) (by show W.heap.size ≠ br; omega)).trans (show _ = some (.int .i64 0) by go_simp)
  have q2 := (hK1.cell (p := ⟨W.heap.size, 2, none⟩) (by simp) (by show W.heap.size ≠ br; omega)).trans (show _ = some (.int .i64 0) by go_simp)
  have z0 := (hK1.frz (p := ⟨W.heap.size, 0, none⟩) (by simp) (by show W.heap.size ≠ br; omega)).trans (show _ = false by go_simp)
  have z1 := (hK1.frz (p := ⟨W.heap.size, 1, none⟩) (by simp) (by show W.heap.size ≠ br; omega)).trans (show _ = false by go_simp)
  have z2 := (hK1.frz (p := ⟨W.heap.size, 2, none⟩) (by simp) (by show W.heap.size ≠ br; omega)).trans (show _ = false by go_simp)
  have hs1 : W.heap.size < W1.heap.size := by have := hK1.size; simp at this; omega
  clear hR1 hK1
  go_wp2_with fail
  refine (pick_any w0 br (N + 1) 4 _ (by omega) (by omega) (by omega) HR1.out).mono ?_
  rintro e W2 ⟨u, u0, u1, rfl, hR2, hK2⟩
  have HR2 := hide hR2
  have HK2 := hide hK2
  clear hR2 hK2
  go_wp2_with fail
  refine (DomainRangeS_any _ _ _).mono ?_
  rintro e W2' ⟨d, d0, d1, rfl, rfl⟩
  go_wp2_with fail
  refine (pick_any w0 br (N + 1 + 1) 3 _ (by omega) (by omega) (by omega) HR2.out).mono ?_
  rintro e W3 ⟨t, t0, t1, rfl, hR3, hK3⟩
  have HR3 := hide hR3
  have HK3 := hide hK3
  clear hR3 hK3
  by_cases ht : t = 0
  · subst ht
    go_wp2_with fail
    refine (pick_any w0 br (N + 1 + 1 + 1) 63 _ (by omega) (by omega) (by omega) HR3.out).mono ?_
    rintro e W4 ⟨y, y0, y1, rfl, hR4, hK4⟩
    have HR4 := hide hR4
    have HK4 := hide (HK2.out.trans (HK3.out.trans hK4))
    clear hR4 hK4
    go_wp2_with fail
    refine (pick_any w0 br (N + 1 + 1 + 1 + 1) 5 _ (by omega) (by omega) (by omega) HR4.out).mono ?_
    rintro e W5 ⟨a, a0, a1, rfl, hR5, hK5⟩
    have HR5 := hide hR5
    have HK5 := hide (HK4.out.trans hK5)
    clear hR5 hK5
    go_wp2_with fail
    refine (pick_any w0 br (N + 1 + 1 + 1 + 1 + 1) 4 _ (by omega) (by omega) (by omega) HR5.out).mono ?_
    rintro e W6 ⟨c, e0, e1, rfl, hR6, hK6⟩
    have HR6 := hide hR6
    have hK16 := HK5.out.trans hK6
    have q0 := (hK16.cell (p := ⟨W.heap.size, 0, none⟩) hs1 (by show W.heap.size ≠ br; omega)).trans q0
    have q1 := (hK16.cell (p := ⟨W.heap.size, 1, none⟩) hs1 (by show W.heap.size ≠ br; omega)).trans q1
    have q2 := (hK16.cell (p := ⟨W.heap.size, 2, none⟩) hs1 (by show W.heap.size ≠ br; omega)).trans q2
    have z0 := (hK16.frz (p := ⟨W.heap.size, 0, none⟩) hs1 (by show W.heap.size ≠ br; omega)).trans z0
    have z1 := (hK16.frz (p := ⟨W.heap.size, 1, none⟩) hs1 (by show W.heap.size ≠ br; omega)).trans z1
    have z2 := (hK16.frz (p := ⟨W.heap.size, 2, none⟩) hs1 (by show W.heap.size ≠ br; omega)).trans z2
    have hs6 : W.heap.size < W6.heap.size := Nat.lt_of_lt_of_le hs1 hK16.size
    have HK16 := hide hK16
    clear hR6 hK6 hK16
    go_wp2_with fail
    refine bodyPost_ret (v := .agg #[.int .i64 (1 + y), .int .i64 (1 + a), .int .i64 (1 + c)]) (by simp only [results, Tryd.results21]; go_simp) rfl ⟨_, _, _, by omega, by omega, by omega, by omega, by omega, by omega, rfl, ?_, ?_⟩
    · exact HR6.out.keep (S := fun k => k ≠ W.heap.size) ((((Keep.refl _ W6).set (fun _ h => h rfl) _).set (fun _ h => h rfl) _).set (fun _ h => h rfl) _) hb0 (fun k hk => by have := HR.out.ext.size; omega)
    · exact (((HK1.out.trans HK16.out).set (fun h => absurd h (Nat.lt_irrefl _)) _).set (fun h => absurd h (Nat.lt_irrefl _)) _).set (fun h => absurd h (Nat.lt_irrefl _)) _
  · have ht' : (t == 0) = false := by rw [beq_eq_false_iff_ne]; exact ht
    go_wp2_with fail
    refine (pick_any w0 br (N + 1 + 1 + 1) 5 _ (by omega) (by omega) (by omega) HR3.out).mono ?_
    rintro e W5 ⟨a, a0, a1, rfl, hR5, hK5⟩
    have HR5 := hide hR5
    have HK5 := hide ((HK2.out.trans HK3.out).trans hK5)
    clear hR5 hK5
    go_wp2_with fail
    refine (pick_any w0 br (N + 1 + 1 + 1 + 1) 4 _ (by omega) (by omega) (by omega) HR5.out).mono ?_
    rintro e W6 ⟨c, e0, e1, rfl, hR6, hK6⟩
    have HR6 := hide hR6
    have hK16 := HK5.out.trans hK6
    have q0 := (hK16.cell (p := ⟨W.heap.size, 0, none⟩) hs1 (by show W.heap.size ≠ br; omega)).trans q0
    have q1 := (hK16.cell (p := ⟨W.heap.size, 1, none⟩) hs1 (by show W.heap.size ≠ br; omega)).trans q1
    have q2 := (hK16.cell (p := ⟨W.heap.size, 2, none⟩) hs1 (by show W.heap.size ≠ br; omega)).trans q2
    have z0 := (hK16.frz (p := ⟨W.heap.size, 0, none⟩) hs1 (by show W.heap.size ≠ br; omega)).trans z0
    have z1 := (hK16.frz (p := ⟨W.heap.size, 1, none⟩) hs1 (by show W.heap.size ≠ br; omega)).trans z1
    have z2 := (hK16.frz (p := ⟨W.heap.size, 2, none⟩) hs1 (by show W.heap.size ≠ br; omega)).trans z2
    have hs6 : W.heap.size < W6.heap.size := Nat.lt_of_lt_of_le hs1 hK16.size
    have HK16 := hide hK16
    clear hR6 hK6 hK16
    go_wp2_with fail
    refine bodyPost_ret (v := .agg #[.int .i64 (d), .int .i64 (1 + a), .int .i64 (1 + c)]) (by simp only [results, Tryd.results21]; go_simp) rfl ⟨_, _, _, by omega, by omega, by omega, by omega, by omega, by omega, rfl, ?_, ?_⟩
    · refine RdSt.mono ?_ (show N + 1 + 1 + 1 + 1 + 1 ≤ N + 6 by omega)
      exact HR6.out.keep (S := fun k => k ≠ W.heap.size) ((((Keep.refl _ W6).set (fun _ h => h rfl) _).set (fun _ h => h rfl) _).set (fun _ h => h rfl) _) hb0 (fun k hk => by have := HR.out.ext.size; omega)
    · exact (((HK1.out.trans HK16.out).set (fun h => absurd h (Nat.lt_irrefl _)) _).set (fun h => absurd h (Nat.lt_irrefl _)) _).set (fun h => absurd h (Nat.lt_irrefl _)) _
end Go.Proofs.YtkjbefokgmiehaaDoor
