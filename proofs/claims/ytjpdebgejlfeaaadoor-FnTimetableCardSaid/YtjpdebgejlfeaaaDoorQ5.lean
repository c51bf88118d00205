/- Draws of the generator: a random task, and tasks. -/
import Derived.Test.YtjpdebgejlfeaaaDoorDrwA
import Derived.Test.YtjpdebgejlfeaaaDoorRdA
namespace Go.Proofs.YtjpdebgejlfeaaaDoor
open Go.RowKit

theorem RdSt.far {w0 : World} {br N : Nat} {W W' : World} {B : Nat} (h : RdSt w0 br N W) (hk : Below B W W') (hb : br < B) : RdSt w0 br N W' :=
  h.keep (S := fun k => k < B) ⟨hk.os, hk.tape, hk.output, hk.size, fun k _ hs => hk.block k hs⟩ hb (fun k hk => by have := h.ge; omega)
set_option maxRecDepth 100000 in
set_option maxHeartbeats 4000000 in
theorem randomTask_any (w0 : World) (br N : Nat) (W : World) (hN : N ≤ 90000) (hR : RdSt w0 br N W) : Calls Tryd.prog 52 #[.pointer (some ⟨br, 0, none⟩)] W (TaskGot w0 br (N + 6) W) := by
  have HR := hide hR
  have hbr := hR.lt
  have hb0 : br ≠ W.heap.size := by omega
  have hlt0 : W.heap.size < W.heap.size + 1 := by omega
  clear hR
  go_enter Tryd.func52, Tryd.ntmps52
  go_wp2_with fail
  refine (pick_any w0 br N 4 _ (by omega) (by omega) (by omega) (HR.out.grow ((Ext.refl W).alloc _))).mono ?_
  rintro e W1 ⟨v, v0, v1, rfl, hR1, hK1⟩
  have HR1 := hide hR1
  have HK1 := hide (show Keep (fun k => k ≠ br) W W1 from (((Ext.refl W).alloc _).keep _).trans hK1)
  have q0 := (hK1.cell (p := ⟨W.heap.size, 0, none⟩) (by simp) (by show W.heap.size ≠ br; omega)).trans (show _ = some (.int .i64 0) by go_simp)
  have q1 := (hK1.cell (p := ⟨W.heap.size, 1, none⟩) (by simp) (by show W.heap.size ≠ br; omega)).trans (show _ = some (.int .i64 0) by go_simp)
  have q2 := (hK1.cell (p := ⟨W.heap.size, 2, none⟩) (by simp) (by show W.heap.size ≠ br; omega)).trans (show _ = some (.int .i64 0) by go_simp)
  have z0 := (hK1.frz (p := ⟨W.heap.size, 0, none⟩) (by simp) (by show W.heap.size ≠ br; omega)).trans (show _ = false by go_simp)
  have z1 := (hK1.frz (p := ⟨W.heap.size, 1, none⟩) (by simp) (by show W.heap.size ≠ br; omega)).trans (show _ = false by go_simp)
  have z2 := (hK1.frz (p := ⟨W.heap.size, 2, none⟩) (by simp) (by show W.heap.size ≠ br; omega)).trans (show _ = false by go_simp)
  have hs1 : W.heap.size < W1.heap.size := by have := hK1.size; simp at this; omega
  clear hR1 hK1
  go_wp2_with fail
  refine (pick_any w0 br (N + 1) 4 _ (by omega) (by omega) (by omega) HR1.out).mono ?_
  rintro e W2 ⟨u, u0, u1, rfl, hR2, hK2⟩
  have HR2 := hide hR2
  have HK2 := hide hK2
  clear hR2 hK2
  go_wp2_with fail
  refine (DomainRangeS_any _ _ _).mono ?_
  rintro e W2' ⟨d, d0, d1, rfl, rfl⟩
  go_wp2_with fail
  refine (pick_any w0 br (N + 1 + 1) 3 _ (by omega) (by omega) (by omega) HR2.out).mono ?_
  rintro e W3 ⟨t, t0, t1, rfl, hR3, hK3⟩
  have HR3 := hide hR3
  have HK3 := hide hK3
  clear hR3 hK3
  by_cases ht : t = 0
  · subst ht
    go_wp2_with fail
    refine (pick_any w0 br (N + 1 + 1 + 1) 63 _ (by omega) (by omega) (by omega) HR3.out).mono ?_
    rintro e W4 ⟨y, y0, y1, rfl, hR4, hK4⟩
    have HR4 := hide hR4
    have HK4 := hide (HK2.out.trans (HK3.out.trans hK4))
    clear hR4 hK4
    go_wp2_with fail
    refine (pick_any w0 br (N + 1 + 1 + 1 + 1) 5 _ (by omega) (by omega) (by omega) HR4.out).mono ?_
    rintro e W5 ⟨a, a0, a1, rfl, hR5, hK5⟩
    have HR5 := hide hR5
    have HK5 := hide (HK4.out.trans hK5)
    clear hR5 hK5
    go_wp2_with fail
    refine (pick_any w0 br (N + 1 + 1 + 1 + 1 + 1) 4 _ (by omega) (by omega) (by omega) HR5.out).mono ?_
    rintro e W6 ⟨c, e0, e1, rfl, hR6, hK6⟩
    have HR6 := hide hR6
    have hK16 := HK5.out.trans hK6
    have q0 := (hK16.cell (p := ⟨W.heap.size, 0, none⟩) hs1 (by show W.heap.size ≠ br; omega)).trans q0
    have q1 := (hK16.cell (p := ⟨W.heap.size, 1, none⟩) hs1 (by show W.heap.size ≠ br; omega)).trans q1
    have q2 := (hK16.cell (p := ⟨W.heap.size, 2, none⟩) hs1 (by show W.heap.size ≠ br; omega)).trans q2
    have z0 := (hK16.frz (p := ⟨W.heap.size, 0, none⟩) hs1 (by show W.heap.size ≠ br; omega)).trans z0
    have z1 := (hK16.frz (p := ⟨W.heap.size, 1, none⟩) hs1 (by show W.heap.size ≠ br; omega)).trans z1
    have z2 := (hK16.frz (p := ⟨W.heap.size, 2, none⟩) hs1 (by show W.heap.size ≠ br; omega)).trans z2
    have hs6 : W.heap.size < W6.heap.size := Nat.lt_of_lt_of_le hs1 hK16.size
    have HK16 := hide hK16
    clear hR6 hK6 hK16
    go_wp2_with fail
    refine bodyPost_ret (v := .agg #[.int .i64 (1 + y), .int .i64 (1 + a), .int .i64 (1 + c)]) (by simp only [results, Tryd.results52]; go_simp) rfl ⟨_, _, _, by omega, by omega, by omega, by omega, by omega, by omega, rfl, ?_, ?_⟩
    · exact HR6.out.keep (S := fun k => k ≠ W.heap.size) ((((Keep.refl _ W6).set (fun _ h => h rfl) _).set (fun _ h => h rfl) _).set (fun _ h => h rfl) _) hb0 (fun k hk => by have := HR.out.ext.size; omega)
    · exact (((HK1.out.trans HK16.out).set (fun h => absurd h (Nat.lt_irrefl _)) _).set (fun h => absurd h (Nat.lt_irrefl _)) _).set (fun h => absurd h (Nat.lt_irrefl _)) _
  · have ht' : (t == 0) = false := by rw [beq_eq_false_iff_ne]; exact ht
    go_wp2_with fail
    refine (pick_any w0 br (N + 1 + 1 + 1) 5 _ (by omega) (by omega) (by omega) HR3.out).mono ?_
    rintro e W5 ⟨a, a0, a1, rfl, hR5, hK5⟩
    have HR5 := hide hR5
    have HK5 := hide ((HK2.out.trans HK3.out).trans hK5)
    clear hR5 hK5
    go_wp2_with fail
    refine (pick_any w0 br (N + 1 + 1 + 1 + 1) 4 _ (by omega) (by omega) (by omega) HR5.out).mono ?_
    rintro e W6 ⟨c, e0, e1, rfl, hR6, hK6⟩
    have HR6 := hide hR6
    have hK16 := HK5.out.trans hK6
    have q0 := (hK16.cell (p := ⟨W.heap.size, 0, none⟩) hs1 (by show W.heap.size ≠ br; omega)).trans q0
    have q1 := (hK16.cell (p := ⟨W.heap.size, 1, none⟩) hs1 (by show W.heap.size ≠ br; omega)).trans q1
    have q2 := (hK16.cell (p := ⟨W.heap.size, 2, none⟩) hs1 (by show W.heap.size ≠ br; omega)).trans q2
    have z0 := (hK16.frz (p := ⟨W.heap.size, 0, none⟩) hs1 (by show W.heap.size ≠ br; omega)).trans z0
    have z1 := (hK16.frz (p := ⟨W.heap.size, 1, none⟩) hs1 (by show W.heap.size ≠ br; omega)).trans z1
    have z2 := (hK16.frz (p := ⟨W.heap.size, 2, none⟩) hs1 (by show W.heap.size ≠ br; omega)).trans z2
    have hs6 : W.heap.size < W6.heap.size := Nat.lt_of_lt_of_le hs1 hK16.size
    have HK16 := hide hK16
    clear hR6 hK6 hK16
    go_wp2_with fail
    refine bodyPost_ret (v := .agg #[.int .i64 (d), .int .i64 (1 + a), .int .i64 (1 + c)]) (by simp only [results, Tryd.results52]; go_simp) rfl ⟨_, _, _, by omega, by omega, by omega, by omega, by omega, by omega, rfl, ?_, ?_⟩
    · refine RdSt.mono ?_ (show N + 1 + 1 + 1 + 1 + 1 ≤ N + 6 by omega)
      exact HR6.out.keep (S := fun k => k ≠ W.heap.size) ((((Keep.refl _ W6).set (fun _ h => h rfl) _).set (fun _ h => h rfl) _).set (fun _ h => h rfl) _) hb0 (fun k hk => by have := HR.out.ext.size; omega)
    · exact (((HK1.out.trans HK16.out).set (fun h => absurd h (Nat.lt_irrefl _)) _).set (fun h => absurd h (Nat.lt_irrefl _)) _).set (fun h => absurd h (Nat.lt_irrefl _)) _
end Go.Proofs.YtjpdebgejlfeaaaDoor
/- Draws of the generator: tasks. -/
namespace Go.Proofs.YtjpdebgejlfeaaaDoor
open Go.RowKit

/-- Tasks and a capacity came. -/
def TasksGot (w0 : World) (br N : Nat) (W : World) (e : Ending) (W' : World) : Prop :=
  ∃ (v : Value) (n : Nat) (c : Int), e = .returned (.tuple #[v, .int .i64 c]) ∧ 1 ≤ n ∧ n ≤ 8 ∧ -1 ≤ c ∧ c ≤ 100 ∧ LR W.heap.size 42 3 W' v n (-1) 100 ∧ RdSt w0 br N W' ∧ Keep (fun k => k ≠ br) W W'
theorem Keep.far {S : Nat → Prop} {a b c : World} (h : Keep S a b) (k : Below a.heap.size b c) : Keep S a c :=
  ⟨k.os.trans h.os, k.tape.trans h.tape, k.output.trans h.output, Nat.le_trans h.size k.size, fun i hi hs => (k.block i hi).trans (h.block i hi hs)⟩
theorem new3 (w : World) (t : TypeId) {s d m lo hi : Int} (hs : lo ≤ s ∧ s ≤ hi) (hd : lo ≤ d ∧ d ≤ hi) (hm : lo ≤ m ∧ m ≤ hi) : ∀ j, j < 1 * 3 → ∃ x : Int, (w.alloc (.cells #[.int .i64 s, .int .i64 d, .int .i64 m] t)).cell? ⟨w.heap.size, j, none⟩ = some (vI x) ∧ lo ≤ x ∧ x ≤ hi := by
  intro j hj
  match j, hj with
  | 0, _ => exact ⟨s, World.cell?_alloc_at _ _ _ _ rfl, hs.1, hs.2⟩
  | 1, _ => exact ⟨d, World.cell?_alloc_at _ _ _ _ rfl, hd.1, hd.2⟩
  | 2, _ => exact ⟨m, World.cell?_alloc_at _ _ _ _ rfl, hm.1, hm.2⟩
theorem newL (w : World) (t : TypeId) (xs : List Int) {lo hi : Int} (h : ∀ x ∈ xs, lo ≤ x ∧ x ≤ hi) : ∀ j, j < xs.length → ∃ x : Int, (w.alloc (.cells (xs.map vI).toArray t)).cell? ⟨w.heap.size, j, none⟩ = some (vI x) ∧ lo ≤ x ∧ x ≤ hi := by
  intro j hj
  refine ⟨xs[j], (World.cell?_alloc_at _ _ _ _ rfl).trans ?_, h _ (List.getElem_mem hj)⟩
  simp [hj]
set_option maxRecDepth 100000 in
set_option maxHeartbeats 8000000 in
theorem anyTasks_any (w0 : World) (br N : Nat) (W : World) (hN : N ≤ 80000) (hR : RdSt w0 br N W) : Calls Tryd.prog 32 #[.pointer (some ⟨br, 0, none⟩)] W (TasksGot w0 br (N + 40) W) := by
  have HR := hide hR
  have hbr := hR.lt
  clear hR
  go_enter Tryd.func32, Tryd.ntmps32
  go_wp2_with fail
  have hL0 := hide (LR.empty 42 3 W (-1) 100)
  refine (pick_any w0 br N 4 _ (by omega) (by omega) (by omega) (HR.out.grow ((Ext.refl W).alloc _))).mono ?_
  rintro e W1 ⟨y, y0, y1, rfl, hR1, hK1⟩
  have HR1 := hide hR1
  have HK1 := hide (show Keep (fun k => k ≠ br) W W1 from (((Ext.refl W).alloc _).keep _).trans hK1)
  have HL1 := hide (hL0.out.keep hK1 (fun k hk => by omega))
  obtain ⟨K, rfl⟩ : ∃ K : Nat, y = K := ⟨y.toNat, by omega⟩
  clear hR1 hK1 hL0
  go_wp2_with fail
  go_loopw [4, 5] (fun o i wr => ∃ n j : Nat, i = .int .i64 j ∧ n + j = 1 + K ∧ LR W.heap.size 42 3 wr o n (-1) 100 ∧ RdSt w0 br (N + 1 + 6 * n) wr ∧ Keep (fun k => k ≠ br) W wr) (fun _ i _ => (intOf i).toNat)
  case atStart => exact ⟨0, 1 + K, by go_num, by omega, HL1.out, HR1.out, HK1.out⟩
  case round =>
    obtain ⟨n, j, rfl, hnj, hL, hRr, hKr⟩ := hrel
    have HL := hide hL
    have HRr := hide hRr
    have HKr := hide hKr
    obtain ⟨g, cap, rfl, hg, hgl, hcap⟩ := hL.form
    have hsz := hKr.size
    clear hL hRr hKr
    by_cases hj : 0 < j
    · go_wp2_with fail
      refine (randomTask_any w0 br (N + 1 + 6 * n) _ (by omega) HRr.out).mono ?_
      rintro e W2 ⟨s, d, m, s0, s1, d0, d1, m0, m1, rfl, hR2, hK2⟩
      have HR2 := hide hR2
      have HK2 := hide hK2
      have HL2 := hide (HL.out.keep hK2 (fun k hk => by omega))
      have hsz2 := hK2.size
      clear hR2 hK2
      go_wp2_with (at_builtin; go_must (refine wpList_appLT _ rfl _ _ rfl W.heap.size (.slice (some ⟨g, 0, none⟩) n cap) n 1 (-1) 100 W2.heap.size 1 rfl rfl (HL2.out.ext ((Ext.refl _).alloc _)) (by omega) (new3 W2 _ (by omega) (by omega) (by omega)) (by omega) (by simp; omega) ?_); intro v' W3 hL3 hb3; obtain ⟨g3, cap3, rfl, -, -, -⟩ := hL3.form; have HL3 := hide hL3; have HB3 := hide hb3; clear hL3 hb3)
      go_roundw
      case rel =>
        exact ⟨n + 1, j - 1, by rw [show ((j - 1 : Nat) : Int) = (j : Int) - 1 by omega], by omega, HL3.out, RdSt.mono ((HR2.out.grow ((Ext.refl _).alloc _)).far HB3.out hbr) (by omega), ((HKr.out.trans HK2.out).alloc _).far HB3.out⟩
      case measure => simp [intOf]; omega
    · obtain rfl : j = 0 := by omega
      go_wp2_with fail
      refine (pick_any w0 br (N + 1 + 6 * n) 5 _ (by omega) (by omega) (by omega) HRr.out).mono ?_
      rintro e W3 ⟨p, p0, p1, rfl, hR3, hK3⟩
      have HR3 := hide hR3
      have HK3 := hide (HKr.out.trans hK3)
      have HL3 := hide (HL.out.keep hK3 (fun k hk => by omega))
      clear hR3 hK3
      go_wp2_with fail
      refine (pick_any w0 br (N + 1 + 6 * n + 1) 20 _ (by omega) (by omega) (by omega) HR3.out).mono ?_
      rintro e W4 ⟨q, qq0, qq1, rfl, hR4, hK4⟩
      have HR4 := hide hR4
      have HK4 := hide (HK3.out.trans hK4)
      have HL4 := hide (HL3.out.keep hK4 (fun k hk => by omega))
      have hsz4 := HK4.out.size
      have hn0 : (0 : Int) < n := by omega
      have hn1 : 1 ≤ n := by omega
      have hn4 : n ≤ 4 := by omega
      clear hR4 hK4
      by_cases hq0 : q = 0
      · subst hq0
        go_wp2_with fail
        refine (one_any w0 br (N + 1 + 6 * n + 1 + 1) (-1) 100 W4.heap.size 3 3 _ (by omega) (by omega) (by omega) (HR4.out.grow ((Ext.refl _).alloc _)) (by simp) (by have := HR4.out.lt; omega) (newL W4 _ [0, 64, -1] (by intro x hx; simp at hx; omega)) (Nat.le_refl _)).mono ?_
        rintro e W5 ⟨z, zz0, zz1, rfl, hR5, hK5⟩
        have HR5 := hide hR5
        have hK45 := hide (show Keep (fun k => k ≠ br) W4 W5 from (((Ext.refl W4).alloc _).keep _).trans hK5)
        clear hR5 hK5
        have hL5 := HL4.out.keep hK45.out (fun k hk => by omega)
        obtain ⟨⟨x0, hx0, -⟩, hz0⟩ := hL5.cell (i := 0) (by omega)
        have HE := hide (show TasksGot w0 br (N + 40) W (.returned (.tuple #[.slice (some ⟨g, 0, none⟩) n cap, .int .i64 (2 + p)])) (W5.setCell ⟨g, 0, none⟩ (.int .i64 z)) from
          ⟨_, n, _, rfl, by omega, by omega, by omega, by omega, hL5.set 0 z ⟨zz0, zz1⟩, RdSt.mono (HR5.out.keep (S := fun k => k < W.heap.size) ((Keep.refl _ W5).set (fun _ h => by have h : g < W.heap.size := h; omega) _) hbr (fun k hk => by have := HR.out.ext.size; omega)) (by omega),
            (HK4.out.trans hK45.out).set (fun h => by have h : g < W.heap.size := h; omega) _⟩)
        clear hL5
        go_wp2_with fail
        go_ret2
        exact HE.out
      by_cases hq1 : q = 1
      · subst hq1
        go_wp2_with fail
        refine (one_any w0 br (N + 1 + 6 * n + 1 + 1) (-1) 100 W4.heap.size 2 2 _ (by omega) (by omega) (by omega) (HR4.out.grow ((Ext.refl _).alloc _)) (by simp) (by have := HR4.out.lt; omega) (newL W4 _ [0, 7] (by intro x hx; simp at hx; omega)) (Nat.le_refl _)).mono ?_
        rintro e W5 ⟨z, zz0, zz1, rfl, hR5, hK5⟩
        have HR5 := hide hR5
        have hK45 := hide (show Keep (fun k => k ≠ br) W4 W5 from (((Ext.refl W4).alloc _).keep _).trans hK5)
        clear hR5 hK5
        have hL5 := HL4.out.keep hK45.out (fun k hk => by omega)
        obtain ⟨⟨x0, hx0, -⟩, hz0⟩ := hL5.cell (i := 1) (by omega)
        have HE := hide (show TasksGot w0 br (N + 40) W (.returned (.tuple #[.slice (some ⟨g, 0, none⟩) n cap, .int .i64 (2 + p)])) (W5.setCell ⟨g, 1, none⟩ (.int .i64 z)) from
          ⟨_, n, _, rfl, by omega, by omega, by omega, by omega, hL5.set 1 z ⟨zz0, zz1⟩, RdSt.mono (HR5.out.keep (S := fun k => k < W.heap.size) ((Keep.refl _ W5).set (fun _ h => by have h : g < W.heap.size := h; omega) _) hbr (fun k hk => by have := HR.out.ext.size; omega)) (by omega),
            (HK4.out.trans hK45.out).set (fun h => by have h : g < W.heap.size := h; omega) _⟩)
        clear hL5
        go_wp2_with fail
        go_ret2
        exact HE.out
      by_cases hq2 : q = 2
      · subst hq2
        go_wp2_with fail
        refine (one_any w0 br (N + 1 + 6 * n + 1 + 1) (-1) 100 W4.heap.size 4 4 _ (by omega) (by omega) (by omega) (HR4.out.grow ((Ext.refl _).alloc _)) (by simp) (by have := HR4.out.lt; omega) (newL W4 _ [-1, 10, 9, 0] (by intro x hx; simp at hx; omega)) (Nat.le_refl _)).mono ?_
        rintro e W5 ⟨z, zz0, zz1, rfl, hR5, hK5⟩
        have HR5 := hide hR5
        have hK45 := hide (show Keep (fun k => k ≠ br) W4 W5 from (((Ext.refl W4).alloc _).keep _).trans hK5)
        clear hR5 hK5
        have hL5 := HL4.out.keep hK45.out (fun k hk => by omega)
        obtain ⟨⟨x0, hx0, -⟩, hz0⟩ := hL5.cell (i := 2) (by omega)
        have HE := hide (show TasksGot w0 br (N + 40) W (.returned (.tuple #[.slice (some ⟨g, 0, none⟩) n cap, .int .i64 (2 + p)])) (W5.setCell ⟨g, 2, none⟩ (.int .i64 z)) from
          ⟨_, n, _, rfl, by omega, by omega, by omega, by omega, hL5.set 2 z ⟨zz0, zz1⟩, RdSt.mono (HR5.out.keep (S := fun k => k < W.heap.size) ((Keep.refl _ W5).set (fun _ h => by have h : g < W.heap.size := h; omega) _) hbr (fun k hk => by have := HR.out.ext.size; omega)) (by omega),
            (HK4.out.trans hK45.out).set (fun h => by have h : g < W.heap.size := h; omega) _⟩)
        clear hL5
        go_wp2_with fail
        go_ret2
        exact HE.out
      by_cases hq3 : q = 3
      · subst hq3
        go_wp2_with fail
        refine (one_any w0 br (N + 1 + 6 * n + 1 + 1) (-1) 100 W4.heap.size 4 4 _ (by omega) (by omega) (by omega) (HR4.out.grow ((Ext.refl _).alloc _)) (by simp) (by have := HR4.out.lt; omega) (newL W4 _ [-1, 10, 0, 9] (by intro x hx; simp at hx; omega)) (Nat.le_refl _)).mono ?_
        rintro e W5 ⟨z, zz0, zz1, rfl, hR5, hK5⟩
        have HR5 := hide hR5
        have hK45 := hide (show Keep (fun k => k ≠ br) W4 W5 from (((Ext.refl W4).alloc _).keep _).trans hK5)
        clear hR5 hK5
        have HE := hide (show TasksGot w0 br (N + 40) W (.returned (.tuple #[.slice (some ⟨g, 0, none⟩) n cap, .int .i64 z])) W5 from
          ⟨_, n, _, rfl, by omega, by omega, zz0, zz1, HL4.out.keep hK45.out (fun k hk => by omega), RdSt.mono HR5.out (by omega), HK4.out.trans hK45.out⟩)
        go_wp2_with fail
        go_ret2
        exact HE.out
      by_cases hq4 : q = 4
      · subst hq4
        go_wp2_with (at_builtin; go_must (refine wpList_appLT _ rfl _ _ rfl W.heap.size (.slice (some ⟨g, 0, none⟩) n cap) n n (-1) 100 g cap rfl rfl HL4.out (by omega) (fun j hj => (HL4.out.cell hj).1.elim fun x h => ⟨x, h⟩) (by omega) (by omega) ?_); intro v' W6 hL6 hb6; obtain ⟨g6, cap6, hv6, -, -, -⟩ := hL6.form; subst hv6; have HL6 := hide hL6; have HB6 := hide hb6; clear hL6 hb6)
        have HE := hide (show TasksGot w0 br (N + 40) W (.returned (.tuple #[.slice (some ⟨g6, 0, none⟩) (n + n) cap6, .int .i64 (2 + p)])) W6 from
          ⟨_, n + n, _, rfl, by omega, by omega, by omega, by omega, HL6.out, RdSt.mono (HR4.out.far HB6.out hbr) (by omega), HK4.out.far HB6.out⟩)
        go_ret2
        exact HE.out
      · have b0 : (q == 0) = false := by rw [beq_eq_false_iff_ne]; exact hq0
        have b1 : (q == 1) = false := by rw [beq_eq_false_iff_ne]; exact hq1
        have b2 : (q == 2) = false := by rw [beq_eq_false_iff_ne]; exact hq2
        have b3 : (q == 3) = false := by rw [beq_eq_false_iff_ne]; exact hq3
        have b4 : (q == 4) = false := by rw [beq_eq_false_iff_ne]; exact hq4
        have HE := hide (show TasksGot w0 br (N + 40) W (.returned (.tuple #[.slice (some ⟨g, 0, none⟩) n cap, .int .i64 (2 + p)])) W4 from
          ⟨_, n, _, rfl, by omega, by omega, by omega, by omega, HL4.out, RdSt.mono HR4.out (by omega), HK4.out⟩)
        clear hq0 hq1 hq2 hq3 hq4
        go_wp2_with fail
        go_ret2
        exact HE.out
end Go.Proofs.YtjpdebgejlfeaaaDoor
/- Draws of the generator: starts. -/
namespace Go.Proofs.YtjpdebgejlfeaaaDoor
open Go.RowKit

end Go.Proofs.YtjpdebgejlfeaaaDoor
