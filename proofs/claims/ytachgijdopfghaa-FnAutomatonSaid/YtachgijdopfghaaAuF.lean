/- Draws of automata: an automaton in the making. -/
import Derived.Test.YtachgijdopfghaaAuE
import Derived.Test.YtachgijdopfghaaDrwF
namespace Go.Proofs.Ytachgijdopfghaa
open Go.RowKit

/-- An automaton in the making: it lies in block bc; its rows lie below B, its final states from B on; the result's block beside it. -/
structure AB (w0 : World) (br rb bc B N n m : Nat) (P : Nat → Prop) (lo hi : Int) (W wr : World) (nx fn : Value) : Prop where
  c0 : wr.cell? ⟨bc, 0, none⟩ = some nx
  c1 : wr.cell? ⟨bc, 1, none⟩ = some fn
  fz : ∀ i, wr.frozen? ⟨bc, i, none⟩ = false
  t : LTab (fun k => W.heap.size ≤ k ∧ k < B ∧ k ≠ bc) P wr nx n lo hi
  f : LN B wr fn m (-1) 8
  b0 : W.heap.size ≤ bc
  b1 : bc < B
  b2 : B ≤ wr.heap.size
  r : RB rb 2 wr
  r1 : rb ≠ br
  r2 : rb < W.heap.size
  rd : RdSt w0 br N wr
  kp : Keep (fun k => k ≠ br) W wr
  br0 : br < W.heap.size
  w00 : w0.heap.size ≤ W.heap.size
theorem AB.keep {w0 : World} {br rb bc B N M n m : Nat} {P : Nat → Prop} {lo hi : Int} {W wr w2 : World} {nx fn : Value} (h : AB w0 br rb bc B N n m P lo hi W wr nx fn) (hR : RdSt w0 br M w2) (hK : Keep (fun k => k ≠ br) wr w2) : AB w0 br rb bc B M n m P lo hi W w2 nx fn := by
  have hb : bc ≠ br := by have := h.b0; have := h.br0; omega
  have b1 : bc < wr.heap.size := Nat.lt_of_lt_of_le h.b1 h.b2
  exact ⟨(hK.cell (p := ⟨bc, 0, none⟩) b1 hb).trans h.c0, (hK.cell (p := ⟨bc, 1, none⟩) b1 hb).trans h.c1, fun i => (hK.frz (p := ⟨bc, i, none⟩) b1 hb).trans (h.fz i),
    h.t.keep hK (fun k hk => by have := h.br0; omega), h.f.keep hK (fun k hk => by have := h.br0; have := h.b1; have := h.b0; omega), h.b0, h.b1, Nat.le_trans h.b2 hK.size, h.r.keep hK h.r1, h.r1, h.r2, hR, h.kp.trans hK, h.br0, h.w00⟩
theorem AB.grow {w0 : World} {br rb bc B N n m : Nat} {P : Nat → Prop} {lo hi : Int} {W wr w2 : World} {nx fn : Value} (h : AB w0 br rb bc B N n m P lo hi W wr nx fn) (hx : Ext wr w2) : AB w0 br rb bc B N n m P lo hi W w2 nx fn := h.keep (h.rd.grow hx) (hx.keep _)
/-- The final states were appended to. -/
theorem AB.far1 {w0 : World} {br rb bc B N n m m' : Nat} {P : Nat → Prop} {lo hi : Int} {W wr w1 : World} {nx fn u : Value} (h : AB w0 br rb bc B N n m P lo hi W wr nx fn) (hk : Below B wr w1) (hu : LN B w1 u m' (-1) 8) : AB w0 br rb bc B N n m' P lo hi W (w1.setCell ⟨bc, 1, none⟩ u) nx u := by
  have b0 := h.b0
  have b1 := h.b1
  have b2 := h.b2
  have hbr := h.br0
  have hw0 := h.w00
  have hr2 := h.r2
  have hs := hk.size
  have hbc : bc < wr.heap.size := by omega
  have hk1 : Keep (fun k => k < B) wr w1 := Below.keep12 hk
  have hk2 : Keep (fun k => k < B ∧ k ≠ bc) wr (w1.setCell ⟨bc, 1, none⟩ u) := (hk1.mono (fun k _ hh => hh.1)).set (p := ⟨bc, 1, none⟩) (fun _ hh => hh.2 rfl) u
  exact ⟨(World.cell?_setCell_other _ _ _ _ (by simp)).trans ((hk1.cell (p := ⟨bc, 0, none⟩) hbc b1).trans h.c0), World.cell?_setCell_same' _ _ _ (by rw [(hk1.cell (p := ⟨bc, 1, none⟩) hbc b1).trans h.c1]; rfl),
    fun i => (World.frozen?_setCell ..).trans ((hk1.frz (p := ⟨bc, i, none⟩) hbc b1).trans (h.fz i)), h.t.keep hk2 (fun k hk => ⟨hk.2.1, hk.2.2⟩),
    hu.keep (S := fun k => k ≠ bc) ((Keep.refl _ _).set (p := ⟨bc, 1, none⟩) (fun _ hh => hh rfl) u) (fun k hk => by omega), b0, b1, by simp [World.setCell]; omega, h.r.keep hk2 ⟨by omega, by omega⟩, h.r1, h.r2,
    h.rd.keep hk2 ⟨by omega, by omega⟩ (fun k hk => ⟨by omega, by omega⟩), h.kp.trans9 hk2 (fun k hk _ => ⟨by omega, by omega⟩), hbr, hw0⟩
theorem LTab.lt {S P : Nat → Prop} {w : World} {v : Value} {n : Nat} {lo hi : Int} (h : LTab S P w v n lo hi) : LTab (fun k => S k ∧ k < w.heap.size) P w v n lo hi := by
  obtain ⟨cells, h1, h2, h3⟩ := h
  refine ⟨cells, h1, fun g hg => ⟨h2 g hg, (World.ownsRow.lt h1 g hg).2⟩, fun i hi => ?_⟩
  obtain ⟨cv, a, b, l, cp, m, f, q0, q1, q2, q3, q4, q5, q6⟩ := h3 i hi
  exact ⟨cv, a, b, l, cp, m, f, q0, q1, q2, q3, ⟨q4, q5.lt⟩, q5, q6⟩
theorem AB.start {w0 : World} {br rb N n : Nat} {P : Nat → Prop} {lo hi : Int} {W wr : World} {nx : Value} (ty : TypeId) (ht : LTab (fun k => W.heap.size ≤ k) P wr nx n lo hi) (hr : RB rb 2 W) (hrb : rb ≠ br) (hr2 : rb < W.heap.size) (hR : RdSt w0 br N wr) (hK : Keep (fun k => k ≠ br) W wr) (hbr : br < W.heap.size) (hw0 : w0.heap.size ≤ W.heap.size) :
    AB w0 br rb wr.heap.size (wr.heap.size + 1) N n 0 P lo hi W (wr.alloc (.cells #[nx, .slice none 0 0] ty)) nx (.slice none 0 0) := by
  have hx : Ext wr (wr.alloc (.cells #[nx, .slice none 0 0] ty)) := (Ext.refl wr).alloc _
  have hs := hK.size
  exact ⟨World.cell?_alloc_at _ _ _ _ rfl, World.cell?_alloc_at _ _ _ _ rfl, fun i => World.frozen?_alloc_new _ _ _ _, (ht.lt.ext hx).mono (fun k hk => by omega) (fun _ h => h) (Int.le_refl _) (Int.le_refl _), .inl ⟨rfl, rfl⟩, hs, by omega, by simp, (hr.keep hK hrb).keep (hx.keep (fun _ => True)) trivial, hrb, hr2, hR.grow hx, hK.trans (hx.keep _), hbr, hw0⟩
/-- A number was written into a row. -/
theorem AB.setn {w0 : World} {br rb bc B N n m : Nat} {P : Nat → Prop} {lo hi : Int} {W wr : World} {nx fn : Value} (h : AB w0 br rb bc B N n m P lo hi W wr nx fn) {b m' : Nat} {f : Nat → Value} (hr : wr.rowIs b 3 m' f) (hb : W.heap.size ≤ b ∧ b < B ∧ b ≠ bc) (t : Nat) {x : Int} (hx : lo ≤ x ∧ x ≤ hi) : AB w0 br rb bc B N n m P lo hi W (wr.setCell ⟨b, t, none⟩ (.int .i64 x)) nx fn := by
  have b0 := h.b0
  have b1 := h.b1
  have b2 := h.b2
  have hbr := h.br0
  have hw0 := h.w00
  have hr2 := h.r2
  obtain ⟨hb1, hb2, hb3⟩ := hb
  have hbc : bc < wr.heap.size := by omega
  have hk : Keep (fun k => k ≠ b) wr (wr.setCell ⟨b, t, none⟩ (.int .i64 x)) := (Keep.refl _ _).set (p := ⟨b, t, none⟩) (fun _ hh => hh rfl) _
  exact ⟨(hk.cell (p := ⟨bc, 0, none⟩) hbc (Ne.symm hb3)).trans h.c0, (hk.cell (p := ⟨bc, 1, none⟩) hbc (Ne.symm hb3)).trans h.c1,
    fun i => (hk.frz (p := ⟨bc, i, none⟩) hbc (Ne.symm hb3)).trans (h.fz i), h.t.setn hr t hx, h.f.keep hk (fun k hk => by omega), b0, b1, by simp [World.setCell]; omega, h.r.keep hk (by omega), h.r1, h.r2,
    h.rd.keep hk (by omega) (fun k hk => by omega), h.kp.trans9 hk (fun k hk _ => by omega), hbr, hw0⟩
theorem AB.rdN {w0 : World} {br rb bc B N M n m : Nat} {P : Nat → Prop} {lo hi : Int} {W wr : World} {nx fn : Value} (h : AB w0 br rb bc B N n m P lo hi W wr nx fn) (hM : N ≤ M) : AB w0 br rb bc B M n m P lo hi W wr nx fn := h.keep (h.rd.mono hM) (Keep.refl _ _)
/-- An automaton came: its rows are told by P, lo and 5; at most nm rows, at most fm final states. -/
def AGot (P : Nat → Prop) (lo : Int) (nm fm : Nat) (w0 : World) (br N : Nat) (W : World) (e : Ending) (W' : World) : Prop :=
  ∃ nx fn n m B, e = .returned (.agg #[nx, fn]) ∧ 1 ≤ n ∧ n ≤ nm ∧ m ≤ fm ∧ W.heap.size ≤ B ∧ B ≤ W'.heap.size ∧ LTab (fun k => W.heap.size ≤ k ∧ k < B) P W' nx n lo 5 ∧ LN B W' fn m (-1) 8 ∧ RdSt w0 br N W' ∧ Keep (fun k => k ≠ br) W W'
theorem AB.done {w0 : World} {br bc B N n m nm fm : Nat} {P : Nat → Prop} {lo : Int} {W Wb wr w' : World} {nx fn : Value} (h : AB w0 br W.heap.size bc B N n m P lo 5 Wb wr nx fn) (hx : Ext W Wb) (hs : Wb.heap.size = W.heap.size + 1) (hk : Keep (fun k => k ≠ W.heap.size) wr w') (hbr : br < W.heap.size) (hw : w0.heap.size ≤ W.heap.size) (h1 : 1 ≤ n) (h2 : n ≤ nm) (h3 : m ≤ fm) :
    AGot P lo nm fm w0 br N W (.returned (.agg #[nx, fn])) w' := by
  have b0 := h.b0
  have b1 := h.b1
  exact ⟨nx, fn, n, m, B, rfl, h1, h2, h3, by omega, Nat.le_trans h.b2 hk.size, (h.t.keep hk (fun k hk => by omega)).mono (fun k hk => by omega) (fun _ h => h) (Int.le_refl _) (Int.le_refl _), h.f.keep hk (fun k hk => by omega), h.rd.keep hk (by omega) (fun k hk => by omega),
    ((hx.keep _).trans h.kp).trans9 hk (fun k hk _ => by omega)⟩
set_option maxRecDepth 100000 in
set_option maxHeartbeats 8000000 in
theorem automaton_any (w0 : World) (br N : Nat) (W : World) (hN : N ≤ 70000) (hR : RdSt w0 br N W) :
    Calls Try.prog 36 #[.pointer (some ⟨br, 0, none⟩)] W (AGot (fun l => l = 6) (-1) 4 4 w0 br (N + 60) W) := by
  have HR := hide hR
  have hbr := hR.lt
  have hw0 := hR.ext.size
  clear hR
  go_enter Try.func36, Try.ntmps36
  go_wp2_with fail
  refine (pick_any w0 br N 4 _ (by omega) (by omega) (by omega) (HR.out.grow ((Ext.refl W).alloc _))).mono ?_
  rintro e W1 ⟨k, k0, k1, rfl, hR1, hK1⟩
  have HR1 := hide hR1
  obtain ⟨Wb, hxb, hsb, hbb, hK1⟩ : ∃ Wb, Ext W Wb ∧ Wb.heap.size = W.heap.size + 1 ∧ RB W.heap.size 2 Wb ∧ Keep (fun k => k ≠ br) Wb W1 := by
    refine ⟨_, (Ext.refl W).alloc _, by simp, ⟨by simp, fun i => World.frozen?_alloc_new _ _ _ _, fun i hi => ?_⟩, hK1⟩
    obtain rfl | rfl : i = 0 ∨ i = 1 := by omega
    all_goals exact ⟨_, World.cell?_alloc_at _ _ _ _ rfl⟩
  have HXB := hide hxb
  have HSB := hide hsb
  have HBB := hide hbb
  have hsz0 : W.heap.size + 1 ≤ Wb.heap.size := by omega
  have HK1 := hide hK1
  have hz1 := hK1.size
  have hwk : IntKind.i64.wrap (1 + k) = 1 + k := IntWalk.i64_in _ (by omega)
  clear hR1 hK1 hxb hsb hbb
  go_wp2_with fail
  obtain ⟨k', rfl⟩ : ∃ k' : Nat, k = k' := ⟨k.toNat, by omega⟩
  have hsv := randomAutomaton_any w0 br (N + 1) (k' + 1) _ (by omega) (by omega) (by omega) HR1.out
  rw [show ((k' + 1 : Nat) : Int) = 1 + (k' : Int) by omega] at hsv
  refine hsv.mono ?_
  clear hsv
  rintro e W3 ⟨nx, rs, rfl, hrl, hA, h6, hR3, hK3⟩
  obtain ⟨n, hn⟩ : ∃ n, n = k' + 1 := ⟨_, rfl⟩
  have hT := hA.ltab h6
  rw [hrl, ← hn] at hT
  have hn1 : 1 ≤ n := by omega
  have hn4 : n ≤ 4 := by omega
  have HT := hide hT
  have HR3 := hide (hR3.mono (M := N + 55) (by omega))
  have HK3 := hide (HK1.out.trans hK3)
  have hz3 := hK3.size
  obtain ⟨An, cn, hv, hcn⟩ := hT.form
  subst hv
  clear hrl hA h6 hR3 hK3 hT hn hwk HR1 HK1 k0 k1
  go_wp2_with fail
  go_loopw [4] (fun i wr => ∃ (j m : Nat) (fn : Value), i = .int .i64 j ∧ j ≤ n ∧ m ≤ j ∧ AB w0 br W.heap.size W3.heap.size (W3.heap.size + 1) (N + 55 + j) n m (fun l => l = 6) (-1) 5 Wb wr (.slice An n cn) fn) (fun i _ => n - (intOf i).toNat)
  case atStart => exact ⟨0, 0, _, rfl, Nat.zero_le _, Nat.le_refl _, AB.start _ (HT.out.mono (fun k hk => by have := HSB.out; omega) (fun _ h => h) (Int.le_refl _) (Int.le_refl _)) HBB.out (by omega) (by omega) HR3.out HK3.out (by omega) (by omega)⟩
  case round =>
    obtain ⟨j, m, fn, rfl, hj, hmj, hB⟩ := hrel
    obtain ⟨A2, e2, rfl, hme⟩ := hB.f.form
    have HB := hide hB
    have k0 := hB.c0
    have k1 := hB.c1
    have q0 := hB.fz 0
    have q1 := hB.fz 1
    have hbc : W3.heap.size < wr.heap.size := by have := hB.b2; omega
    have hbn : W3.heap.size ≠ br := by have := HK3.out.size; omega
    clear hB
    by_cases hjn : j < n
    · have hjI : (j : Int) < n := by omega
      go_wp2_with fail
      refine (pick_any w0 br (N + 55 + j) 3 _ (by omega) (by omega) (by omega) HB.out.rd).mono ?_
      rintro e W5 ⟨z, zz0, zz1, rfl, hR5, hK5⟩
      have h50 := (hK5.cell (p := ⟨W3.heap.size, 0, none⟩) hbc hbn).trans k0
      have h51 := (hK5.cell (p := ⟨W3.heap.size, 1, none⟩) hbc hbn).trans k1
      have r50 := (hK5.frz (p := ⟨W3.heap.size, 0, none⟩) hbc hbn).trans q0
      have r51 := (hK5.frz (p := ⟨W3.heap.size, 1, none⟩) hbc hbn).trans q1
      have hs5 := hK5.size
      have hl5 := Nat.lt_of_lt_of_le hbc hs5
      have HC5 := hide (HB.out.keep hR5 hK5)
      clear hR5 hK5 k0 k1 q0 q1 HB
      by_cases hz : z = 0
      · subst hz
        go_wp2_with (at_builtin; go_must (refine wpList_appLN _ rfl _ _ rfl (W3.heap.size + 1) (.slice A2 m e2) m (-1) 8 (j : Int) W5.heap.size 1 rfl rfl (HC5.out.f.ext ((Ext.refl _).alloc _)) (World.cell?_alloc_at _ _ _ _ rfl) (by omega) (by omega) (by simp; omega) ?_); intro v' W6 hL6 hb6; obtain ⟨g6, cap6, hv6, -, -, -⟩ := hL6.form; subst hv6; have HL6 := hide hL6; have HB6 := hide hb6; have h61 := ((Below.keep12 hb6).cell (p := ⟨W3.heap.size, 1, none⟩) (by simp; omega) (by show W3.heap.size < W3.heap.size + 1; omega)).trans ((((Ext.refl W5).alloc (.cells #[.int .i64 (j : Int)] 3)).cells _ _ hl5).trans h51); have r61 := ((Below.keep12 hb6).frz (p := ⟨W3.heap.size, 1, none⟩) (by simp; omega) (by show W3.heap.size < W3.heap.size + 1; omega)).trans ((((Ext.refl W5).alloc (.cells #[.int .i64 (j : Int)] 3)).frz _ _ hl5).trans r51); clear hL6 hb6)
        go_roundw
        case rel => exact ⟨j + 1, m + 1, _, by go_num, by omega, by omega, (((HC5.out.grow ((Ext.refl _).alloc _)).far1 HB6.out (.inr HL6.out)).rdN (by omega))⟩
        case measure => simp [intOf]; omega
      · have hzb : (z == 0) = false := by simp [hz]
        go_wp2_with fail
        go_roundw
        case rel => exact ⟨j + 1, m, _, by go_num, by omega, by omega, HC5.out.rdN (by omega)⟩
        case measure => simp [intOf]; omega
    · obtain rfl : n = j := by omega
      have hjI : ¬ ((n : Int) < n) := by omega
      go_wp2_with fail
      refine (pick_any w0 br (N + 55 + n) 3 _ (by omega) (by omega) (by omega) HB.out.rd).mono ?_
      rintro e W5 ⟨z, zz0, zz1, rfl, hR5, hK5⟩
      have h50 := (hK5.cell (p := ⟨W3.heap.size, 0, none⟩) hbc hbn).trans k0
      have h51 := (hK5.cell (p := ⟨W3.heap.size, 1, none⟩) hbc hbn).trans k1
      have hs5 := hK5.size
      have hl5 := Nat.lt_of_lt_of_le hbc hs5
      have hC5 := HB.out.keep hR5 hK5
      obtain ⟨hrl5, ⟨u0, u1, hu0, hu1, hy0, hy1⟩⟩ := hC5.r.two
      have HC5 := hide (hC5.rdN (M := N + 60) (by omega))
      clear hR5 hK5 k0 k1 q0 q1 HB hC5
      by_cases hz : z = 0
      · subst hz
        go_wp2_with fail
        clear hu0 hu1 hy0 hy1 h50 h51 hs5 hrl5 hl5
        go_loopw [5] (fun i wr => ∃ s : Nat, i = .int .i64 s ∧ s ≤ n ∧ AB w0 br W.heap.size W3.heap.size (W3.heap.size + 1) (N + 60) n m (fun l => l = 6) (-1) 5 Wb wr (.slice An n cn) (.slice A2 m e2)) (fun i _ => n - (intOf i).toNat)
        case atStart => exact ⟨0, rfl, Nat.zero_le _, HC5.out⟩
        case round =>
          obtain ⟨s, rfl, hs, hB⟩ := hrel
          have k0 := hB.c0
          have k1 := hB.c1
          have hbc : W3.heap.size < wr.heap.size := by have := hB.b2; omega
          obtain ⟨hrl5, ⟨u0, u1, hu0, hu1, hy0, hy1⟩⟩ := hB.r.two
          have HB := hide hB
          clear hB HC5
          by_cases hsn : s < n
          · have hsI : (s : Int) < n := by omega
            go_wp2_with fail
            clear k0 k1 hbc hrl5 hu0 hu1 hy0 hy1
            go_loopw [6] (fun i wr => ∃ t : Nat, i = .int .i64 t ∧ 2 ≤ t ∧ t ≤ 6 ∧ AB w0 br W.heap.size W3.heap.size (W3.heap.size + 1) (N + 60) n m (fun l => l = 6) (-1) 5 Wb wr (.slice An n cn) (.slice A2 m e2)) (fun i _ => 6 - (intOf i).toNat)
            case atStart => exact ⟨2, rfl, Nat.le_refl _, by omega, HB.out⟩
            case round =>
              obtain ⟨t, rfl, ht2, ht6, hB⟩ := hrel
              have k0 := hB.c0
              have hbc : W3.heap.size < wr.heap.size := by have := hB.b2; omega
              obtain ⟨g, cap, b, l, cp, m', f, hv, hnc, hSg, hgl, hgb, hgc, hgz, rfl, hlc, hlm, hSb, hbl, hrow, hf⟩ := hB.t.row hsn
              injection hv with hv1 hv2 hv3
              subst hv1 hv3
              have HB := hide hB
              clear hB hv2
              by_cases ht : t < 6
              · obtain ⟨x, hx0, hx1, hx2⟩ := hf (t % 2) (by omega)
                have hc : wr.cell? ⟨b, t % 2, none⟩ = some (.int .i64 x) := (hrow.cell (i := t % 2) (by omega)).trans (congrArg some hx0)
                have HRW := hide hrow
                clear hrow hf hx0
                obtain rfl | rfl | rfl | rfl : t = 2 ∨ t = 3 ∨ t = 4 ∨ t = 5 := by omega
                all_goals
                  go_wp2_with fail
                  refine wp_region_ext_tail 16 (by kernel_rfl) (by kernel_rfl) ?_
                  simp only [List.take_succ_cons, List.take_zero, List.drop_succ_cons, List.drop_zero]
                  iterate 16 (apply quiet_val; (focus rfl); (focus (intro w' hw'; have hk' := hw'.cells; go_simp; all_goals exact rfl)); simp only [Act.put, List.setIfInBounds_toArray, List.set_cons_succ, List.set_cons_zero])
                  refine wpQuiet_nil ?_
                  intro w6 hx6
                  have hr6 := hx6.row HRW.out
                  have z62 := hr6.frozen 2
                  have z63 := hr6.frozen 3
                  have z64 := hr6.frozen 4
                  have z65 := hr6.frozen 5
                  have u62 := hr6.cell (i := 2) (by omega)
                  have u63 := hr6.cell (i := 3) (by omega)
                  have u64 := hr6.cell (i := 4) (by omega)
                  have u65 := hr6.cell (i := 5) (by omega)
                  have HR6 := hide hr6
                  clear hr6
                  go_wp2_with fail
                  go_roundw
                  case rel =>
                    have hh := (HB.out.grow hx6).setn HR6.out hSb
                    first
                      | exact ⟨3, by go_num, by omega, by omega, hh 2 ⟨hx1, hx2⟩⟩
                      | exact ⟨4, by go_num, by omega, by omega, hh 3 ⟨hx1, hx2⟩⟩
                      | exact ⟨5, by go_num, by omega, by omega, hh 4 ⟨hx1, hx2⟩⟩
                      | exact ⟨6, by go_num, by omega, by omega, hh 5 ⟨hx1, hx2⟩⟩
                  case measure => simp [intOf]
              · obtain rfl : t = 6 := by omega
                clear hrow hf
                go_wp2_with fail
                go_roundw
                case rel => exact ⟨s + 1, by go_num, by omega, HB.out⟩
                case measure => simp [intOf]; omega
          · obtain rfl : n = s := by omega
            have hsI : ¬ ((n : Int) < n) := by omega
            go_wp2_with fail
            refine bodyPost_ret (v := .agg #[.slice An n cn, .slice A2 m e2]) (by simp only [results, Try.results36]; go_simp) rfl ?_
            exact HB.out.done HXB.out HSB.out (by (repeat refine Keep.set ?_ (fun _ hh => hh rfl) _); exact Keep.refl _ _) (by omega) (by omega) hn1 hn4 (by omega)
      · have hzb : (z == 0) = false := by simp [hz]
        go_wp2_with fail
        refine bodyPost_ret (v := .agg #[.slice An n cn, .slice A2 m e2]) (by simp only [results, Try.results36]; go_simp) rfl ?_
        exact HC5.out.done HXB.out HSB.out (by (repeat refine Keep.set ?_ (fun _ hh => hh rfl) _); exact Keep.refl _ _) (by omega) (by omega) hn1 hn4 (by omega)
end Go.Proofs.Ytachgijdopfghaa
