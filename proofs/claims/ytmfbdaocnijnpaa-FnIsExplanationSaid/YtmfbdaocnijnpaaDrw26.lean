/- Draws of the generator: a constraint and domains that may be invalid; a removal. -/
import Derived.Test.YtmfbdaocnijnpaaDrwB
import Derived.Test.YtmfbdaocnijnpaaRdA
import Derived.Deep.CutBlock
import Derived.Deep.DeepCutAuto
namespace Go.Proofs.Ytmfbdaocnijnpaa
open Go.RowKit

set_option maxRecDepth 100000 in
set_option maxHeartbeats 4000000 in
theorem anyDomain_any (w0 : World) (br N : Nat) (W : World) (hN : N ≤ 70000) (hR : RdSt w0 br N W) :
    Calls Try.prog 54 #[.pointer (some ⟨br, 0, none⟩)] W (Drawn w0 br (N + 5) (-1) 255 W) := by
  have HR := hide hR
  have hbr := hR.lt
  clear hR
  go_enter Try.func54, Try.ntmps54
  go_wp2_with fail
  refine (pick_any w0 br N 10 _ (by omega) (by omega) (by omega) HR.out).mono ?_
  rintro e W1 ⟨k, k0, k1, rfl, hR1, hK1⟩
  have HR1 := hide hR1
  have HK1 := hide hK1
  have hs1 := hK1.size
  clear hR1 hK1
  by_cases hk : k = 0
  · subst hk
    go_wp2_with fail
    refine (one_any w0 br (N + 1) (-1) 255 W1.heap.size 4 4 _ (by omega) (by omega) (by omega) (HR1.out.grow ((Ext.refl W1).alloc _)) (by simp) (by omega) (newL12 W1 3 [0, -1, 64, 255] (by intro x hx; simp at hx; omega)) (Nat.le_refl _)).mono ?_
    rintro e W2 ⟨z, z0, z1, rfl, hR2, hK2⟩
    have HE := hide (show Drawn w0 br (N + 5) (-1) 255 W (.returned (.int .i64 z)) W2 from ⟨z, z0, z1, rfl, hR2.mono (by omega), HK1.out.trans ((((Ext.refl W1).alloc (.cells #[.int .i64 0, .int .i64 (-1), .int .i64 64, .int .i64 255] 3)).keep _).trans hK2)⟩)
    clear hR2 hK2
    go_wp2_with fail
    go_ret
    exact HE.out
  · have hkb : (k == 0) = false := by simp [hk]
    go_wp2_with fail
    refine (randomDomain_any w0 br (N + 1) _ (by omega) HR1.out).mono ?_
    rintro e W2 ⟨z, z0, z1, rfl, hR2, hK2⟩
    have HE := hide (show Drawn w0 br (N + 5) (-1) 255 W (.returned (.int .i64 z)) W2 from ⟨z, by omega, by omega, rfl, hR2.mono (by omega), HK1.out.trans hK2⟩)
    clear hR2 hK2
    go_wp2_with fail
    go_ret
    exact HE.out
/-- A constraint came that may be invalid. -/
def XGot (w0 : World) (br N : Nat) (W : World) (e : Ending) (W' : World) : Prop :=
  ∃ v c, e = .returned v ∧ CV (fun k => W.heap.size ≤ k) W' v c ∧ c.vars.length ≤ 100 ∧ c.args.length ≤ 100 ∧ RdSt w0 br N W' ∧ Keep (fun k => k ≠ br) W W'
theorem XGot.of {w0 : World} {br N M : Nat} {W : World} {e : Ending} {W' : World} (h : CGot w0 br N W e W') (hM : N ≤ M) : XGot w0 br M W e W' := by
  obtain ⟨v, c, h1, h2, h3, h4, h5⟩ := h
  exact ⟨v, c, h1, h3, by omega, by omega, h4.mono hM, h5⟩
set_option maxRecDepth 100000 in
set_option maxHeartbeats 8000000 in
theorem anyConstraint_any (w0 : World) (br N n : Nat) (W : World) (hn1 : 1 ≤ n) (hn4 : n ≤ 4) (hN : N ≤ 60000) (hR : RdSt w0 br N W) :
    Calls Try.prog 55 #[.pointer (some ⟨br, 0, none⟩), .int .i64 n] W (XGot w0 br (N + 110) W) := by
  have HR := hide hR
  have hbr := hR.lt
  have hw0 := hR.ext.size
  clear hR
  go_enter Try.func55, Try.ntmps55
  go_wp2_with fail
  have hsA : (W.alloc (.cells #[.int .i64 0, .slice none 0 0, .slice none 0 0, .int .i64 0, .slice none 0 0] 26)).heap.size = W.heap.size + 1 := by simp
  refine (randomConstraint_any w0 br N n _ hn1 hn4 (by omega) (HR.out.grow ((Ext.refl W).alloc _))).mono ?_
  rintro e W1 ⟨v, c, rfl, hlen, ⟨vv, va, vr, rfl, i1, i2, i3⟩, hR1, hK1⟩
  obtain ⟨A1, e1, hv1, -⟩ := i1.form
  obtain ⟨A3, e3, hv2, -⟩ := i2.form
  obtain ⟨A4, e4, hv3, -⟩ := i3.1.form
  subst hv1 hv2 hv3
  have hs1 : W.heap.size + 1 ≤ W1.heap.size := by have := hK1.size; rw [hsA] at this; exact this
  have HRB := hide (show RB W.heap.size 5 W1 from by
    refine RB.keep (S := fun k => k ≠ br) ⟨by rw [hsA]; omega, fun i => World.frozen?_alloc_new _ _ _ _, fun i hi => ?_⟩ hK1 (by omega)
    obtain rfl | rfl | rfl | rfl | rfl : i = 0 ∨ i = 1 ∨ i = 2 ∨ i = 3 ∨ i = 4 := by omega
    all_goals exact ⟨_, World.cell?_alloc_at _ _ _ _ rfl⟩)
  rw [hsA] at i1 i2 i3
  have hx2 : Ext W1 (W1.alloc (.cells #[.int .i64 c.kk, .slice A1 c.vars.length e1, .slice A3 c.args.length e3, .int .i64 c.bound, .slice A4 c.rows.length e4] 26)) := (Ext.refl W1).alloc _
  obtain ⟨W2, hW2⟩ : ∃ W2, W2 = W1.alloc (.cells #[.int .i64 c.kk, .slice A1 c.vars.length e1, .slice A3 c.args.length e3, .int .i64 c.bound, .slice A4 c.rows.length e4] 26) := ⟨_, rfl⟩
  rw [← hW2] at hx2
  have b0 : W2.cell? ⟨W1.heap.size, 0, none⟩ = some (.int .i64 c.kk) := by rw [hW2]; exact World.cell?_alloc_at _ _ _ _ rfl
  have b1 : W2.cell? ⟨W1.heap.size, 1, none⟩ = some (.slice A1 c.vars.length e1) := by rw [hW2]; exact World.cell?_alloc_at _ _ _ _ rfl
  have b2 : W2.cell? ⟨W1.heap.size, 2, none⟩ = some (.slice A3 c.args.length e3) := by rw [hW2]; exact World.cell?_alloc_at _ _ _ _ rfl
  have b3 : W2.cell? ⟨W1.heap.size, 3, none⟩ = some (.int .i64 c.bound) := by rw [hW2]; exact World.cell?_alloc_at _ _ _ _ rfl
  have b4 : W2.cell? ⟨W1.heap.size, 4, none⟩ = some (.slice A4 c.rows.length e4) := by rw [hW2]; exact World.cell?_alloc_at _ _ _ _ rfl
  have hb2 : W1.heap.size < W2.heap.size := by rw [hW2]; simp
  have HC2 := hide (show CV (fun k => W.heap.size + 1 ≤ k) W2 (.agg #[.int .i64 c.kk, .slice A1 c.vars.length e1, .slice A3 c.args.length e3, .int .i64 c.bound, .slice A4 c.rows.length e4]) c from ⟨_, _, _, rfl, i1.ext hx2, i2.ext hx2, i3.ext hx2⟩)
  have HR2 := hide (hR1.grow hx2)
  have HK2 := hide (((((Ext.refl W).alloc (.cells #[.int .i64 0, .slice none 0 0, .slice none 0 0, .int .i64 0, .slice none 0 0] 26)).keep (fun k => k ≠ br)).trans hK1).trans (hx2.keep _))
  have HRB2 := hide (HRB.out.keep (hx2.keep (fun _ => True)) trivial)
  have HKA2 := hide (hK1.trans (hx2.keep (fun k => k ≠ br)))
  go_wp2_with fail
  rw [← hW2]
  clear hW2 i1 i2 i3 hR1 hK1 hx2
  refine (pick_any w0 br _ 10 _ (by omega) (by omega) (by omega) HR2.out).mono ?_
  rintro e W3 ⟨z, z0, z1, rfl, hR3, hK3⟩
  have hbb : W1.heap.size ≠ br := by omega
  have b0 := (hK3.cell (p := ⟨W1.heap.size, 0, none⟩) hb2 hbb).trans b0
  have b1 := (hK3.cell (p := ⟨W1.heap.size, 1, none⟩) hb2 hbb).trans b1
  have b2 := (hK3.cell (p := ⟨W1.heap.size, 2, none⟩) hb2 hbb).trans b2
  have b3 := (hK3.cell (p := ⟨W1.heap.size, 3, none⟩) hb2 hbb).trans b3
  have b4 := (hK3.cell (p := ⟨W1.heap.size, 4, none⟩) hb2 hbb).trans b4
  have HC3 := hide (HC2.out.keep hK3 (fun k hk => by omega))
  have HR3 := hide hR3
  have HK3 := hide (HK2.out.trans hK3)
  have HKA3 := hide (HKA2.out.trans hK3)
  have HRB3 := hide (HRB2.out.keep hK3 (by omega))
  have hs3 := hK3.size
  clear hR3 hK3
  by_cases hz : z = 0
  · subst hz
    go_wp2_with fail
    refine (damage_any w0 (W.alloc (.cells #[.int .i64 0, .slice none 0 0, .slice none 0 0, .int .i64 0, .slice none 0 0] 26)) br _ W3 _ c ?_ HR3.out HKA3.out (by rw [hsA]; omega) (by rw [hsA]; omega) (HC3.out.mono (fun k hk => by rw [hsA]; exact hk)) hlen).mono ?_
    · omega
    rintro e W4 ⟨v4, c4, rfl, hlen4, ⟨vv4, va4, vr4, rfl, j1, j2, j3⟩, hR4, hK4⟩
    obtain ⟨A5, e5, hv1, -⟩ := j1.form
    obtain ⟨A6, e6, hv2, -⟩ := j2.form
    obtain ⟨A7, e7, hv3, -⟩ := j3.1.form
    subst hv1 hv2 hv3
    rw [hsA] at j1 j2 j3
    obtain ⟨hrl, u0, u1, u2, u3, u4, r0, r1, r2, r3, r4, q0, q1, q2, q3, q4⟩ := (HRB3.out.keep hK4 (by omega)).five
    have hk9 : Keep (fun k => k ≠ W.heap.size) W4 (((((W4.setCell ⟨W.heap.size, 0, none⟩ (.int .i64 c4.kk)).setCell ⟨W.heap.size, 1, none⟩ (.slice A5 c4.vars.length e5)).setCell ⟨W.heap.size, 2, none⟩ (.slice A6 c4.args.length e6)).setCell ⟨W.heap.size, 3, none⟩ (.int .i64 c4.bound)).setCell ⟨W.heap.size, 4, none⟩ (.slice A7 c4.rows.length e7)) := by
      (repeat refine Keep.set ?_ (fun _ hh => hh rfl) _); exact Keep.refl _ _
    have HE := hide (show XGot w0 br (N + 110) W (.returned (.agg #[.int .i64 c4.kk, .slice A5 c4.vars.length e5, .slice A6 c4.args.length e6, .int .i64 c4.bound, .slice A7 c4.rows.length e7])) _ from
      ⟨_, c4, rfl, CV.mono (CV.keep (S := fun k => W.heap.size + 1 ≤ k) ⟨_, _, _, rfl, j1, j2, j3⟩ hk9 (fun k hk => by omega)) (fun k hk => by have hk : W.heap.size + 1 ≤ k := hk; omega), by omega, by omega, (hR4.keep hk9 (by omega) (fun k hk => by omega)).mono (by omega), (HK3.out.trans hK4).trans9 hk9 (fun k hk _ => by omega)⟩)
    clear j1 j2 j3 hR4 hK4 hk9 b0 b1 b2 b3 b4
    go_wp2_with fail
    exact bodyPost_ret (v := .agg #[.int .i64 c4.kk, .slice A5 c4.vars.length e5, .slice A6 c4.args.length e6, .int .i64 c4.bound, .slice A7 c4.rows.length e7]) (by simp only [results, Try.results55]; go_simp) rfl HE.out
  · have hzb : (z == 0) = false := by simp [hz]
    obtain ⟨hrl, u0, u1, u2, u3, u4, r0, r1, r2, r3, r4, q0, q1, q2, q3, q4⟩ := HRB3.out.five
    have hk9 : Keep (fun k => k ≠ W.heap.size) W3 (((((W3.setCell ⟨W.heap.size, 0, none⟩ (.int .i64 c.kk)).setCell ⟨W.heap.size, 1, none⟩ (.slice A1 c.vars.length e1)).setCell ⟨W.heap.size, 2, none⟩ (.slice A3 c.args.length e3)).setCell ⟨W.heap.size, 3, none⟩ (.int .i64 c.bound)).setCell ⟨W.heap.size, 4, none⟩ (.slice A4 c.rows.length e4)) := by
      (repeat refine Keep.set ?_ (fun _ hh => hh rfl) _); exact Keep.refl _ _
    have HE := hide (show XGot w0 br (N + 110) W (.returned (.agg #[.int .i64 c.kk, .slice A1 c.vars.length e1, .slice A3 c.args.length e3, .int .i64 c.bound, .slice A4 c.rows.length e4])) _ from
      ⟨_, c, rfl, CV.mono (CV.keep HC3.out hk9 (fun k hk => by omega)) (fun k hk => by have hk : W.heap.size + 1 ≤ k := hk; omega), by omega, by omega, (HR3.out.keep hk9 (by omega) (fun k hk => by omega)).mono (by omega), HK3.out.trans9 hk9 (fun k hk _ => by omega)⟩)
    clear hk9 hz
    go_wp2_with fail
    exact bodyPost_ret (v := .agg #[.int .i64 c.kk, .slice A1 c.vars.length e1, .slice A3 c.args.length e3, .int .i64 c.bound, .slice A4 c.rows.length e4]) (by simp only [results, Try.results55]; go_simp) rfl HE.out
/-- A constraint and domains came. -/
def XDGot (w0 : World) (br N : Nat) (W : World) (e : Ending) (W' : World) : Prop :=
  ∃ v c dv n, e = .returned (.tuple #[v, dv]) ∧ CV (fun k => W.heap.size ≤ k) W' v c ∧ c.vars.length ≤ 100 ∧ c.args.length ≤ 100 ∧ LR W.heap.size 3 1 W' dv n (-1) 255 ∧ 1 ≤ n ∧ n ≤ 4 ∧ RdSt w0 br N W' ∧ Keep (fun k => k ≠ br) W W'
set_option maxRecDepth 100000 in
set_option maxHeartbeats 8000000 in
theorem constraintAndDomains_any (w0 : World) (br N : Nat) (W : World) (hN : N ≤ 50000) (hR : RdSt w0 br N W) :
    Calls Try.prog 29 #[.pointer (some ⟨br, 0, none⟩)] W (XDGot w0 br (N + 140) W) := by
  have HR := hide hR
  have hbr := hR.lt
  have hw0 := hR.ext.size
  clear hR
  go_enter Try.func29, Try.ntmps29
  go_wp2_with fail
  obtain ⟨Wa, hWa⟩ : ∃ Wa, Wa = W.alloc (.cells #[.int .i64 0, .slice none 0 0, .slice none 0 0, .int .i64 0, .slice none 0 0] 26) := ⟨_, rfl⟩
  have hxa : Ext W Wa := by rw [hWa]; exact (Ext.refl W).alloc _
  have hsA : Wa.heap.size = W.heap.size + 1 := by rw [hWa]; simp
  have hrba : RB W.heap.size 5 Wa := by
    rw [hWa]
    refine ⟨by simp, fun i => World.frozen?_alloc_new _ _ _ _, fun i hi => ?_⟩
    obtain rfl | rfl | rfl | rfl | rfl : i = 0 ∨ i = 1 ∨ i = 2 ∨ i = 3 ∨ i = 4 := by omega
    all_goals exact ⟨_, World.cell?_alloc_at _ _ _ _ rfl⟩
  rw [← hWa]
  clear hWa
  refine (pick_any w0 br N 4 _ (by omega) (by omega) (by omega) (HR.out.grow hxa)).mono ?_
  rintro e W1 ⟨k, k0, k1, rfl, hR1, hK1⟩
  obtain ⟨n, hn⟩ : ∃ n : Nat, (n : Int) = 1 + k := ⟨(1 + k).toNat, by omega⟩
  have hwk : IntKind.i64.wrap (1 + k) = (n : Int) := by rw [IntWalk.i64_in _ (by omega)]; omega
  have hn1 : 1 ≤ n := by omega
  have hn4 : n ≤ 4 := by omega
  have hs1 : W.heap.size + 1 ≤ W1.heap.size := by have := hK1.size; omega
  have HRB1 := hide (hrba.keep hK1 (by omega))
  have HK1 := hide ((hxa.keep (fun k => k ≠ br)).trans hK1)
  have HR1 := hide hR1
  clear hR1 hK1 hxa hrba hn
  go_wp2_with fail
  go_loopw [5, 6] (fun o i wr => ∃ j : Nat, i = .int .i64 j ∧ j ≤ n ∧ LR W1.heap.size 3 1 wr o j (-1) 255 ∧ RdSt w0 br (N + 1 + 3 * j) wr ∧ Keep (fun k => k ≠ br) W1 wr) (fun _ i _ => n - (intOf i).toNat)
  case atStart => exact ⟨0, rfl, Nat.zero_le _, LR.empty 3 1 W1 (-1) 255, HR1.out.grow ((Ext.refl W1).alloc _), ((Ext.refl W1).alloc _).keep _⟩
  case round =>
    obtain ⟨j, rfl, hj, hL, hRr, hKr⟩ := hrel
    have HL := hide hL
    have HRr := hide hRr
    have HKr := hide hKr
    obtain ⟨g, cap, rfl, hg, hgl, hcap⟩ := hL.form
    have hszr := hKr.size
    clear hL hRr hKr
    by_cases hjn : j < n
    · have hjI : (j : Int) < n := by omega
      go_wp2_with fail
      refine (randomDomain_any w0 br _ _ (by omega) HRr.out).mono ?_
      rintro e W3 ⟨z, z0, z1, rfl, hR3, hK3⟩
      have HR3 := hide hR3
      have HK3 := hide (HKr.out.trans hK3)
      have HL3 := hide (HL.out.keep hK3 (fun k hk => by omega))
      have hs3 := hK3.size
      clear hR3 hK3
      go_wp2_with (at_builtin; go_must (refine wpList_appLI _ rfl _ _ rfl W1.heap.size (.slice (some ⟨g, 0, none⟩) j cap) j 1 (-1) 255 W3.heap.size 1 rfl rfl (HL3.out.ext ((Ext.refl _).alloc _)) (by omega) (new1 W3 _ (by omega)) (by omega) (by simp; omega) ?_); intro v4 W4 hL4 hb4; obtain ⟨g4, cap4, rfl, -, -, -⟩ := hL4.form; have HL4 := hide hL4; have HR4 := hide ((HR3.out.grow ((Ext.refl W3).alloc (.cells #[.int .i64 z] 3))).far8 hb4 (by omega) (by omega)); have HK4 := hide ((HK3.out.alloc (.cells #[.int .i64 z] 3)).far8 hb4); clear hL4 hb4)
      go_roundw
      case rel => exact ⟨j + 1, by go_num, by omega, HL4.out, HR4.out.mono (by omega), HK4.out⟩
      case measure => simp [intOf]; omega
    · obtain rfl : j = n := by omega
      have hjI : ¬ ((j : Int) < j) := by omega
      go_wp2_with fail
      refine (pick_any w0 br _ 14 _ (by omega) (by omega) ?_ HRr.out).mono ?_
      · omega
      rintro e W3 ⟨z, z0, z1, rfl, hR3, hK3⟩
      have HR3 := hide (RdSt.mono (M := N + 15) hR3 (by omega))
      have HK3 := hide (HKr.out.trans hK3)
      have HL3 := hide (HL.out.keep hK3 (fun k hk => by omega))
      have hs3 := hK3.size
      clear hR3 hK3
      by_cases hz : z = 0
      · subst hz
        go_wp2_with fail
        refine (anyDomain_any w0 br _ _ (by omega) HR3.out).mono ?_
        rintro e W4 ⟨d, d0, d1, rfl, hR4, hK4⟩
        have HL4 := hide (HL3.out.keep hK4 (fun k hk => by omega))
        obtain ⟨⟨x, fx, -, -⟩, fz⟩ := HL4.out.cell (i := 0) (by omega)
        have hgl4 : g < W4.heap.size := Nat.lt_of_lt_of_le hgl (by have := hK4.size; omega)
        have hj0 : (0 : Int) < j := by omega
        have hks := (Keep.refl (fun k => k ≠ g) W4).set (p := ⟨g, 0, none⟩) (fun _ hh => hh rfl) (.int .i64 d)
        have HR5 := hide ((hR4.mono (M := N + 22) (by omega)).keep hks (by omega) (fun k hk => by omega))
        have HK5 := hide ((HK3.out.trans hK4).trans9 hks (fun k hk _ => by omega))
        have HL5 := hide (HL4.out.set 0 d ⟨d0, d1⟩)
        clear hR4 hK4 hks
        go_upto_region 9 with fail
        obtain ⟨W5, hW5⟩ : ∃ W5, W5 = W4.setCell ⟨g, 0, none⟩ (.int .i64 d) := ⟨_, rfl⟩
        rw [← hW5] at HR5 HK5 HL5 ⊢
        clear hW5
        go_wp2_with fail
        refine (anyConstraint_any w0 br (N + 22) j _ hn1 hn4 (by omega) HR5.out).mono ?_
        rintro e W6 ⟨v, c, rfl, ⟨vv, va, vr, rfl, i1, i2, i3⟩, hl1, hl2, hR6, hK6⟩
        obtain ⟨A1, e1, hv1, -⟩ := i1.form
        obtain ⟨A3, e3, hv2, -⟩ := i2.form
        obtain ⟨A4, e4, hv3, -⟩ := i3.1.form
        subst hv1 hv2 hv3
        have hk16 := HK5.out.trans hK6
        have hs56 := HK5.out.size
        obtain ⟨hrl, u0, u1, u2, u3, u4, r0, r1, r2, r3, r4, q0, q1, q2, q3, q4⟩ := (HRB1.out.keep hk16 (by omega)).five
        have hk9 : Keep (fun k => k ≠ W.heap.size) W6 (((((W6.setCell ⟨W.heap.size, 0, none⟩ (.int .i64 c.kk)).setCell ⟨W.heap.size, 1, none⟩ (.slice A1 c.vars.length e1)).setCell ⟨W.heap.size, 2, none⟩ (.slice A3 c.args.length e3)).setCell ⟨W.heap.size, 3, none⟩ (.int .i64 c.bound)).setCell ⟨W.heap.size, 4, none⟩ (.slice A4 c.rows.length e4)) := by
          (repeat refine Keep.set ?_ (fun _ hh => hh rfl) _); exact Keep.refl _ _
        have HE := hide (show XDGot w0 br (N + 140) W (.returned (.tuple #[.agg #[.int .i64 c.kk, .slice A1 c.vars.length e1, .slice A3 c.args.length e3, .int .i64 c.bound, .slice A4 c.rows.length e4], .slice (some ⟨g, 0, none⟩) j cap])) _ from
          ⟨_, c, _, j, rfl, CV.mono (CV.keep (S := fun k => W5.heap.size ≤ k) ⟨_, _, _, rfl, i1, i2, i3⟩ hk9 (fun k hk => by have hk : W5.heap.size ≤ k := hk; omega)) (fun k hk => by have hk : W5.heap.size ≤ k := hk; omega), hl1, hl2,
            ((HL5.out.keep hK6 (fun k hk => by omega)).keep hk9 (fun k hk => by omega)).mono (by omega) (by omega) (by omega), hn1, hn4, (hR6.keep hk9 (by omega) (fun k hk => by omega)).mono (by omega), (HK1.out.trans hk16).trans9 hk9 (fun k hk _ => by omega)⟩)
        clear i1 i2 i3 hR6 hK6 hk16 hk9
        go_wp2_with fail
        exact bodyPost_ret (v := .tuple #[.agg #[.int .i64 c.kk, .slice A1 c.vars.length e1, .slice A3 c.args.length e3, .int .i64 c.bound, .slice A4 c.rows.length e4], .slice (some ⟨g, 0, none⟩) j cap]) (by simp only [results, Try.results29]; go_simp) rfl HE.out
      · have hzb : (z == 0) = false := by simp [hz]
        have HR5 := hide (HR3.out.mono (M := N + 22) (by omega))
        have HK5 := HK3
        have HL5 := HL3
        clear hz
        go_upto_region 9 with fail
        go_wp2_with fail
        refine (anyConstraint_any w0 br (N + 22) j _ hn1 hn4 (by omega) HR5.out).mono ?_
        rintro e W6 ⟨v, c, rfl, ⟨vv, va, vr, rfl, i1, i2, i3⟩, hl1, hl2, hR6, hK6⟩
        obtain ⟨A1, e1, hv1, -⟩ := i1.form
        obtain ⟨A3, e3, hv2, -⟩ := i2.form
        obtain ⟨A4, e4, hv3, -⟩ := i3.1.form
        subst hv1 hv2 hv3
        have hk16 := HK5.out.trans hK6
        have hs56 := HK5.out.size
        obtain ⟨hrl, u0, u1, u2, u3, u4, r0, r1, r2, r3, r4, q0, q1, q2, q3, q4⟩ := (HRB1.out.keep hk16 (by omega)).five
        have hk9 : Keep (fun k => k ≠ W.heap.size) W6 (((((W6.setCell ⟨W.heap.size, 0, none⟩ (.int .i64 c.kk)).setCell ⟨W.heap.size, 1, none⟩ (.slice A1 c.vars.length e1)).setCell ⟨W.heap.size, 2, none⟩ (.slice A3 c.args.length e3)).setCell ⟨W.heap.size, 3, none⟩ (.int .i64 c.bound)).setCell ⟨W.heap.size, 4, none⟩ (.slice A4 c.rows.length e4)) := by
          (repeat refine Keep.set ?_ (fun _ hh => hh rfl) _); exact Keep.refl _ _
        have HE := hide (show XDGot w0 br (N + 140) W (.returned (.tuple #[.agg #[.int .i64 c.kk, .slice A1 c.vars.length e1, .slice A3 c.args.length e3, .int .i64 c.bound, .slice A4 c.rows.length e4], .slice (some ⟨g, 0, none⟩) j cap])) _ from
          ⟨_, c, _, j, rfl, CV.mono (CV.keep (S := fun k => W3.heap.size ≤ k) ⟨_, _, _, rfl, i1, i2, i3⟩ hk9 (fun k hk => by have hk : W3.heap.size ≤ k := hk; omega)) (fun k hk => by have hk : W3.heap.size ≤ k := hk; omega), hl1, hl2,
            ((HL5.out.keep hK6 (fun k hk => by omega)).keep hk9 (fun k hk => by omega)).mono (by omega) (by omega) (by omega), hn1, hn4, (hR6.keep hk9 (by omega) (fun k hk => by omega)).mono (by omega), (HK1.out.trans hk16).trans9 hk9 (fun k hk _ => by omega)⟩)
        clear i1 i2 i3 hR6 hK6 hk16 hk9
        go_wp2_with fail
        exact bodyPost_ret (v := .tuple #[.agg #[.int .i64 c.kk, .slice A1 c.vars.length e1, .slice A3 c.args.length e3, .int .i64 c.bound, .slice A4 c.rows.length e4], .slice (some ⟨g, 0, none⟩) j cap]) (by simp only [results, Try.results29]; go_simp) rfl HE.out
/-- A removal came. -/
def RmGot (w0 : World) (br N : Nat) (W : World) (e : Ending) (W' : World) : Prop :=
  ∃ x y : Int, e = .returned (.agg #[.int .i64 x, .int .i64 y]) ∧ -1 ≤ x ∧ x ≤ 4 ∧ 0 ≤ y ∧ y ≤ 6 ∧ RdSt w0 br N W' ∧ Keep (fun k => k ≠ br) W W'
set_option maxRecDepth 100000 in
set_option maxHeartbeats 4000000 in
theorem randomRemoval_any (w0 : World) (br N n : Nat) (W : World) (hn1 : 1 ≤ n) (hn4 : n ≤ 4) (hN : N ≤ 70000) (hR : RdSt w0 br N W) :
    Calls Try.prog 19 #[.pointer (some ⟨br, 0, none⟩), .int .i64 n] W (RmGot w0 br (N + 5) W) := by
  have HR := hide hR
  have hbr := hR.lt
  have hw0 := hR.ext.size
  clear hR
  go_enter Try.func19, Try.ntmps19
  go_wp2_with fail
  refine (pick_any w0 br N 14 _ (by omega) (by omega) (by omega) (HR.out.grow ((Ext.refl W).alloc _))).mono ?_
  rintro e W1 ⟨k, k0, k1, rfl, hR1, hK1⟩
  have hsA : (W.alloc (.cells #[.int .i64 0, .int .i64 0] 29)).heap.size = W.heap.size + 1 := by simp
  have hs1 : W.heap.size + 1 ≤ W1.heap.size := by have := hK1.size; rw [hsA] at this; exact this
  have HRB := hide (show RB W.heap.size 2 W1 from by
    refine RB.keep (S := fun k => k ≠ br) ⟨by rw [hsA]; omega, fun i => World.frozen?_alloc_new _ _ _ _, fun i hi => ?_⟩ hK1 (by omega)
    obtain rfl | rfl : i = 0 ∨ i = 1 := by omega
    all_goals exact ⟨_, World.cell?_alloc_at _ _ _ _ rfl⟩)
  have HK1 := hide ((((Ext.refl W).alloc (.cells #[.int .i64 0, .int .i64 0] 29)).keep (fun k => k ≠ br)).trans hK1)
  have HR1 := hide hR1
  clear hR1 hK1 hsA
  by_cases hk : k = 0
  · subst hk
    go_wp2_with fail
    refine (one_any w0 br (N + 1) (-1) 4 W1.heap.size 2 2 _ (by omega) (by omega) (by omega) (HR1.out.grow ((Ext.refl W1).alloc _)) (by simp) (by omega) (newL12 W1 3 [-1, (n : Int)] (by intro x hx; simp at hx; omega)) (Nat.le_refl _)).mono ?_
    rintro e W2 ⟨z, z0, z1, rfl, hR2, hK2⟩
    have hK12 := (((Ext.refl W1).alloc (.cells #[.int .i64 (-1), .int .i64 n] 3)).keep (fun k => k ≠ br)).trans hK2
    obtain ⟨hrl, u0, u1, r0, r1, y0, y1⟩ := (HRB.out.keep hK12 (by omega)).two
    have hk9 : Keep (fun k => k ≠ W.heap.size) W2 ((W2.setCell ⟨W.heap.size, 0, none⟩ (.int .i64 z)).setCell ⟨W.heap.size, 1, none⟩ (.int .i64 6)) :=
      ((Keep.refl (fun k => k ≠ W.heap.size) W2).set (p := ⟨W.heap.size, 0, none⟩) (fun _ hh => hh rfl) _).set (p := ⟨W.heap.size, 1, none⟩) (fun _ hh => hh rfl) _
    have HE := hide (show RmGot w0 br (N + 5) W (.returned (.agg #[.int .i64 z, .int .i64 6])) _ from ⟨z, 6, rfl, z0, z1, by omega, by omega, (hR2.keep hk9 (by omega) (fun k hk => by omega)).mono (by omega), (HK1.out.trans hK12).trans9 hk9 (fun k hk _ => by omega)⟩)
    clear hR2 hK2 hK12 hk9
    go_wp2_with fail
    exact bodyPost_ret (v := .agg #[.int .i64 z, .int .i64 6]) (by simp only [results, Try.results19]; go_simp) rfl HE.out
  · have hkb : (k == 0) = false := by simp [hk]
    clear hk
    go_wp2_with fail
    refine (pick_any w0 br (N + 1) n _ (by omega) (by omega) (by omega) HR1.out).mono ?_
    rintro e W2 ⟨x, x0, x1, rfl, hR2, hK2⟩
    have HR2 := hide hR2
    have HK2 := hide (HK1.out.trans hK2)
    have HRB2 := hide (HRB.out.keep hK2 (by omega))
    have hs2 := hK2.size
    clear hR2 hK2
    go_wp2_with fail
    refine (pick_any w0 br (N + 1 + 1) 6 _ (by omega) (by omega) (by omega) HR2.out).mono ?_
    rintro e W3 ⟨y, yy0, yy1, rfl, hR3, hK3⟩
    obtain ⟨hrl, u0, u1, r0, r1, y0, y1⟩ := (HRB2.out.keep hK3 (by omega)).two
    have hk9 : Keep (fun k => k ≠ W.heap.size) W3 ((W3.setCell ⟨W.heap.size, 0, none⟩ (.int .i64 x)).setCell ⟨W.heap.size, 1, none⟩ (.int .i64 y)) :=
      ((Keep.refl (fun k => k ≠ W.heap.size) W3).set (p := ⟨W.heap.size, 0, none⟩) (fun _ hh => hh rfl) _).set (p := ⟨W.heap.size, 1, none⟩) (fun _ hh => hh rfl) _
    have HE := hide (show RmGot w0 br (N + 5) W (.returned (.agg #[.int .i64 x, .int .i64 y])) _ from ⟨x, y, rfl, by omega, by omega, by omega, by omega, (hR3.keep hk9 (by omega) (fun k hk => by omega)).mono (by omega), (HK2.out.trans hK3).trans9 hk9 (fun k hk _ => by omega)⟩)
    clear hR3 hK3 hk9
    go_wp2_with fail
    exact bodyPost_ret (v := .agg #[.int .i64 x, .int .i64 y]) (by simp only [results, Try.results19]; go_simp) rfl HE.out
end Go.Proofs.Ytmfbdaocnijnpaa
