/- Draws of the generator: starts. -/
import Derived.Test.YticallgbmmahjaaQ5
import Derived.Test.YticallgbmmahjaaSchS
namespace Go.Proofs.Yticallgbmmahjaa
open Go.RowKit

theorem STasks.keep {S : Nat → Prop} {w w' : World} {b off n c : Nat} {ts : List Tk} (h : STasks w (.slice (some ⟨b, off, none⟩) n c) ts) (hk : Keep S w w') (hb : S b) : STasks w' (.slice (some ⟨b, off, none⟩) n c) ts := by
  obtain ⟨A, c', e1, e2, e3, e4, e5⟩ := h
  refine ⟨A, c', e1, e2, e3, e4, fun hp => ?_⟩
  obtain ⟨b', o, ea, hb', hc⟩ := e5 hp
  injection e1 with e1
  have e1 := Option.some.inj (e1.trans ea)
  injection e1 with e6 e7
  subst e6
  exact ⟨b, o, ea, Nat.lt_of_lt_of_le hb' hk.size, fun i hi => ⟨(hk.cell (p := ⟨b, _, none⟩) hb' hb).trans (hc i hi).1, (hk.cell (p := ⟨b, _, none⟩) hb' hb).trans (hc i hi).2.1, (hk.cell (p := ⟨b, _, none⟩) hb' hb).trans (hc i hi).2.2⟩⟩
/-- Starts came. -/
def StartsGot (w0 : World) (br N : Nat) (W : World) (e : Ending) (W' : World) : Prop :=
  ∃ (v : Value) (xs : List Int), e = .returned v ∧ xs.length ≤ 8 ∧ SInts W' v xs ∧ RdSt w0 br N W' ∧ Keep (fun k => k ≠ br) W W'
theorem LR.tail {base : Nat} {w : World} {g n cap : Nat} {lo hi : Int} (h : LR base 3 1 w (.slice (some ⟨g, 0, none⟩) n cap) n lo hi) (hn : 1 ≤ n) (hn1 : n ≤ 1000000) (hlt : 1 < cap) (h1 : -9223372036854775808 ≤ lo) (h2 : hi ≤ 9223372036854775807) : ∃ xs : List Int, xs.length = n - 1 ∧ SInts w (.slice (some ⟨g, 1, none⟩) (n - 1) (cap - 1)) xs := by
  obtain ⟨xs, e1, ⟨A, c, q1, q2, q3, q4, q5⟩, -⟩ := h.ints hn1 h1 h2
  injection q1 with q1 q6 q7
  subst q1; subst q7
  refine ⟨xs.tail, by simp [e1], some ⟨g, 1, none⟩, cap - 1, by rw [List.length_tail, e1], by simp; omega, by simp; omega, fun i hi => ?_, fun hp => ?_⟩
  · have hi' : i + 1 < xs.length := by simp at hi; omega
    have := q4 (i + 1) hi'
    rwa [show at0 xs.tail i = at0 xs (i + 1) by unfold at0; rw [getD_lt _ _ hi, getD_lt _ _ hi']; simp]
  · obtain ⟨b, off, e, hb, hc⟩ := q5 (by omega)
    injection e with e
    injection e with e2 e3
    subst e2; subst e3
    refine ⟨g, 1, rfl, hb, fun i hi => ?_⟩
    have hi' : i + 1 < xs.length := by simp at hi; omega
    have := hc (i + 1) hi'
    rw [show 0 + (i + 1) = 1 + i by omega] at this
    rwa [show at0 xs.tail i = at0 xs (i + 1) by unfold at0; rw [getD_lt _ _ hi, getD_lt _ _ hi']; simp]
set_option maxRecDepth 100000 in
set_option maxHeartbeats 8000000 in
theorem anyStarts_any (w0 : World) (br N : Nat) (W : World) (b off c : Nat) (ts : List Tk) (hN : N ≤ 60000) (hR : RdSt w0 br N W) (hT : STasks W (.slice (some ⟨b, off, none⟩) ts.length c) ts) (hb : b ≠ br) (hl : 1 ≤ ts.length) (hl8 : ts.length ≤ 8) :
    Calls Try.prog 21 #[.pointer (some ⟨br, 0, none⟩), .slice (some ⟨b, off, none⟩) ts.length c] W (StartsGot w0 br (N + 40) W) := by
  have HR := hide hR
  have hT0 := hide hT
  have hbr := hR.lt
  clear hR hT
  go_enter Try.func21, Try.ntmps21
  go_wp2_with fail
  have HL0 := hide (LR.empty 3 1 W (-1) 100)
  have HR0 := hide (HR.out.grow ((Ext.refl W).alloc (.cells #[] 3)))
  go_loopw [5, 6] (fun o i wr => ∃ k : Nat, k ≤ ts.length ∧ i = .int .i64 k ∧ LR W.heap.size 3 1 wr o k (-1) 100 ∧ RdSt w0 br (N + 2 * k) wr ∧ Keep (fun k => k ≠ br) W wr) (fun _ i _ => ts.length - (intOf i).toNat)
  case atStart => exact ⟨0, Nat.zero_le _, rfl, HL0.out, HR0.out, (Keep.refl _ W).alloc _⟩
  case round =>
    obtain ⟨k, hk, rfl, hL, hRr, hKr⟩ := hrel
    have HL := hide hL
    have HRr := hide hRr
    have HKr := hide hKr
    obtain ⟨g, cap, rfl, hg, hgl, hcap⟩ := hL.form
    have hsz := hKr.size
    clear hL hRr hKr
    by_cases hlt : k < ts.length
    · obtain ⟨b', off', e, hbl, f1, -, -⟩ := (hT0.out.keep HKr.out hb).at_ hlt
      injection e with e; injection e with e1 e2; subst e1; subst e2
      obtain ⟨i1, i2⟩ := (hT0.out.i64 k hlt).1
      go_wp2_with fail
      refine (DomainValuesS_any (tkS ts k) _ i2).mono ?_
      rintro e W2 ⟨A2, c2, b2, m2, f2, rfl, hc2, hd2, hb2, ho2, hx2⟩
      have HX2 := hide hx2
      have HO2 := hide ho2
      have hsz2 := hx2.size
      obtain ⟨L, hL⟩ : ∃ L, L = (if vDom (tkS ts k) then domL (tkS ts k) else []) := ⟨_, rfl⟩
      have hLl : L.length ≤ 6 := by rw [hL]; split; exact domL_len _; simp
      have hLv : ∀ i, i < L.length → 0 ≤ at0 L i ∧ at0 L i ≤ 5 := by
        rw [hL]
        split
        · exact fun i hi => domL_bd _ hi
        · exact fun i hi => absurd hi (by simp)
      rw [← hL] at HO2 hc2 hd2
      have HLV := hide hLv
      clear hx2 ho2 hLv f1
      rw [← hL]
      clear hL
      by_cases hp : 0 < L.length
      · have hpI : (0 : Int) < L.length := by omega
        obtain ⟨rfl, hr2, hm2, hf2⟩ := HO2.out hp
        have HRW := hide hr2
        have HF2 := hide hf2
        have hb2l := hr2.lt
        clear hr2 hf2
        go_wp2_with fail
        refine (pick_any w0 br (N + 2 * k) 4 _ (by omega) (by omega) (by omega) (HRr.out.grow HX2.out)).mono ?_
        rintro e W3 ⟨q, q0, q1, rfl, hR3, hK3⟩
        have HR3 := hide hR3
        have HK3 := hide hK3
        have hsz3 := hK3.size
        clear hR3 hK3
        by_cases hq : 0 < q
        · go_wp2_with fail
          refine (pick_any w0 br (N + 2 * k + 1) L.length _ (by omega) (by omega) (by omega) HR3.out).mono ?_
          rintro e W4 ⟨u, u0, u1, rfl, hR4, hK4⟩
          have HR4 := hide hR4
          have HK24 := hide (HK3.out.trans hK4)
          have hsz4 := hK4.size
          have hrow := HK24.out.row (show b2 ≠ br by have := HRr.out.lt; omega) HRW.out
          have u1' : u < (L.length : Int) := by simpa using u1
          have v0 : W4.cell? ⟨b2, u.toNat, none⟩ = some (.int .i64 (at0 L u.toNat)) := by rw [hrow.cell (by omega), HF2.out u.toNat (by omega)]
          obtain ⟨x0, x5⟩ := HLV.out u.toNat (by omega)
          have HL4 := hide ((HL.out.ext HX2.out).keep HK24.out (fun k hk => by omega))
          clear hR4 hK4 hrow
          go_wp2_with (at_builtin; go_must (refine wpList_appLI _ rfl _ _ rfl W.heap.size (.slice (some ⟨g, 0, none⟩) k cap) k 1 (-1) 100 W4.heap.size 1 rfl rfl (HL4.out.ext ((Ext.refl _).alloc _)) (by omega) (newL W4 _ [at0 L u.toNat] (by intro x hx; simp at hx; omega)) (by omega) (by simp; omega) ?_); intro v' W5 hL5 hb5; obtain ⟨g5, cap5, rfl, -, -, -⟩ := hL5.form; have HL5 := hide hL5; have HB5 := hide hb5; clear hL5 hb5)
          go_roundw
          case rel =>
            exact ⟨k + 1, by omega, by go_num, HL5.out, RdSt.mono ((HR4.out.grow ((Ext.refl _).alloc _)).far HB5.out hbr) (by omega), ((((HKr.out.ext HX2.out).trans HK24.out).alloc _).far HB5.out)⟩
          case measure => simp [intOf]; omega
        · go_wp2_with fail
          refine (pick_any w0 br (N + 2 * k + 1) 6 _ (by omega) (by omega) (by omega) HR3.out).mono ?_
          rintro e W4 ⟨u, u0, u1, rfl, hR4, hK4⟩
          have HR4 := hide hR4
          have HK24 := hide (HK3.out.trans hK4)
          have hsz4 := hK4.size
          have HL4 := hide ((HL.out.ext HX2.out).keep HK24.out (fun k hk => by omega))
          clear hR4 hK4
          go_wp2_with (at_builtin; go_must (refine wpList_appLI _ rfl _ _ rfl W.heap.size (.slice (some ⟨g, 0, none⟩) k cap) k 1 (-1) 100 W4.heap.size 1 rfl rfl (HL4.out.ext ((Ext.refl _).alloc _)) (by omega) (newL W4 _ [u] (by intro x hx; simp at hx; omega)) (by omega) (by simp; omega) ?_); intro v' W5 hL5 hb5; obtain ⟨g5, cap5, rfl, -, -, -⟩ := hL5.form; have HL5 := hide hL5; have HB5 := hide hb5; clear hL5 hb5)
          go_roundw
          case rel =>
            exact ⟨k + 1, by omega, by go_num, HL5.out, RdSt.mono ((HR4.out.grow ((Ext.refl _).alloc _)).far HB5.out hbr) (by omega), ((((HKr.out.ext HX2.out).trans HK24.out).alloc _).far HB5.out)⟩
          case measure => simp [intOf]; omega
      · have hp0 : L.length = 0 := by omega
        have hpI : ¬ ((0 : Int) < L.length) := by omega
        go_wp2_with fail
        refine (pick_any w0 br (N + 2 * k) 6 _ (by omega) (by omega) (by omega) (HRr.out.grow HX2.out)).mono ?_
        rintro e W4 ⟨u, u0, u1, rfl, hR4, hK4⟩
        have HR4 := hide hR4
        have HK24 := hide hK4
        have hsz4 := hK4.size
        have HL4 := hide ((HL.out.ext HX2.out).keep HK24.out (fun k hk => by omega))
        clear hR4 hK4
        go_wp2_with (at_builtin; go_must (refine wpList_appLI _ rfl _ _ rfl W.heap.size (.slice (some ⟨g, 0, none⟩) k cap) k 1 (-1) 100 W4.heap.size 1 rfl rfl (HL4.out.ext ((Ext.refl _).alloc _)) (by omega) (newL W4 _ [u] (by intro x hx; simp at hx; omega)) (by omega) (by simp; omega) ?_); intro v' W5 hL5 hb5; obtain ⟨g5, cap5, rfl, -, -, -⟩ := hL5.form; have HL5 := hide hL5; have HB5 := hide hb5; clear hL5 hb5)
        go_roundw
        case rel =>
          exact ⟨k + 1, by omega, by go_num, HL5.out, RdSt.mono ((HR4.out.grow ((Ext.refl _).alloc _)).far HB5.out hbr) (by omega), ((((HKr.out.ext HX2.out).trans HK24.out).alloc _).far HB5.out)⟩
        case measure => simp [intOf]; omega
    · obtain rfl : k = ts.length := by omega
      go_wp2_with fail
      refine (pick_any w0 br (N + 2 * ts.length) 20 _ (by omega) (by omega) (by omega) HRr.out).mono ?_
      rintro e W4 ⟨q, q0, q1, rfl, hR4, hK4⟩
      have HR4 := hide hR4
      have HK4 := hide (HKr.out.trans hK4)
      have HL4 := hide (HL.out.keep hK4 (fun k hk => by omega))
      have hsz4 := HK4.out.size
      have hn0 : (0 : Int) < ts.length := by omega
      clear hR4 hK4
      by_cases hq0 : q = 0
      · subst hq0
        go_wp2_with fail
        refine (one_any w0 br (N + 2 * ts.length + 1) (-1) 100 W4.heap.size 2 2 _ (by omega) (by omega) (by omega) (HR4.out.grow ((Ext.refl _).alloc _)) (by simp) (by have := HR4.out.lt; omega) (newL W4 _ [-1, 6] (by intro x hx; simp at hx; omega)) (Nat.le_refl _)).mono ?_
        rintro e W5 ⟨z, zz0, zz1, rfl, hR5, hK5⟩
        have HR5 := hide hR5
        have hK45 := hide (show Keep (fun k => k ≠ br) W4 W5 from (((Ext.refl W4).alloc _).keep _).trans hK5)
        clear hR5 hK5
        have hL5 := HL4.out.keep hK45.out (fun k hk => by omega)
        obtain ⟨⟨x0, hx0, -⟩, hz0⟩ := hL5.cell (i := 0) (by omega)
        have hL6 := hL5.set 0 z ⟨zz0, zz1⟩
        obtain ⟨xs, e1, e2, -⟩ := hL6.ints (by omega) (by omega) (by omega)
        have HE := hide (show StartsGot w0 br (N + 40) W (.returned (.slice (some ⟨g, 0, none⟩) ts.length cap)) (W5.setCell ⟨g, 0, none⟩ (.int .i64 z)) from
          ⟨_, xs, rfl, by omega, e2, RdSt.mono (HR5.out.keep (S := fun k => k < W.heap.size) ((Keep.refl _ W5).set (fun _ h => by have h : g < W.heap.size := h; omega) _) hbr (fun k hk => by have := HR.out.ext.size; omega)) (by omega),
            (HK4.out.trans hK45.out).set (fun h => by have h : g < W.heap.size := h; omega) _⟩)
        clear hL5 hL6 e1 e2
        go_wp2_with fail
        go_ret
        exact HE.out
      have b0 : (q == 0) = false := by rw [beq_eq_false_iff_ne]; exact hq0
      by_cases hq1 : q = 1
      · subst hq1
        by_cases hc1 : 1 < cap
        · obtain ⟨xs, e1, e2⟩ := HL4.out.tail (by omega) (by omega) hc1 (by omega) (by omega)
          have HE := hide (show StartsGot w0 br (N + 40) W (.returned (.slice (some ⟨g, 1, none⟩) (ts.length - 1) (cap - 1))) W4 from ⟨_, xs, rfl, by omega, e2, RdSt.mono HR4.out (by omega), HK4.out⟩)
          have hl1 : (1 : Int) ≤ ts.length := by omega
          clear e1 e2
          go_wp2_with fail
          go_ret
          exact HE.out
        · obtain rfl : cap = 1 := by omega
          have hlen : ts.length = 1 := by omega
          have HE := hide (show StartsGot w0 br (N + 40) W (.returned (.slice (some ⟨g, 0, none⟩) 0 0)) W4 from ⟨_, [], rfl, by simp, ⟨_, 0, rfl, Nat.le_refl _, by simp, fun i hi => absurd hi (by simp), fun h => absurd h (by simp)⟩, RdSt.mono HR4.out (by omega), HK4.out⟩)
          clear hc1
          go_wp2_with fail
          go_ret
          exact HE.out
      · have b1 : (q == 1) = false := by rw [beq_eq_false_iff_ne]; exact hq1
        obtain ⟨xs, e1, e2, -⟩ := HL4.out.ints (by omega) (by omega) (by omega)
        have HE := hide (show StartsGot w0 br (N + 40) W (.returned (.slice (some ⟨g, 0, none⟩) ts.length cap)) W4 from ⟨_, xs, rfl, by omega, e2, RdSt.mono HR4.out (by omega), HK4.out⟩)
        clear e1 e2 hq0 hq1
        go_wp2_with fail
        go_ret
        exact HE.out
end Go.Proofs.Yticallgbmmahjaa
