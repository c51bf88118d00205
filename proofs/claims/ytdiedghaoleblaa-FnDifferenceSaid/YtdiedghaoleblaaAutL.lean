/- Laws of automata: equal automata, a word, draws of one automaton. -/
import Derived.Test.YtdiedghaoleblaaQ15
import Derived.Test.YtdiedghaoleblaaQ17
import Derived.Test.YtdiedghaoleblaaLawMark
import Derived.Deep.CutBlock
import Derived.Deep.DeepCutAuto
namespace Go.Proofs.Ytdiedghaoleblaa
open Go.RowKit
attribute [local go_sem] evalOf

set_option maxHeartbeats 2000000 in
theorem equalIntsA_any (v v' : Value) (xs ys : List Int) (w : World) (hS : SInts w v xs) (hS' : SInts w v' ys) : Calls Try.prog 27 #[v, v'] w (Ret (.bool (decide (xs = ys))) w) := by
  have hS0 := hide hS
  have hS0' := hide hS'
  obtain ⟨A, c, rfl, -, hln⟩ := hS.form
  obtain ⟨A', c', rfl, -, hln'⟩ := hS'.form
  clear hS hS'
  by_cases hl : xs.length = ys.length
  · have hl' : ((xs.length : Int) != (ys.length : Int)) = false := by simp [hl]
    have HL := hide hl
    clear hl
    go_enter Try.func27, Try.ntmps27
    go_wp2
    go_loopw [5] (fun i wr => ∃ k : Nat, k ≤ xs.length ∧ i = .int .i64 k ∧ Ext w wr ∧ ∀ j, j < k → at0 xs j = at0 ys j) (fun i _ => xs.length - (intOf i).toNat)
    case atStart => exact ⟨0, Nat.zero_le _, rfl, Ext.refl w, fun j hj => by omega⟩
    case round =>
      obtain ⟨k, hk, rfl, hxr, hq⟩ := hrel
      have HQ := hide hq
      clear hq
      by_cases hlt : k < xs.length
      · have hlt' : k < ys.length := by have := HL.out; omega
        have hkI : (k : Int) < xs.length := by omega
        have hkI' : (k : Int) < ys.length := by omega
        obtain ⟨b, off, rfl, hbl, f1⟩ := (hS0.out.ext hxr).at_ hlt
        obtain ⟨b', off', rfl, hbl', f1'⟩ := (hS0'.out.ext hxr).at_ hlt'
        go_wp2
        refine wp_region_ext (by kernel_rfl) (by kernel_rfl) ?_
        iterate 9 (apply quiet_val; (focus rfl); (focus (intro w' hw'; have hk' := hw'.cells; go_simp; all_goals exact rfl)); simp only [Act.put, List.setIfInBounds_toArray, List.set_cons_succ, List.set_cons_zero])
        refine wpQuiet_nil ?_
        intro w2 hx2
        have HX2 := hide (hxr.trans hx2)
        clear hx2 f1 f1'
        by_cases he : at0 xs k = at0 ys k
        · have he' : (at0 xs k != at0 ys k) = false := by simp [he]
          have HE := hide he
          clear he
          go_wp2
          go_roundw
          case rel => exact ⟨k + 1, by omega, by go_num, HX2.out, fun j hj => by
            by_cases e : j = k
            · subst e; exact HE.out
            · exact HQ.out j (by omega)⟩
          case measure => simp [intOf]; omega
        · have he' : (at0 xs k != at0 ys k) = true := by simpa using he
          have HE := hide he
          clear he
          go_wp2
          go_ret
          exact Ret.mk (ret_b (by symm; rw [decide_eq_false_iff_not]; intro e; exact HE.out (by rw [e]))) HX2.out
      · obtain rfl : k = xs.length := by omega
        go_wp2
        go_ret
        refine Ret.mk (ret_b ?_) hxr
        symm
        rw [decide_eq_true_iff]
        refine List.ext_getElem HL.out fun i h1 h2 => ?_
        have := HQ.out i h1
        unfold at0 at this
        rwa [getD_lt _ _ h1, getD_lt _ _ h2] at this
  · have hl' : ((xs.length : Int) != (ys.length : Int)) = true := by rw [bne_iff_ne]; omega
    have HL := hide hl
    clear hl
    go_enter Try.func27, Try.ntmps27
    go_wp2
    go_ret
    exact Ret.mk (ret_b (by symm; rw [decide_eq_false_iff_not]; intro e; exact HL.out (by rw [e]))) (Ext.refl w)
set_option maxHeartbeats 2000000 in
theorem equalLists_any (v v' : Value) (xs ys : List (List Int)) (w : World) (hS : SRows w v xs) (hS' : SRows w v' ys) : Calls Try.prog 42 #[v, v'] w (Ret (.bool (decide (xs = ys))) w) := by
  have hS0 := hide hS
  have hS0' := hide hS'
  obtain ⟨A, c, rfl, -, hln⟩ := hS.form
  obtain ⟨A', c', rfl, -, hln'⟩ := hS'.form
  clear hS hS'
  by_cases hl : xs.length = ys.length
  · have hl' : ((xs.length : Int) != (ys.length : Int)) = false := by simp [hl]
    have HL := hide hl
    clear hl
    go_enter Try.func42, Try.ntmps42
    go_wp2
    go_loopw [5] (fun i wr => ∃ k : Nat, k ≤ xs.length ∧ i = .int .i64 k ∧ Ext w wr ∧ ∀ j, j < k → rw0 xs j = rw0 ys j) (fun i _ => xs.length - (intOf i).toNat)
    case atStart => exact ⟨0, Nat.zero_le _, rfl, Ext.refl w, fun j hj => by omega⟩
    case round =>
      obtain ⟨k, hk, rfl, hxr, hq⟩ := hrel
      have HQ := hide hq
      clear hq
      by_cases hlt : k < xs.length
      · have hlt' : k < ys.length := by have := HL.out; omega
        have hkI : (k : Int) < xs.length := by omega
        have hkI' : (k : Int) < ys.length := by omega
        obtain ⟨b, off, A1, c1, rfl, hbl, f1, hr1⟩ := (hS0.out.ext hxr).at_ hlt
        obtain ⟨b', off', A2, c2, rfl, hbl', f1', hr2⟩ := (hS0'.out.ext hxr).at_ hlt'
        have HR1 := hide hr1
        have HR2 := hide hr2
        obtain ⟨x, hx⟩ : ∃ x, x = rw0 xs k := ⟨_, rfl⟩
        obtain ⟨y, hy⟩ : ∃ y, y = rw0 ys k := ⟨_, rfl⟩
        rw [← hx] at f1 HR1
        rw [← hy] at f1' HR2
        obtain ⟨z, hz⟩ : ∃ z, z = decide (x = y) := ⟨_, rfl⟩
        have HZ := hide hz
        have HXX := hide hx
        have HYY := hide hy
        have HXR := hide hxr
        have HCL := hide (fun (W : World) (hW : Ext wr W) => (show Calls Try.prog 27 #[.slice A1 x.length c1, .slice A2 y.length c2] W (Ret (.bool z) W) by rw [hz]; exact equalIntsA_any _ _ x y W (HR1.out.ext hW) (HR2.out.ext hW)))
        clear hr1 hr2 hx hy hz hxr
        go_wp2_with fail
        refine wp_region_ext (by kernel_rfl) (by kernel_rfl) ?_
        iterate 8 (apply quiet_val; (focus rfl); (focus (intro w' hw'; have hk' := hw'.cells; go_simp; all_goals exact rfl)); simp only [Act.put, List.setIfInBounds_toArray, List.set_cons_succ, List.set_cons_zero])
        apply quiet_call; (focus rfl); (focus (intro w' hw'; go_simp; all_goals (first | exact rfl | (apply And.intro <;> exact rfl))))
        · exact fun w' hw' => Ret.quiet (HCL.out w' hw') hw'
        (simp only [Act.put, List.setIfInBounds_toArray, List.set_cons_succ, List.set_cons_zero])
        (apply quiet_val; (focus rfl); (focus (intro w' hw'; have hk' := hw'.cells; go_simp; all_goals exact rfl)); simp only [Act.put, List.setIfInBounds_toArray, List.set_cons_succ, List.set_cons_zero])
        refine wpQuiet_nil ?_
        intro w2 hx2
        have HX2 := hide (HXR.out.trans hx2)
        clear hx2 f1 f1'
        cases z with
        | true =>
          go_wp2
          go_roundw
          case rel => exact ⟨k + 1, by omega, by go_num, HX2.out, fun j hj => by
            by_cases e : j = k
            · subst e
              have := HZ.out
              rw [← HXX.out, ← HYY.out]
              simpa using this.symm
            · exact HQ.out j (by omega)⟩
          case measure => simp [intOf]; omega
        | false =>
          go_wp2
          go_ret
          refine Ret.mk (ret_b ?_) HX2.out
          symm
          rw [decide_eq_false_iff_not]
          intro e
          have h := HZ.out
          rw [HXX.out, HYY.out, e] at h
          simp at h
      · obtain rfl : k = xs.length := by omega
        go_wp2
        go_ret
        refine Ret.mk (ret_b ?_) hxr
        symm
        rw [decide_eq_true_iff]
        refine List.ext_getElem HL.out fun i h1 h2 => ?_
        have := HQ.out i h1
        unfold rw0 at this
        rwa [getD_lt _ _ h1, getD_lt _ _ h2] at this
  · have hl' : ((xs.length : Int) != (ys.length : Int)) = true := by rw [bne_iff_ne]; omega
    have HL := hide hl
    clear hl
    go_enter Try.func42, Try.ntmps42
    go_wp2
    go_ret
    exact Ret.mk (ret_b (by symm; rw [decide_eq_false_iff_not]; intro e; exact HL.out (by rw [e]))) (Ext.refl w)
/-- Two automata are the same. -/
def eqAu (r : List (List Int)) (f : List Int) (r' : List (List Int)) (f' : List Int) : Bool := decide (r = r') && decide (f = f')
theorem eqAu_self (r : List (List Int)) (f : List Int) : eqAu r f r f = true := by simp [eqAu]
set_option maxHeartbeats 2000000 in
theorem equalAutomata_any (vn vf vn' vf' : Value) (r r' : List (List Int)) (f f' : List Int) (w : World) (hN : SRows w vn r) (hF : SInts w vf f) (hN' : SRows w vn' r') (hF' : SInts w vf' f') :
    Calls Try.prog 12 #[.agg #[vn, vf], .agg #[vn', vf']] w (Ret (.bool (eqAu r f r' f')) w) := by
  have HN := hide hN
  have HF := hide hF
  have HN2 := hide hN'
  have HF2 := hide hF'
  obtain ⟨A1, c1, rfl, -⟩ := hN.form
  obtain ⟨A2, c2, rfl, -⟩ := hF.form
  obtain ⟨A3, c3, rfl, -⟩ := hN'.form
  obtain ⟨A4, c4, rfl, -⟩ := hF'.form
  clear hN hF hN' hF'
  obtain ⟨w0, hw0⟩ : ∃ w0, w0 = (w.alloc (.cells #[.slice A1 r.length c1, .slice A2 f.length c2] 26)).alloc (.cells #[.slice A3 r'.length c3, .slice A4 f'.length c4] 26) := ⟨_, rfl⟩
  have HX0 := hide (show Ext w w0 by rw [hw0]; exact ((Ext.refl w).alloc _).alloc _)
  have k0 : w0.cell? ⟨w.heap.size, 0, none⟩ = some (.slice A1 r.length c1) := by rw [hw0]; go_simp
  have k1 : w0.cell? ⟨w.heap.size, 1, none⟩ = some (.slice A2 f.length c2) := by rw [hw0]; go_simp
  have k2 : w0.cell? ⟨w.heap.size + 1, 0, none⟩ = some (.slice A3 r'.length c3) := by rw [hw0]; go_simp
  have k3 : w0.cell? ⟨w.heap.size + 1, 1, none⟩ = some (.slice A4 f'.length c4) := by rw [hw0]; go_simp
  have ks : w.heap.size < w0.heap.size := by rw [hw0]; simp; omega
  have kt : w.heap.size + 1 < w0.heap.size := by rw [hw0]; simp
  go_enter Try.func12, Try.ntmps12
  go_wp2_with fail
  rw [← hw0]
  clear hw0
  refine (equalLists_any _ _ r r' _ (HN.out.ext HX0.out) (HN2.out.ext HX0.out)).mono ?_
  rintro e w1 ⟨rfl, hx1⟩
  have k1 := (hx1.cells _ _ ks).trans k1
  have k3 := (hx1.cells _ _ kt).trans k3
  have HX1 := hide (HX0.out.trans hx1)
  clear hx1 k0 k2
  cases hq : decide (r = r') with
  | false =>
    have HV := hide (show eqAu r f r' f' = false by rw [eqAu, hq]; rfl)
    clear hq
    go_wp2
    go_ret
    exact Ret.mk (ret_b HV.out.symm) HX1.out
  | true =>
    have HV := hide (show eqAu r f r' f' = decide (f = f') by rw [eqAu, hq]; rfl)
    clear hq
    go_wp2_with fail
    refine (equalIntsA_any _ _ f f' _ (HF.out.ext HX1.out) (HF2.out.ext HX1.out)).mono ?_
    rintro e w2 ⟨rfl, hx2⟩
    have HX2 := hide (HX1.out.trans hx2)
    clear hx2
    rw [← HV.out]
    go_wp2
    go_ret
    exact Ret.mk rfl HX2.out
theorem AppI.sints9 {base : Nat} {w : World} {v : Value} {xs : List Int} (h : AppI base w v xs) (hl : xs.length ≤ 1000000) (hr : allR xs 0 5 = true) : SInts w v xs := h.sints hl (fun i hi => by have := allR_at hr hi; unfold I64; omega)
/-- A valid word came. -/
def WdGot (w : World) (e : Ending) (w' : World) : Prop := ∃ v xs, e = .returned v ∧ SInts w' v xs ∧ vWord xs = true ∧ Ext w w'
set_option maxHeartbeats 2000000 in
theorem someWord_any (v : Value) (n : Nat) (w : World) (hB : SBytes w v n) : Calls Try.prog 13 #[v] w (WdGot w) := by
  have HB := hide hB
  obtain ⟨A, c, rfl, hnc, hc, -⟩ := hB
  go_enter Try.func13, Try.ntmps13
  go_wp2_with fail
  go_loopw [3, 4] (fun o i wr => ∃ (k : Nat) (xs : List Int), i = .int .i64 k ∧ k ≤ n ∧ k ≤ 6 ∧ xs.length = k ∧ allR xs 0 5 = true ∧ AppI w.heap.size wr o xs ∧ Ext w wr) (fun _ i _ => n - (intOf i).toNat)
  case atStart => exact ⟨0, [], rfl, Nat.zero_le _, Nat.zero_le _, rfl, rfl, AppI.empty w, (Ext.refl w).alloc _⟩
  case round =>
    obtain ⟨k, xs, rfl, hk, hk6, hxl, hr, hA, hx⟩ := hrel
    have HX := hide hx
    have HXL := hide hxl
    have HR := hide hr
    have hsz := hx.size
    obtain ⟨A1, c1, hvo, -⟩ := hA.form
    rw [hxl] at hvo
    subst hvo
    have HA := hide hA
    clear hA hx hr hxl
    by_cases hkn : k < n
    · have hkI : (k : Int) < n := by omega
      by_cases hk5 : k < 6
      · have hkI6 : (k : Int) < 6 := by omega
        obtain ⟨A', c', e, -, -, hcell⟩ := HB.out.ext HX.out
        injection e with e
        subst e
        obtain ⟨b, off, rfl, hbl, hce⟩ := hcell (by omega)
        obtain ⟨x, x0, x1, fx⟩ := hce k hkn
        obtain ⟨y, hy⟩ : ∃ y, y = x % 6 := ⟨_, rfl⟩
        have hy0 : 0 ≤ y := by omega
        have hy5 : y ≤ 5 := by omega
        have ht : x.tmod 6 = y := by rw [hy]; exact Int.tmod_eq_emod_of_nonneg x0
        have hxw : IntKind.i64.wrap x = x := IntWalk.i64_in _ (by omega)
        have hyw : IntKind.i64.wrap y = y := IntWalk.i64_in _ (by omega)
        clear hcell hce hy
        go_wp2_with (at_builtin; go_must (refine wpList_app1 _ rfl _ _ rfl w.heap.size (.slice A1 k c1) xs y wr.heap.size 1 rfl rfl (HA.out.ext ((Ext.refl wr).alloc _)) (by go_simp) (by have := HXL.out; omega) (by simp; omega) ?_); intro v' w2 hA2 hb2; have HA2 := hide hA2; have HX2 := hide ((HX.out.alloc _).below hb2); clear hA2 hb2)
        go_roundw
        case rel => exact ⟨k + 1, by go_num, by omega, by omega, xs ++ [y], by have := HXL.out; simp; omega, by
          have h1 := HR.out
          unfold allR at h1 ⊢
          rw [List.all_append, h1]
          simp [inR]; omega, HA2.out, HX2.out⟩
        case measure => simp [intOf]; omega
      · have hkI6 : ¬ (k : Int) < 6 := by omega
        have HS := hide (HA.out)
        go_wp2_with fail
        go_ret
        refine ⟨_, xs, rfl, ?_, ?_, HX.out⟩
        · have := HXL.out
          exact AppI.sints9 HS.out (by omega) HR.out
        · have h1 := HR.out
          have h2 := HXL.out
          simp [vWord, h1]; omega
    · have hkI : ¬ (k : Int) < n := by omega
      go_wp2_with fail
      go_ret
      refine ⟨_, xs, rfl, ?_, ?_, HX.out⟩
      · have := HXL.out
        exact AppI.sints9 HA.out (by omega) HR.out
      · have h1 := HR.out
        have h2 := HXL.out
        simp [vWord, h1]; omega
theorem powA_bd : ∀ k : Nat, k ≤ 8 → (0 : Int) ≤ 6 ^ k ∧ (6 : Int) ^ k ≤ 1679616 := by
  intro k hk
  obtain rfl | rfl | rfl | rfl | rfl | rfl | rfl | rfl | rfl : k = 0 ∨ k = 1 ∨ k = 2 ∨ k = 3 ∨ k = 4 ∨ k = 5 ∨ k = 6 ∨ k = 7 ∨ k = 8 := by omega
  all_goals decide
set_option maxHeartbeats 1000000 in
theorem powerA_any (n : Nat) (w : World) (hn : n ≤ 8) : Calls Try.prog 21 #[.int .i64 n] w (Ret (.int .i64 (6 ^ n)) w) := by
  go_enter Try.func21, Try.ntmps21
  go_wp2_with fail
  go_loopw [3, 4] (fun o i wr => ∃ j : Nat, i = .int .i64 j ∧ o = .int .i64 (6 ^ j) ∧ j ≤ n ∧ Ext w wr) (fun _ i _ => n - (intOf i).toNat)
  case atStart => exact ⟨0, rfl, rfl, Nat.zero_le _, Ext.refl w⟩
  case round =>
    obtain ⟨j, rfl, rfl, hj, hX⟩ := hrel
    have HX := hide hX
    clear hX
    by_cases hjn : j < n
    · have hjI : (j : Int) < n := by omega
      have hp := powA_bd j (by omega)
      obtain ⟨P, hP⟩ : ∃ P : Int, P = 6 ^ j := ⟨_, rfl⟩
      rw [← hP] at hp ⊢
      have hw : IntKind.i64.wrap (P * 6) = P * 6 := IntWalk.i64_in _ (by omega)
      go_wp2_with fail
      go_roundw
      case rel => exact ⟨j + 1, by go_num, by rw [Int.pow_succ, ← hP], by omega, HX.out⟩
      case measure => simp [intOf]; omega
    · obtain rfl : j = n := by omega
      have hjI : ¬ ((j : Int) < j) := by omega
      go_wp2_with fail
      go_ret
      exact Ret.mk rfl HX.out
/-- What the program's function hands back, read. -/
theorem OutT.sp {ok : Bool} {r : List (List Int)} {f : List Int} {w w' : World} {e : Ending} (h : OutT ok r f w e w') (hok : OkA r f) : SpT ok r f w e w' := by
  obtain ⟨A, c, A', c', rfl, kb, b', m', f', h1, h2, h3, h4, -, hx⟩ := h
  exact ⟨_, _, rfl, h3.srows hok h1, SInts.own h2 (by have := hok.fl; omega) h4 hok.i64, hx⟩
/-- An automaton came. -/
def DxaGot (w : World) (e : Ending) (W' : World) : Prop :=
  ∃ vn vf a, e = .returned (.agg #[vn, vf]) ∧ SRows W' vn (Au.next a) ∧ SInts W' vf a.final ∧ Ext w W'
set_option maxRecDepth 100000 in
set_option maxHeartbeats 4000000 in
theorem DrawComplementAutomaton_any (v : Value) (nb : Nat) (w : World) (hB : SBytes w v nb) : Calls Try.prog 17 #[v] w (DxaGot w) := by
  have HB := hide hB
  obtain ⟨A, c, rfl, -⟩ := hB
  go_enter Try.func17, Try.ntmps17
  go_wp2_with fail
  refine (newReader_any w _ _ nb HB.out ((Ext.refl w).alloc _)).mono ?_
  rintro e W1 ⟨br, rfl, hR1, hx1, hbr⟩
  have hbr : w.heap.size + 1 ≤ br := by simpa using hbr
  have hrb1 : RB w.heap.size 2 W1 := by
    refine RB.keep (S := fun _ => True) ⟨by simp, fun i => World.frozen?_alloc_new _ _ _ _, fun i hi => ?_⟩ (hx1.keep _) trivial
    obtain rfl | rfl : i = 0 ∨ i = 1 := by omega
    all_goals exact ⟨_, World.cell?_alloc_at _ _ _ _ rfl⟩
  have hbrl := hR1.lt
  have HX1 := hide (((Ext.refl w).alloc _).trans hx1)
  have HR1 := hide hR1
  have HRB1 := hide hrb1
  have hws := hx1.size
  simp only [World.size_alloc] at hws
  clear hR1 hx1 hrb1
  go_wp2_with fail
  refine (anyAutomaton_any w br 0 _ (by omega) HR1.out).mono ?_
  rintro e W2 ⟨nx, fn, n, m, rfl, hn1, hn16, hm5, hT, hF, hR2, hK2⟩
  obtain ⟨An, cn, rfl, -⟩ := hT.form
  obtain ⟨Af, cf, rfl, -⟩ := hF.form
  have HT := hide hT
  have HF := hide hF
  have HK2 := hide hK2
  obtain ⟨hrl, u0, u1, r0, r1, z0, z1⟩ := (HRB1.out.keep hK2 (by omega)).two
  clear hT hF hR2 hK2
  go_wp2_with fail
  refine bodyPost_ret (v := .agg #[.slice An n cn, .slice Af m cf]) (by simp only [results, Try.results17]; go_simp) rfl ?_
  have hk : Keep (fun k => k ≠ w.heap.size) W2 _ := (((Keep.refl (fun k => k ≠ w.heap.size) W2).set (p := ⟨w.heap.size, 0, none⟩) (fun _ hh => hh rfl) (.slice An n cn)).set (p := ⟨w.heap.size, 1, none⟩) (fun _ hh => hh rfl) (.slice Af m cf))
  obtain ⟨rs, q1, q2, -⟩ := (HT.out.keep hk (fun k hk => by omega)).rows (fun l hl => by omega) (by omega) (by omega) (by omega)
  obtain ⟨xs, p1, p2, -⟩ := (HF.out.keep hk (fun k hk => by omega)).iv (by omega) (by omega) (by omega)
  exact ⟨_, _, ⟨rs, xs⟩, rfl, q2, p2.ints, ext_of_keep9 ((HX1.out.keep (fun k => k < w.heap.size)).then HK2.out (fun k hk hs => by omega)) hk (fun k hk => by omega)⟩
set_option maxRecDepth 100000 in
set_option maxHeartbeats 4000000 in
theorem DrawMinimizeAutomaton_any (v : Value) (nb : Nat) (w : World) (hB : SBytes w v nb) : Calls Try.prog 9 #[v] w (DxaGot w) := by
  have HB := hide hB
  obtain ⟨A, c, rfl, -⟩ := hB
  go_enter Try.func9, Try.ntmps9
  go_wp2_with fail
  refine (newReader_any w _ _ nb HB.out ((Ext.refl w).alloc _)).mono ?_
  rintro e W1 ⟨br, rfl, hR1, hx1, hbr⟩
  have hbr : w.heap.size + 1 ≤ br := by simpa using hbr
  have hrb1 : RB w.heap.size 2 W1 := by
    refine RB.keep (S := fun _ => True) ⟨by simp, fun i => World.frozen?_alloc_new _ _ _ _, fun i hi => ?_⟩ (hx1.keep _) trivial
    obtain rfl | rfl : i = 0 ∨ i = 1 := by omega
    all_goals exact ⟨_, World.cell?_alloc_at _ _ _ _ rfl⟩
  have hbrl := hR1.lt
  have HX1 := hide (((Ext.refl w).alloc _).trans hx1)
  have HR1 := hide hR1
  have HRB1 := hide hrb1
  have hws := hx1.size
  simp only [World.size_alloc] at hws
  clear hR1 hx1 hrb1
  go_wp2_with fail
  refine (anyAutomaton_any w br 0 _ (by omega) HR1.out).mono ?_
  rintro e W2 ⟨nx, fn, n, m, rfl, hn1, hn16, hm5, hT, hF, hR2, hK2⟩
  obtain ⟨An, cn, rfl, -⟩ := hT.form
  obtain ⟨Af, cf, rfl, -⟩ := hF.form
  have HT := hide hT
  have HF := hide hF
  have HK2 := hide hK2
  obtain ⟨hrl, u0, u1, r0, r1, z0, z1⟩ := (HRB1.out.keep hK2 (by omega)).two
  clear hT hF hR2 hK2
  go_wp2_with fail
  refine bodyPost_ret (v := .agg #[.slice An n cn, .slice Af m cf]) (by simp only [results, Try.results9]; go_simp) rfl ?_
  have hk : Keep (fun k => k ≠ w.heap.size) W2 _ := (((Keep.refl (fun k => k ≠ w.heap.size) W2).set (p := ⟨w.heap.size, 0, none⟩) (fun _ hh => hh rfl) (.slice An n cn)).set (p := ⟨w.heap.size, 1, none⟩) (fun _ hh => hh rfl) (.slice Af m cf))
  obtain ⟨rs, q1, q2, -⟩ := (HT.out.keep hk (fun k hk => by omega)).rows (fun l hl => by omega) (by omega) (by omega) (by omega)
  obtain ⟨xs, p1, p2, -⟩ := (HF.out.keep hk (fun k hk => by omega)).iv (by omega) (by omega) (by omega)
  exact ⟨_, _, ⟨rs, xs⟩, rfl, q2, p2.ints, ext_of_keep9 ((HX1.out.keep (fun k => k < w.heap.size)).then HK2.out (fun k hk hs => by omega)) hk (fun k hk => by omega)⟩
end Go.Proofs.Ytdiedghaoleblaa
