/- The walk of the law FnAutomaton: it returns true, and memory only grows. -/
import Derived.Test.YtachgijdopfghaaAtPl
import Derived.Test.YtachgijdopfghaaRgS
import Derived.Test.YtachgijdopfghaaAutC
import Derived.Test.YtachgijdopfghaaAutD
import Derived.Test.YtachgijdopfghaaAuH
namespace Go.Proofs.Ytachgijdopfghaa
open Go.RowKit
attribute [local go_sem] evalOf

/-- An automaton and a word came. -/
def DaaGot (w : World) (e : Ending) (W' : World) : Prop :=
  ∃ vn vf vx a xs, e = .returned (.tuple #[.agg #[vn, vf], vx]) ∧ SRows W' vn (Au.next a) ∧ SInts W' vf a.final ∧ SInts W' vx xs ∧ Ext w W'
set_option maxRecDepth 100000 in
set_option maxHeartbeats 4000000 in
theorem DrawAutomatonAccepts_any (v : Value) (nb : Nat) (w : World) (hB : SBytes w v nb) : Calls Try.prog 10 #[v] w (DaaGot w) := by
  have HB := hide hB
  obtain ⟨A, c, rfl, -⟩ := hB
  go_enter Try.func10, Try.ntmps10
  go_wp2_with fail
  refine (newReader_any w _ _ nb HB.out ((Ext.refl w).alloc _)).mono ?_
  rintro e W1 ⟨br, rfl, hR1, hx1, hbr⟩
  have hbr : w.heap.size + 1 ≤ br := by simpa using hbr
  have hrb1 : RB w.heap.size 2 W1 := by
    refine RB.keep (S := fun _ => True) ⟨by simp, fun i => World.frozen?_alloc_new _ _ _ _, fun i hi => ?_⟩ (hx1.keep _) trivial
    obtain rfl | rfl : i = 0 ∨ i = 1 := by omega
    all_goals exact ⟨_, World.cell?_alloc_at _ _ _ _ rfl⟩
  have hbrl := hR1.lt
  have HX1 := hide (((Ext.refl w).alloc _).trans hx1)
  have HR1 := hide hR1
  have HRB1 := hide hrb1
  have hws := HX1.out.size
  clear hR1 hx1 hrb1
  go_wp2_with fail
  refine (anyAutomaton_any w br 0 _ (by omega) HR1.out).mono ?_
  rintro e W2 ⟨nx, fn, n, m, rfl, hn1, hn16, hm5, hT, hF, hR2, hK2⟩
  obtain ⟨An, cn, rfl, -⟩ := hT.form
  obtain ⟨Af, cf, rfl, -⟩ := hF.form
  have HJ := hide (XJ.start 26 hT hF hn16 hm5 hR2 hK2 hbrl)
  clear hT hF hR2 hK2
  go_upto_region 3 with fail
  obtain ⟨W3, hW3⟩ : ∃ W3, W3 = W2.alloc (.cells #[.slice An n cn, .slice Af m cf] 26) := ⟨_, rfl⟩
  rw [← hW3] at HJ ⊢
  clear hW3
  have m0 := HJ.out.m0
  have m1 := HJ.out.m1
  have hml := HJ.out.sz
  have hmge := HJ.out.ge
  have hws3 := HJ.out.kp.size
  have hmb : W2.heap.size ≠ br := by omega
  refine wp_region_any (by kernel_rfl) ?_
  change wpAny _ _ _ _ _ _ _ (World.drew _)
  refine wpAny_take (i := 1) (v := ?_) rfl (by kernel_rfl) (by kernel_rfl) (by kernel_rfl) (by first | exact fun _ _ _ h => h | (rintro _ _ _ ⟨h, _⟩; cases h)) (Or.inl ⟨by rfl, ?hy1⟩) ?_
  case hy1 => intro w; go_simp; with_reducible rfl
  simp only [Act.put, List.getElem_toArray, List.getElem_cons_zero, List.getElem_cons_succ, List.setIfInBounds_toArray, List.set_cons_succ, List.set_cons_zero]
  refine wpAny_flt 0 3 [2] [4] (.agg #[.slice An n cn, .slice Af m cf]) (fun w => w.cell? ⟨W2.heap.size, 0, none⟩ = some (.slice An n cn) ∧ w.cell? ⟨W2.heap.size, 1, none⟩ = some (.slice Af m cf)) rfl (by kernel_rfl) rfl (fun _ _ _ h => h) ⟨m0, m1⟩ (And.intro (by rfl) ?hys) ?_
  case hys => intro w' hw'; obtain ⟨hk1, hk2⟩ : w'.cell? ⟨W2.heap.size, 0, none⟩ = some (.slice An n cn) ∧ w'.cell? ⟨W2.heap.size, 1, none⟩ = some (.slice Af m cf) := hw'; go_simp; all_goals exact rfl
  simp only [nths, nth1, Act.put, List.setIfInBounds_toArray, List.set_cons_succ, List.set_cons_zero]
  refine wpSeqC_cons fun K hK => ?_
  go_simp
  refine (anyWord_any w br 80 _ (by omega) ((HJ.out.rd.mono (by omega)).grow (Ext.refl W3).drew)).mono ?_
  rintro e W5 ⟨vx, xs, rfl, hxl, hIV, hR5, hK5⟩
  have hK5 : Keep (fun k => k ≠ br) W3 W5 := (((Ext.refl W3).drew).keep _).trans hK5
  have HJ5 := hide (HJ.out.keep hR5 hK5)
  obtain ⟨Ax, cx, rfl, -⟩ := hIV.form
  have HIV := hide hIV
  refine hK _ _ ⟨HJ5.out.m0, HJ5.out.m1⟩ ?_
  clear hK K hR5 hK5 hIV
  obtain ⟨hrl, u0, u1, r0, r1, z0, z1⟩ := (HRB1.out.keep HJ5.out.kp (by omega)).two
  refine wpSeqC_nil ?_
  go_wp2_with fail
  refine bodyPost_ret (v := .tuple #[.agg #[.slice An n cn, .slice Af m cf], .slice Ax xs.length cx]) (by simp only [results, Try.results10]; go_simp) rfl ?_
  have hk : Keep (fun k => k ≠ w.heap.size) W5 _ := (((Keep.refl (fun k => k ≠ w.heap.size) W5).set (p := ⟨w.heap.size, 0, none⟩) (fun _ hh => hh rfl) (.slice An n cn)).set (p := ⟨w.heap.size, 1, none⟩) (fun _ hh => hh rfl) (.slice Af m cf))
  obtain ⟨a, rfl, rfl, q3, q4⟩ := HJ5.out.auto hk (fun k hk => by omega)
  have hw3 : W3.drew.heap.size = W3.heap.size := rfl
  exact ⟨_, _, _, a, xs, rfl, q3, q4, (HIV.out.keep hk (fun k hk => by omega)).ints, ext_of_keep9 ((HX1.out.keep (fun k => k < w.heap.size)).then HJ5.out.kp (fun k hk hs => by omega)) hk (fun k hk => by omega)⟩
set_option maxRecDepth 100000 in
set_option maxHeartbeats 2000000 in
theorem DomainRange05_any (w : World) : Calls Try.prog 14 #[.int .i64 0, .int .i64 5] w (fun e w' => e = .returned (.int .i64 63) ∧ w = w') := by
  go_enter Try.func14, Try.ntmps14
  go_wp2
  go_loop [5, 7] (fun d i => ∃ k : Nat, k ≤ 6 ∧ i = .int .i64 k ∧ d = .int .i64 (2 ^ k - 1)) (fun _ i => 6 - (intOf i).toNat)
  case atStart => exact ⟨0, Nat.zero_le _, rfl, rfl⟩
  case round =>
    obtain ⟨k, hk, rfl, rfl⟩ := hrel
    obtain rfl | rfl | rfl | rfl | rfl | rfl | rfl : k = 0 ∨ k = 1 ∨ k = 2 ∨ k = 3 ∨ k = 4 ∨ k = 5 ∨ k = 6 := by omega
    · go_wp2_with (go_at_call 20; refine (within_any _ _ _ _).mono ?_; rintro e w' ⟨rfl, rfl⟩)
      go_round
      case rel => exact ⟨1, by omega, rfl, rfl⟩
      case measure => simp [intOf]
    · go_wp2_with (go_at_call 20; refine (within_any _ _ _ _).mono ?_; rintro e w' ⟨rfl, rfl⟩)
      go_round
      case rel => exact ⟨2, by omega, rfl, rfl⟩
      case measure => simp [intOf]
    · go_wp2_with (go_at_call 20; refine (within_any _ _ _ _).mono ?_; rintro e w' ⟨rfl, rfl⟩)
      go_round
      case rel => exact ⟨3, by omega, rfl, rfl⟩
      case measure => simp [intOf]
    · go_wp2_with (go_at_call 20; refine (within_any _ _ _ _).mono ?_; rintro e w' ⟨rfl, rfl⟩)
      go_round
      case rel => exact ⟨4, by omega, rfl, rfl⟩
      case measure => simp [intOf]
    · go_wp2_with (go_at_call 20; refine (within_any _ _ _ _).mono ?_; rintro e w' ⟨rfl, rfl⟩)
      go_round
      case rel => exact ⟨5, by omega, rfl, rfl⟩
      case measure => simp [intOf]
    · go_wp2_with (go_at_call 20; refine (within_any _ _ _ _).mono ?_; rintro e w' ⟨rfl, rfl⟩)
      go_round
      case rel => exact ⟨6, by omega, rfl, rfl⟩
      case measure => simp [intOf]
    · go_wp2
      go_ret
      exact ⟨rfl, rfl⟩
set_option maxHeartbeats 1000000 in
theorem inRangeL_any (v : Value) (xs : List Int) (w : World) (hS : SInts w v xs) :
    Calls Try.prog 13 #[v] w fun e w' => e = .returned (.bool (allR xs 0 5)) ∧ w = w' := by
  have hS0 := hide hS
  obtain ⟨A, cp, rfl, hl, hlen⟩ := hS.form
  clear hS
  go_enter Try.func13, Try.ntmps13
  go_wp2
  go_loop [3] (fun i => ∃ k : Nat, k ≤ xs.length ∧ i = .int .i64 k ∧ (∀ j, j < k → inR (at0 xs j) 0 5 = true)) (fun i => xs.length - (intOf i).toNat)
  case atStart => exact ⟨0, Nat.zero_le _, rfl, fun j hj => absurd hj (by omega)⟩
  case round =>
    obtain ⟨k, hk, rfl, hv⟩ := hrel
    have Hv := hide hv; clear hv
    by_cases hlt : k < xs.length
    · obtain ⟨b, off, rfl, hbl, f1⟩ := hS0.out.at_ hlt
      have hltI : (k : Int) < xs.length := by omega
      by_cases h1 : at0 xs k < 0
      · have hb := allR_no (l := 0) (h := 5) hlt (by simp [inR]; omega)
        go_wp2
        go_ret
        exact ⟨rfl, rfl⟩
      · by_cases h2 : 5 < at0 xs k
        · have hb := allR_no (l := 0) (h := 5) hlt (by simp [inR]; omega)
          go_wp2
          go_ret
          exact ⟨rfl, rfl⟩
        · have hi : inR (at0 xs k) 0 5 = true := by simp [inR]; omega
          go_wp2
          go_round
          case rel => exact ⟨k + 1, by omega, by go_num, upto_succ Hv.out hi⟩
          case measure => simp [intOf]; omega
    · have hkl : k = xs.length := by omega
      subst hkl
      have hltI : ¬ ((xs.length : Int) < xs.length) := by omega
      go_wp2
      go_ret
      exact ⟨ret_b (allR_of Hv.out).symm, rfl⟩
set_option maxRecDepth 100000 in
set_option maxHeartbeats 8000000 in
theorem lawAutomatonP (v : Value) (n : Nat) (w : World) (hB : SBytes w v n) (_hn : n ≤ 140737488351232) :
    Calls Try.prog 4 #[v] w (Ret (.bool true) w) := by
  have HB := hide hB
  obtain ⟨A, c, rfl, -⟩ := hB
  by_cases hl : (1048576 : Int) < n
  · go_enter Try.func4, Try.ntmps4
    go_wp2
    go_ret
    exact Ret.mk rfl (Ext.refl _)
  · go_enter Try.func4, Try.ntmps4
    go_wp2_with fail
    refine (DrawAutomatonAccepts_any _ n _ HB.out).mono ?_
    rintro e w1 ⟨vn, vf, vx, a, xs, rfl, hN, hF, hX, hx1⟩
    have HN := hide hN
    have HF := hide hF
    have HW := hide hX
    obtain ⟨An, cn, rfl, -⟩ := hN.form
    obtain ⟨Af, cf, rfl, -⟩ := hF.form
    obtain ⟨Ax, cx, rfl, -⟩ := hX.form
    have HX1 := hide hx1
    clear hN hF hX hx1
    obtain ⟨K, hK⟩ : ∃ K, K = accB a xs := ⟨_, rfl⟩
    have HK := hide hK
    clear hK
    go_wp2_with fail
    have hxa : Ext w1 (w1.alloc (.cells #[.slice An a.next.length cn, .slice Af a.final.length cf] 26)) := (Ext.refl w1).alloc _
    refine (AutomatonAcceptsI_any _ _ _ a xs _ (HN.out.ext hxa) (HF.out.ext hxa) (HW.out.ext hxa)).mono ?_
    rw [← HK.out]
    rintro e w2 ⟨rfl, hx2⟩
    obtain ⟨ab, hab⟩ : ∃ ab, ab = w1.heap.size := ⟨_, rfl⟩
    have m0 : w2.cell? ⟨ab, 0, none⟩ = some (.slice An a.next.length cn) := by rw [hab]; exact (hx2.cells _ _ (by simp)).trans (World.cell?_alloc_at _ _ _ _ rfl)
    have m1 : w2.cell? ⟨ab, 1, none⟩ = some (.slice Af a.final.length cf) := by rw [hab]; exact (hx2.cells _ _ (by simp)).trans (World.cell?_alloc_at _ _ _ _ rfl)
    have hml : ab < w2.heap.size := by have := hx2.size; simp at this; omega
    rw [← hab]
    have HX2 := hide (hxa.trans hx2)
    clear hx2 hxa hab
    have HM0 := hide m0
    have HM1 := hide m1
    clear m0 m1
    have step : ∀ (W : World), Ext w2 W → W.cell? ⟨ab, 0, none⟩ = some (.slice An a.next.length cn) ∧ W.cell? ⟨ab, 1, none⟩ = some (.slice Af a.final.length cf) := fun W hx => ⟨(hx.cells _ _ hml).trans HM0.out, (hx.cells _ _ hml).trans HM1.out⟩
    have HST := hide step
    clear step
    obtain ⟨m0, m1⟩ := HST.out w2 (Ext.refl _)
    cases hv : vAut a with
    | false =>
      have HV := hide hv
      clear hv
      go_wp2_with fail
      refine (AutomatonAcceptsS_any _ _ _ a xs _ (HN.out.ext HX2.out) (HF.out.ext HX2.out) (HW.out.ext HX2.out)).mono ?_
      rw [← HK.out]
      rintro e w3 ⟨rfl, hx3⟩
      clear m0 m1
      obtain ⟨m0, m1⟩ := HST.out w3 hx3
      have HX3 := hide (HX2.out.trans hx3)
      have HY3 := hide hx3
      clear hx3
      go_wp2_with fail
      refine (ValidAutomatonI_any _ _ a _ (HN.out.ext HX3.out) (HF.out.ext HX3.out)).mono ?_
      rintro e w4 ⟨rfl, hx4⟩
      clear m0 m1
      obtain ⟨m0, m1⟩ := HST.out w4 (HY3.out.trans hx4)
      have HX4 := hide (HX3.out.trans hx4)
      have HY4 := hide (HY3.out.trans hx4)
      clear hx4
      rw [HV.out]
      go_wp2_with fail
      refine (AutomatonAcceptsS_any _ _ _ a xs _ (HN.out.ext HX4.out) (HF.out.ext HX4.out) (HW.out.ext HX4.out)).mono ?_
      rw [← HK.out]
      rintro e w6 ⟨rfl, hx6⟩
      have HX6 := hide (HX4.out.trans hx6)
      clear hx6
      go_wp2_with fail
      go_ret
      exact Ret.mk rfl (HX1.out.trans HX6.out)
    | true =>
      have HV := hide hv
      clear hv
      by_cases h0 : xs.length = 0
      · have h0I : ((xs.length : Int) == 0) = true := by simp [h0]
        clear h0
        go_wp2_with fail
        refine (AutomatonAcceptsS_any _ _ _ a xs _ (HN.out.ext HX2.out) (HF.out.ext HX2.out) (HW.out.ext HX2.out)).mono ?_
        rw [← HK.out]
        rintro e w3 ⟨rfl, hx3⟩
        clear m0 m1
        obtain ⟨m0, m1⟩ := HST.out w3 hx3
        have HX3 := hide (HX2.out.trans hx3)
        have HY3 := hide hx3
        clear hx3
        go_wp2_with fail
        refine (ValidAutomatonI_any _ _ a _ (HN.out.ext HX3.out) (HF.out.ext HX3.out)).mono ?_
        rintro e w4 ⟨rfl, hx4⟩
        clear m0 m1
        obtain ⟨m0, m1⟩ := HST.out w4 (HY3.out.trans hx4)
        have HX4 := hide (HX3.out.trans hx4)
        have HY4 := hide (HY3.out.trans hx4)
        clear hx4
        rw [HV.out]
        go_wp2_with fail
        refine (AutomatonAcceptsS_any _ _ _ a xs _ (HN.out.ext HX4.out) (HF.out.ext HX4.out) (HW.out.ext HX4.out)).mono ?_
        rw [← HK.out]
        rintro e w6 ⟨rfl, hx6⟩
        have HX6 := hide (HX4.out.trans hx6)
        clear hx6
        go_wp2_with fail
        go_ret
        exact Ret.mk rfl (HX1.out.trans HX6.out)
      · have h0I : ((xs.length : Int) == 0) = false := by simp [h0]
        have H0 := hide h0
        clear h0
        by_cases h4 : 4 < xs.length
        · have h4I : (4 : Int) < xs.length := by omega
          go_wp2_with fail
          refine (AutomatonAcceptsS_any _ _ _ a xs _ (HN.out.ext HX2.out) (HF.out.ext HX2.out) (HW.out.ext HX2.out)).mono ?_
          rw [← HK.out]
          rintro e w3 ⟨rfl, hx3⟩
          clear m0 m1
          obtain ⟨m0, m1⟩ := HST.out w3 hx3
          have HX3 := hide (HX2.out.trans hx3)
          have HY3 := hide hx3
          clear hx3
          go_wp2_with fail
          refine (ValidAutomatonI_any _ _ a _ (HN.out.ext HX3.out) (HF.out.ext HX3.out)).mono ?_
          rintro e w4 ⟨rfl, hx4⟩
          clear m0 m1
          obtain ⟨m0, m1⟩ := HST.out w4 (HY3.out.trans hx4)
          have HX4 := hide (HX3.out.trans hx4)
          have HY4 := hide (HY3.out.trans hx4)
          clear hx4
          rw [HV.out]
          go_wp2_with fail
          refine (AutomatonAcceptsS_any _ _ _ a xs _ (HN.out.ext HX4.out) (HF.out.ext HX4.out) (HW.out.ext HX4.out)).mono ?_
          rw [← HK.out]
          rintro e w6 ⟨rfl, hx6⟩
          have HX6 := hide (HX4.out.trans hx6)
          clear hx6
          go_wp2_with fail
          go_ret
          exact Ret.mk rfl (HX1.out.trans HX6.out)
        · have h4I : ¬ (4 : Int) < xs.length := by omega
          have H4 := hide h4
          clear h4
          cases hr : allR xs 0 5 with
          | false =>
            have HR := hide hr
            clear hr
            go_wp2_with fail
            refine (AutomatonAcceptsS_any _ _ _ a xs _ (HN.out.ext HX2.out) (HF.out.ext HX2.out) (HW.out.ext HX2.out)).mono ?_
            rw [← HK.out]
            rintro e w3 ⟨rfl, hx3⟩
            clear m0 m1
            obtain ⟨m0, m1⟩ := HST.out w3 hx3
            have HX3 := hide (HX2.out.trans hx3)
            have HY3 := hide hx3
            clear hx3
            go_wp2_with fail
            refine (ValidAutomatonI_any _ _ a _ (HN.out.ext HX3.out) (HF.out.ext HX3.out)).mono ?_
            rintro e w4 ⟨rfl, hx4⟩
            clear m0 m1
            obtain ⟨m0, m1⟩ := HST.out w4 (HY3.out.trans hx4)
            have HX4 := hide (HX3.out.trans hx4)
            have HY4 := hide (HY3.out.trans hx4)
            clear hx4
            rw [HV.out]
            go_wp2_with fail
            refine (inRangeL_any _ xs _ (HW.out.ext HX4.out)).mono ?_
            rintro e w5 ⟨rfl, rfl⟩
            rw [HR.out]
            go_wp2_with fail
            refine (AutomatonAcceptsS_any _ _ _ a xs _ (HN.out.ext HX4.out) (HF.out.ext HX4.out) (HW.out.ext HX4.out)).mono ?_
            rw [← HK.out]
            rintro e w6 ⟨rfl, hx6⟩
            have HX6 := hide (HX4.out.trans hx6)
            clear hx6
            go_wp2_with fail
            go_ret
            exact Ret.mk rfl (HX1.out.trans HX6.out)
          | true =>
            have HR := hide hr
            clear hr
            go_wp2_with fail
            refine (AutomatonAcceptsS_any _ _ _ a xs _ (HN.out.ext HX2.out) (HF.out.ext HX2.out) (HW.out.ext HX2.out)).mono ?_
            rw [← HK.out]
            rintro e w3 ⟨rfl, hx3⟩
            clear m0 m1
            obtain ⟨m0, m1⟩ := HST.out w3 hx3
            have HX3 := hide (HX2.out.trans hx3)
            have HY3 := hide hx3
            clear hx3
            go_wp2_with fail
            refine (ValidAutomatonI_any _ _ a _ (HN.out.ext HX3.out) (HF.out.ext HX3.out)).mono ?_
            rintro e w4 ⟨rfl, hx4⟩
            clear m0 m1
            obtain ⟨m0, m1⟩ := HST.out w4 (HY3.out.trans hx4)
            have HX4 := hide (HX3.out.trans hx4)
            have HY4 := hide (HY3.out.trans hx4)
            clear hx4
            rw [HV.out]
            go_wp2_with fail
            refine (inRangeL_any _ xs _ (HW.out.ext HX4.out)).mono ?_
            rintro e w5 ⟨rfl, rfl⟩
            rw [HR.out]
            have hml4 : ab < w4.heap.size := Nat.lt_of_lt_of_le hml HY4.out.size
            go_wp2_with fail
            clear m0 m1
            go_loopw [8] (fun i wr => ∃ (j : Nat) (vd vv : Value), i = .int .i64 j ∧ j ≤ xs.length ∧ RgSt w4 w4.heap.size (w4.heap.size + 1) (.slice Af a.final.length cf) (.slice An a.next.length cn) vd vv (List.replicate j 63) (uptoL j) wr) (fun i _ => xs.length - (intOf i).toNat)
            case atStart => exact ⟨0, _, _, rfl, Nat.zero_le _, RgSt.start w4 _ _ _ _⟩
            case round =>
              obtain ⟨j, vd, vv, rfl, hj, hS⟩ := hrel
              obtain ⟨Ad, cd, rfl, -⟩ := hS.d.form
              obtain ⟨Av, cv, rfl, -⟩ := hS.v.form
              rw [List.length_replicate, uptoL_len] at hS
              have HS := hide hS
              have m0 := hS.m0
              have hlm := hS.lm
              have hge4 := hS.ext.size
              clear hS
              by_cases hjn : j < xs.length
              · have hjI : (j : Int) < xs.length := by omega
                go_upto_region 12 with fail
                refine wp_region_any (by kernel_rfl) ?_
                change wpAny _ _ _ _ _ _ _ (World.drew _)
                refine wpAny_take (i := 0) (v := ?_) rfl (by kernel_rfl) (by kernel_rfl) (by kernel_rfl) (by first | exact fun _ _ _ h => h | (rintro _ _ _ ⟨h, _⟩; cases h)) (Or.inl ⟨by rfl, ?hy0⟩) ?_
                case hy0 => intro w; go_simp; with_reducible rfl
                simp only [Act.put, List.getElem_toArray, List.getElem_cons_zero, List.setIfInBounds_toArray, List.set_cons_succ, List.set_cons_zero]
                refine wpAny_flt 1 4 [2, 3] [5, 6] (.slice Ad j cd) (fun w => w.cell? ⟨w4.heap.size, 0, none⟩ = some (.slice Ad j cd)) rfl (by kernel_rfl) rfl (fun _ _ _ h => h) m0 (And.intro (by rfl) ?hys) ?_
                case hys => intro w' hw'; have hk' : w'.cell? ⟨w4.heap.size, 0, none⟩ = some (.slice Ad j cd) := hw'; go_simp; all_goals exact rfl
                simp only [nths, nth1, Act.put, List.setIfInBounds_toArray, List.set_cons_succ, List.set_cons_zero]
                refine wpSeqC_cons fun K hK => ?_
                go_simp
                refine (DomainRange05_any _).mono ?_
                rintro e W5 ⟨rfl, rfl⟩
                refine hK _ _ m0 ?_
                clear hK K
                refine wpSeqC_cons fun K hK => ?_
                go_simp
                refine hK _ _ ?_ ?_
                · show World.cell? (World.alloc _ _) _ = _
                  exact (((Ext.refl wr).drew.alloc _).cells _ _ hlm).trans m0
                clear hK K
                refine wpSeqC_nil ?_
                have HS5 := hide (HS.out.grow ((Ext.refl wr).drew.alloc (.cells #[.int .i64 63] 3)))
                have hd5 := HS5.out.d
                refine wpList_appIO _ rfl _ _ rfl w4.heap.size (.slice Ad j cd) (List.replicate j 63) 63 wr.drew.heap.size 1 rfl rfl hd5 (World.cell?_alloc_at _ _ _ _ rfl) (by rw [List.length_replicate]; omega) (by simp [World.drew]; omega) ?_
                intro v' W6 hA6 hg6 ho6
                rw [show List.replicate j (63 : Int) ++ [63] = List.replicate (j + 1) 63 from (List.replicate_succ' ..).symm] at hA6
                obtain ⟨r0, r1⟩ := HS5.out.roomD hg6
                have hlm6 := Nat.lt_of_lt_of_le HS5.out.lm hg6.size
                obtain ⟨A6, c6, hv6, -⟩ := hA6.form
                rw [List.length_replicate] at hv6
                subst hv6
                have h7 := HS5.out.addD (x := 63) (by rw [show List.replicate j (63 : Int) ++ [63] = List.replicate (j + 1) 63 from (List.replicate_succ' ..).symm]; exact hA6) hg6 ho6
                rw [show List.replicate j (63 : Int) ++ [63] = List.replicate (j + 1) 63 from (List.replicate_succ' ..).symm] at h7
                have HS7 := hide h7
                clear hA6 hg6 ho6 hd5 h7
                go_upto_region 13 with fail
                obtain ⟨W7, hW7⟩ : ∃ W7, W7 = W6.setCell ⟨w4.heap.size, 0, none⟩ (.slice A6 (j + 1) c6) := ⟨_, rfl⟩
                rw [← hW7] at HS7 ⊢
                have h7 := HS7.out
                clear hW7 r0 r1 m0 hlm hlm6 HS5
                have c1 := h7.c1
                have hlc := h7.lc
                have hge7 := h7.ext.size
                have HV8 := hide (h7.grow ((Ext.refl W7).alloc (.cells #[.int .i64 j] 3)))
                clear h7
                go_wp2_with (at_builtin; go_must (refine wpList_appIO _ rfl _ _ rfl w4.heap.size (.slice Av j cv) (uptoL j) (j : Int) W7.heap.size 1 rfl rfl HV8.out.v (World.cell?_alloc_at _ _ _ _ rfl) (by rw [uptoL_len]; omega) (by simp; omega) ?_); intro v' W8 hA8 hg8 ho8; obtain ⟨r0, r1⟩ := HV8.out.roomV hg8; have hlc8 := Nat.lt_of_lt_of_le HV8.out.lc hg8.size; have HS9 := hide (HV8.out.addV hA8 hg8 ho8); obtain ⟨A8, c8, hv8, -⟩ := hA8.form; rw [← uptoL_succ, uptoL_len] at hv8; subst hv8; clear hA8 hg8 ho8)
                go_roundw
                case rel => exact ⟨j + 1, _, _, by go_num, by omega, by rw [uptoL_succ]; exact HS9.out⟩
                case measure => simp [intOf]; omega
              · obtain rfl : j = xs.length := by omega
                have hjI : ¬ ((xs.length : Int) < xs.length) := by omega
                have h7 := HS.out
                have m1 := h7.m1
                have zn := h7.zn
                have c0 := h7.c0
                have c1 := h7.c1
                have c2 := h7.c2
                have c3 := h7.c3
                have c4 := h7.c4
                have hlc := h7.lc
                have HC8 := hide (h7.grow ((Ext.refl wr).alloc (.cells #[.int .i64 8, .slice Av xs.length cv, .slice Af a.final.length cf, .int .i64 0, .slice An a.next.length cn] 41)))
                clear h7
                go_wp2_with (at_builtin; go_must (refine wpList_appC1 _ rfl _ _ rfl wr.heap.size 1 (.int .i64 8) (.slice Av xs.length cv) (.slice Af a.final.length cf) (.int .i64 0) (.slice An a.next.length cn) rfl rfl (by go_simp) (by go_simp) (by go_simp) (by go_simp) (by go_simp) (by simp [Value.oneCell']) ?_); intro g cap' W8 hx hcap hge hg d0 d1 d2 d3 d4; have hC8 := HC8.out.grow hx; have m0' := hC8.m0; have m1' := hC8.m1; have zn' := hC8.zn; have hlm8 := hC8.lm; have HC9 := hide hC8; have HD := hide (And.intro d0 (And.intro d1 (And.intro d2 (And.intro d3 d4)))); have HXG := hide (And.intro hcap (And.intro hge hg)); clear hC8 hx d0 d1 d2 d3 d4 hcap hge hg)
                obtain ⟨W9, hW9⟩ : ∃ W9, W9 = W8.setCell ⟨w4.heap.size, 1, none⟩ (.slice (some ⟨g, 0, none⟩) 1 cap') := ⟨_, rfl⟩
                rw [← hW9]
                have hk9 : Keep (fun k => k ≠ w4.heap.size) W8 W9 := by rw [hW9]; exact (Keep.refl _ _).set (p := ⟨w4.heap.size, 1, none⟩) (fun _ hh => hh rfl) _
                have n0 : W9.cell? ⟨w4.heap.size, 0, none⟩ = some (.slice Ad xs.length cd) := by rw [hW9]; exact (World.cell?_setCell_other _ _ _ _ (by simp)).trans m0'
                have n1 : W9.cell? ⟨w4.heap.size, 1, none⟩ = some (.slice (some ⟨g, 0, none⟩) 1 cap') := by rw [hW9]; exact World.cell?_setCell_same' _ _ _ (by rw [m1']; rfl)
                obtain ⟨hcap, hge, hg⟩ := HXG.out
                simp only [World.size_alloc] at hge
                have hlm9 := Nat.lt_of_lt_of_le hlm8 hk9.size
                have hE9 : Ext w4 W9 := Below.trans HC9.out.ext (hk9.below HC9.out.ext.size (fun k hk => by omega))
                have HE9 := hide (HX4.out.trans hE9)
                have hgm : g ≠ w4.heap.size := by omega
                have hB : ∀ k, (Value.slice Ad xs.length cd).ownBlock = some k → k ≠ w4.heap.size := fun k e => (HC9.out.dv k e).1
                have hV : ∀ k, (Value.slice Av xs.length cv).ownBlock = some k → k ≠ w4.heap.size := fun k e => (HC9.out.vo k e).1
                have hD9 : SInts W9 (.slice Ad xs.length cd) (List.replicate xs.length 63) := (HC9.out.d.keep hk9 hB).sints (by rw [List.length_replicate]; omega) (fun i hi => by
                  rw [List.length_replicate] at hi
                  have : at0 (List.replicate xs.length (63 : Int)) i = 63 := by unfold at0; rw [getD_lt _ _ (by simpa using hi)]; simp
                  rw [this]; unfold I64; omega)
                have hV9 : SInts W9 (.slice Av xs.length cv) (uptoL xs.length) := (HC9.out.v.keep hk9 hV).sints (by rw [uptoL_len]; omega) (fun i hi => by
                  rw [uptoL_len] at hi
                  rw [uptoL_at hi]; unfold I64; omega)
                obtain ⟨d0, d1, d2, d3, d4⟩ := HD.out
                have hC9 : SCons W9 (.slice (some ⟨g, 0, none⟩) 1 cap') [⟨8, uptoL xs.length, a.final, 0, a.next⟩] :=
                  ⟨some ⟨g, 0, none⟩, cap', rfl, hcap, by simp, fun _ => ⟨g, 0, rfl, Nat.lt_of_lt_of_le hg hk9.size, fun i hi => by
                    obtain rfl : i = 0 := by simp at hi; omega
                    exact ⟨_, _, _, (hk9.cell (p := ⟨g, 0, none⟩) hg hgm).trans d0, (hk9.cell (p := ⟨g, 1, none⟩) hg hgm).trans d1, (hk9.cell (p := ⟨g, 2, none⟩) hg hgm).trans d2, (hk9.cell (p := ⟨g, 3, none⟩) hg hgm).trans d3, (hk9.cell (p := ⟨g, 4, none⟩) hg hgm).trans d4, hV9, HF.out.ext HE9.out, HN.out.ext HE9.out⟩⟩⟩
                have HD9 := hide hD9
                have HC9' := hide hC9
                have h63 : ∀ i, i < (List.replicate xs.length (63 : Int)).length → at0 (List.replicate xs.length (63 : Int)) i = 63 := fun i hi => by unfold at0; rw [getD_lt _ _ hi]; simp
                have H63 := hide h63
                clear hW9 m0' m1' zn' hge hD9 hV9 d0 d1 d2 d3 d4 hC9 hE9 hk9 hlm8 hg hgm hB hV h63 m1 zn c0 c1 c2 c3 c4 hlc m0 hlm
                refine (ValidModelI_any _ _ (List.replicate xs.length 63) [⟨8, uptoL xs.length, a.final, 0, a.next⟩] _ HD9.out HC9'.out (fun i _ => fits_all _)).mono ?_
                rintro e w10 ⟨rfl, hx10⟩
                have n0 := (hx10.cells _ _ hlm9).trans n0
                have n1 := (hx10.cells _ _ hlm9).trans n1
                have HX10 := hide hx10
                clear hx10
                cases hm : vMod (List.replicate xs.length 63) [⟨8, uptoL xs.length, a.final, 0, a.next⟩] with
                | false =>
                  clear hm
                  go_wp2_with fail
                  go_ret
                  exact Ret.mk rfl (HX1.out.trans (HE9.out.trans HX10.out))
                | true =>
                  have HLW := hide ((reg_law HV.out (by have := H4.out; omega) HR.out (by simp) H63.out hm).trans HK.out.symm)
                  clear hm
                  go_wp2_with fail
                  refine (IsSolutionI_any _ _ _ (List.replicate xs.length 63) [⟨8, uptoL xs.length, a.final, 0, a.next⟩] xs _ (HD9.out.ext HX10.out) (HC9'.out.ext HX10.out) (HW.out.ext (HE9.out.trans HX10.out))).mono ?_
                  rintro e w11 ⟨rfl, hx11⟩
                  rw [HLW.out]
                  have HX11 := hide (HX10.out.trans hx11)
                  clear hx11
                  go_wp2_with fail
                  go_ret
                  exact Ret.mk rfl (HX1.out.trans (HE9.out.trans HX11.out))
end Go.Proofs.Ytachgijdopfghaa
