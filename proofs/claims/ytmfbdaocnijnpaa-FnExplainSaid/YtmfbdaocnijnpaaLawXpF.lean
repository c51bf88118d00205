/- The walk of the law FnExplain: it returns true, and memory only grows. -/
import Derived.Test.YtmfbdaocnijnpaaLawXfF
import Derived.Deep.CutBlock
import Derived.Deep.DeepCutAuto
namespace Go.Proofs.Ytmfbdaocnijnpaa
open Go.RowKit

theorem wpAny_sqX {P : Program} {Q : Exit → Act → World → Prop} {a : Act} {w : World} {f : Nat} {l : List Oper} {S0 : Array Bool} (ts : List Nat)
    (hB : ((ts.all fun k => decide (k < l.length)) && seqIx .any l.toArray ts S0) = true) (hf : f = ts.length) (h : wpList P l.toArray Q (nths l ts) a w) : wpAny P .any l.toArray Q f S0 a w := by
  subst hf
  simp only [Bool.and_eq_true] at hB
  exact wpAny_of_seqIx ts (nths l ts) S0 a w (nths_eq l ts hB.1) hB.2 h
set_option maxRecDepth 100000 in
set_option maxHeartbeats 2000000 in
theorem equalRemovals_same (v v' : Value) (xs : List Rm) (w : World) (hS : SRm w v xs) (hS' : SRm w v' xs) : Calls Try.prog 16 #[v, v'] w (Ret (.bool true) w) := by
  have hS0 := hide hS
  have hS0' := hide hS'
  obtain ⟨A, c, rfl, -, hln⟩ := hS.form
  obtain ⟨A', c', rfl, -, -⟩ := hS'.form
  clear hS hS'
  go_enter Try.func16, Try.ntmps16
  go_wp2
  go_loopw [5] (fun i wr => ∃ k : Nat, k ≤ xs.length ∧ i = .int .i64 k ∧ Ext w wr) (fun i _ => xs.length - (intOf i).toNat)
  case atStart => exact ⟨0, Nat.zero_le _, rfl, Ext.refl w⟩
  case round =>
    obtain ⟨k, hk, rfl, hxr⟩ := hrel
    by_cases hlt : k < xs.length
    · obtain ⟨b, off, rfl, hbl, f1, f2⟩ := (hS0.out.ext hxr).at_ hlt
      obtain ⟨b', off', rfl, hbl', f1', f2'⟩ := (hS0'.out.ext hxr).at_ hlt
      have hkI : (k : Int) < xs.length := by omega
      generalize rmX xs k = x at f1 f1'
      generalize rmV xs k = y at f2 f2'
      go_wp2
      refine wp_region_ext (by kernel_rfl) (by kernel_rfl) ?_
      iterate 9 (apply quiet_val; (focus rfl); (focus (intro w' hw'; have hk' := hw'.cells; go_simp; all_goals exact rfl)); simp only [Act.put, List.setIfInBounds_toArray, List.set_cons_succ, List.set_cons_zero])
      refine wpQuiet_nil ?_
      intro w2 hx2
      have HX2 := hide (hxr.trans hx2)
      clear hx2 f1 f2 f1' f2'
      go_wp2
      go_roundw
      case rel => exact ⟨k + 1, by omega, by go_num, HX2.out⟩
      case measure => simp [intOf]; omega
    · obtain rfl : k = xs.length := by omega
      have hkI : ¬ ((xs.length : Int) < xs.length) := by omega
      go_wp2
      go_ret
      exact Ret.mk rfl hxr
set_option maxRecDepth 100000 in
set_option maxHeartbeats 16000000 in
theorem lawExplainP (v : Value) (n : Nat) (w : World) (hB : SBytes w v n) (_hn : n ≤ 140737488351232) :
    Calls Try.prog 5 #[v] w (Ret (.bool true) w) := by
  have HB := hide hB
  obtain ⟨A, cb, rfl, -⟩ := hB
  by_cases hl : (1048576 : Int) < n
  · go_enter Try.func5, Try.ntmps5
    go_wp2
    go_ret
    exact Ret.mk rfl (Ext.refl _)
  · go_enter Try.func5, Try.ntmps5
    go_wp2_with fail
    refine (DrawExplain_any _ n _ HB.out).mono ?_
    rintro e w1 ⟨vc, c, vd, ds, r, rfl, ⟨vv, va, vr, rfl, hV, hA, hR⟩, hD, n1, n4, ⟨b0, b1, b2, b3⟩, hx1⟩
    have hV0 := hide hV
    have hA0 := hide hA
    have hR0 := hide hR
    have hD0 := hide hD
    obtain ⟨Av, cv, rfl, -, -⟩ := hV.form
    obtain ⟨Aa, ca, rfl, -, -⟩ := hA.form
    obtain ⟨Ar, cr, rfl, -, -⟩ := hR.form
    obtain ⟨Ad, cd, rfl, -, -⟩ := hD.form
    have HX1 := hide hx1
    clear hV hA hR hD hx1
    go_upto_region 4 with fail
    obtain ⟨wb, hwb⟩ : ∃ wb, wb = (w1.alloc (.cells #[.int .i64 c.kk, .slice Av c.vars.length cv, .slice Aa c.args.length ca, .int .i64 c.bound, .slice Ar c.rows.length cr] 26)).alloc (.cells #[.int .i64 r.x, .int .i64 r.v] 29) := ⟨_, rfl⟩
    have hs1 : (w1.alloc (.cells #[.int .i64 c.kk, .slice Av c.vars.length cv, .slice Aa c.args.length ca, .int .i64 c.bound, .slice Ar c.rows.length cr] 26)).heap.size = w1.heap.size + 1 := by simp
    have hxb : Ext w1 wb := by rw [hwb]; exact ((Ext.refl w1).alloc _).trans ((Ext.refl _).alloc _)
    have mc : ∀ i u, #[Value.int .i64 c.kk, .slice Av c.vars.length cv, .slice Aa c.args.length ca, .int .i64 c.bound, .slice Ar c.rows.length cr][i]? = some u → wb.cell? ⟨w1.heap.size, i, none⟩ = some u := fun i u hu => by
      rw [hwb]
      exact (((Ext.refl _).alloc _).cells _ _ (by rw [hs1]; omega)).trans ((World.cell?_alloc_at _ _ _ _ rfl).trans hu)
    have rc : ∀ i u, #[Value.int .i64 r.x, .int .i64 r.v][i]? = some u → wb.cell? ⟨w1.heap.size + 1, i, none⟩ = some u := fun i u hu => by
      rw [hwb, ← hs1]
      exact (World.cell?_alloc_at _ _ _ _ rfl).trans hu
    have hml : w1.heap.size + 1 < wb.heap.size := by rw [hwb]; simp
    rw [← hwb]
    clear hwb hs1
    have HXB := hide hxb
    have HMC := hide (show ∀ W, Ext wb W → W.cell? ⟨w1.heap.size, 0, none⟩ = some (.int .i64 c.kk) ∧ W.cell? ⟨w1.heap.size, 1, none⟩ = some (.slice Av c.vars.length cv) ∧ W.cell? ⟨w1.heap.size, 2, none⟩ = some (.slice Aa c.args.length ca) ∧ W.cell? ⟨w1.heap.size, 3, none⟩ = some (.int .i64 c.bound) ∧ W.cell? ⟨w1.heap.size, 4, none⟩ = some (.slice Ar c.rows.length cr) ∧ W.cell? ⟨w1.heap.size + 1, 0, none⟩ = some (.int .i64 r.x) ∧ W.cell? ⟨w1.heap.size + 1, 1, none⟩ = some (.int .i64 r.v) ∧ w1.heap.size + 1 < W.heap.size from fun W hx =>
      ⟨(hx.cells _ _ (by omega)).trans (mc 0 _ rfl), (hx.cells _ _ (by omega)).trans (mc 1 _ rfl), (hx.cells _ _ (by omega)).trans (mc 2 _ rfl), (hx.cells _ _ (by omega)).trans (mc 3 _ rfl), (hx.cells _ _ (by omega)).trans (mc 4 _ rfl), (hx.cells _ _ (by omega)).trans (rc 0 _ rfl), (hx.cells _ _ (by omega)).trans (rc 1 _ rfl), Nat.lt_of_lt_of_le hml hx.size⟩)
    have HSC := hide (show ∀ W, Ext w1 W → SCon W (.agg #[.int .i64 c.kk, .slice Av c.vars.length cv, .slice Aa c.args.length ca, .int .i64 c.bound, .slice Ar c.rows.length cr]) c from fun W hx => ⟨_, _, _, rfl, hV0.out.ext hx, hA0.out.ext hx, hR0.out.ext hx⟩)
    clear mc rc hml hxb
    obtain ⟨ok, hok⟩ : ∃ ok, ok = xplB c ds r := ⟨_, rfl⟩
    obtain ⟨xs, hxs⟩ : ∃ xs, xs = xplL c ds r := ⟨_, rfl⟩
    have hxl : xs.length ≤ 24 := by rw [hxs]; exact xplL_len c ds r
    have HOK := hide hok
    have HXS := hide hxs
    clear hok hxs
    obtain ⟨k0, k1, k2, k3, k4, k5, k6, kl⟩ := HMC.out wb (Ext.refl _)
    go_wp2_with fail
    refine (ExplainI_any c _ _ ds r _ (HSC.out _ HXB.out) (hD0.out.ext HXB.out)).mono ?_
    rw [← HOK.out, ← HXS.out]
    rintro e w2 ⟨A2, b2, m2, f2, rfl, hb2, ho2, hx2⟩
    have HS2 := hide (layRm_S (LayOwn.S layRmOk ho2 (Nat.le_refl _) (by show _ * 16 ≤ _; omega)))
    have HX2 := hide hx2
    clear hx2 ho2 k0 k1 k2 k3 k4 k5 k6 kl
    obtain ⟨k0, k1, k2, k3, k4, k5, k6, kl⟩ := HMC.out w2 HX2.out
    go_wp2_with fail
    refine (ExplainS_any c _ _ ds r _ (HSC.out _ (HXB.out.trans HX2.out)) (hD0.out.ext (HXB.out.trans HX2.out))).mono ?_
    rw [← HOK.out, ← HXS.out]
    rintro e w3 ⟨A3, c3, rfl, hS3, hx3⟩
    have HS3 := hide hS3
    have HX3 := hide (HX2.out.trans hx3)
    have HS23 := hide (HS2.out.ext hx3)
    clear hx3 hS3
    go_wp2_with fail
    refine (equalRemovals_same _ _ xs _ HS23.out HS3.out).mono ?_
    rintro e w4 ⟨rfl, hx4⟩
    have HX4 := hide (HX3.out.trans hx4)
    have HS4 := hide (HS23.out.ext hx4)
    have HS34 := hide (HS3.out.ext hx4)
    clear hx4 k0 k1 k2 k3 k4 k5 k6 kl
    cases ok with
    | false =>
      go_wp2_with fail
      refine (equalRemovals_same _ _ xs _ HS4.out HS34.out).mono ?_
      rintro e w5 ⟨rfl, hx5⟩
      have HX5 := hide (HX4.out.trans hx5)
      clear hx5
      go_wp2_with fail
      go_ret
      exact Ret.mk rfl (HX1.out.trans (HXB.out.trans HX5.out))
    | true =>
      obtain ⟨q1, q2, q3, -, -, -⟩ := xpl_all HOK.out.symm
      rw [← HXS.out] at q1 q2 q3
      have Q1 := hide q1
      have Q2 := hide q2
      have Q3 := hide q3
      clear q1 q2 q3
      go_wp2_with fail
      go_loopw [11] (fun i wr => ∃ k : Nat, i = .int .i64 k ∧ k ≤ xs.length ∧ Ext w4 wr) (fun i _ => xs.length - (intOf i).toNat)
      case atStart => exact ⟨0, rfl, Nat.zero_le _, Ext.refl w4⟩
      case round =>
        obtain ⟨k, rfl, hk, hx⟩ := hrel
        have HXr := hide hx
        clear hx
        by_cases hkl : k < xs.length
        · have hkI : (k : Int) < xs.length := by omega
          obtain ⟨x, y, hxy, hxn, hy6, hhas, hner⟩ := Q3.out k hkl
          obtain ⟨b, off, hab, hbl, f1, f2⟩ := (HS4.out.ext HXr.out).at_ hkl
          rw [show rmX xs k = (x : Int) by unfold rmX; rw [hxy]] at f1
          rw [show rmV xs k = (y : Int) by unfold rmV; rw [hxy]] at f2
          subst hab
          have HSr := hide (layRm_of (HS4.out.ext HXr.out))
          have HBL := hide hbl
          have hkw : IntKind.i64.wrap ((k : Int) + 1) = k + 1 := IntWalk.i64_in _ (by omega)
          have hk01 : (0 : Int) ≤ k + 1 := by omega
          have hk02 : (k : Int) + 1 ≤ xs.length := by omega
          have hkc : k ≤ xs.length := by omega
          have hck : ¬ (xs.length < k) := by omega
          obtain ⟨D, hD⟩ : ∃ D : Option Addr, D = (if xs.length = k + 1 then some ⟨b, off, none⟩ else some ⟨b, off + (k + 1) * 2, none⟩) := ⟨_, rfl⟩
          have HDD := hide hD
          have hSt := hide (LayS.take HSr.out (i := k) (c' := xs.length) (by omega) (by omega))
          have hSd := hide (LayS.drop layRmOk HSr.out (A2 := D) (n2 := xs.length - (k + 1)) (c2 := xs.length - (k + 1)) (i := k + 1) (by omega) rfl (by omega) (by intro hkl b off e; injection e with e; injection e with e1 e2; subst e1; subst e2; rw [hD, if_neg (by omega)]; simp; rfl))
          clear hD
          have HER := hide (show xs.take k ++ xs.drop (k + 1) = xs.eraseIdx k by rw [List.eraseIdx_eq_take_drop_succ])
          have HHAS := hide hhas
          have HNER := hide hner
          clear hhas hner hxy
          go_upto_region 12 with fail
          refine wp_region_any (by kernel_rfl) ?_
          change wpAny _ _ _ _ _ _ _ (World.drew _)
          refine wpAny_take (i := 1) (v := ?_) rfl (by kernel_rfl) (by kernel_rfl) (by kernel_rfl) (by first | exact fun _ _ _ h => h | (rintro _ _ _ ⟨h, _⟩; cases h)) (Or.inl ⟨by rfl, ?hy1⟩) ?_
          case hy1 => intro w; go_simp; with_reducible rfl
          simp only [Act.put, List.getElem_toArray, List.getElem_cons_zero, List.getElem_cons_succ, List.setIfInBounds_toArray, List.set_cons_succ, List.set_cons_zero]
          refine wpAny_take (i := 2) (v := ?_) rfl (by kernel_rfl) (by kernel_rfl) (by kernel_rfl) (by first | exact fun _ _ _ h => h | (rintro _ _ _ ⟨h, _⟩; cases h)) (Or.inl ⟨by rfl, ?hy2⟩) ?_
          case hy2 => intro w; go_simp; with_reducible rfl
          simp only [Act.put, List.getElem_toArray, List.getElem_cons_zero, List.getElem_cons_succ, List.setIfInBounds_toArray, List.set_cons_succ, List.set_cons_zero]
          refine wpAny_take (i := 3) (v := .slice (some ⟨b, off, none⟩) k xs.length) rfl (by kernel_rfl) (by kernel_rfl) (by kernel_rfl) (fun _ _ _ h => h) (Or.inl ⟨by rfl, ?hy3⟩) ?_
          case hy3 => intro w; go_simp
          simp only [Act.put, List.getElem_toArray, List.getElem_cons_zero, List.getElem_cons_succ, List.setIfInBounds_toArray, List.set_cons_succ, List.set_cons_zero]
          refine wpAny_take (i := 5) (v := ?_) rfl (by kernel_rfl) (by kernel_rfl) (by kernel_rfl) (by first | exact fun _ _ _ h => h | (rintro _ _ _ ⟨h, _⟩; cases h)) (Or.inl ⟨by rfl, ?hy5⟩) ?_
          case hy5 => intro w; go_simp; with_reducible rfl
          simp only [Act.put, List.getElem_toArray, List.getElem_cons_zero, List.getElem_cons_succ, List.setIfInBounds_toArray, List.set_cons_succ, List.set_cons_zero]
          refine wpAny_take (i := 6) (v := ?_) rfl (by kernel_rfl) (by kernel_rfl) (by kernel_rfl) (by first | exact fun _ _ _ h => h | (rintro _ _ _ ⟨h, _⟩; cases h)) (Or.inl ⟨by rfl, ?hy6⟩) ?_
          case hy6 => intro w; go_simp; with_reducible rfl
          simp only [Act.put, List.getElem_toArray, List.getElem_cons_zero, List.getElem_cons_succ, List.setIfInBounds_toArray, List.set_cons_succ, List.set_cons_zero]
          refine wpAny_take (i := 7) (v := .int .i64 ((k : Int) + 1)) rfl (by kernel_rfl) (by kernel_rfl) (by kernel_rfl) (fun _ _ _ h => h) (Or.inl ⟨by rfl, ?hy7⟩) ?_
          case hy7 => intro w; go_simp
          simp only [Act.put, List.getElem_toArray, List.getElem_cons_zero, List.getElem_cons_succ, List.setIfInBounds_toArray, List.set_cons_succ, List.set_cons_zero]
          refine wpAny_take (i := 8) (v := .slice D (xs.length - (k + 1)) (xs.length - (k + 1))) rfl (by kernel_rfl) (by kernel_rfl) (by kernel_rfl) (fun _ _ _ h => h) (Or.inl ⟨by rfl, ?hy8⟩) ?_
          case hy8 => intro w; rw [HDD.out]; go_simp
          simp only [Act.put, List.getElem_toArray, List.getElem_cons_zero, List.getElem_cons_succ, List.setIfInBounds_toArray, List.set_cons_succ, List.set_cons_zero]
          refine wpAny_sqX [0, 4, 9, 10] (by kernel_rfl) rfl ?_
          simp only [nths, nth1]
          go_wp2_with (at_builtin; go_must (first | (refine wpList_appG (L := layRm) layRmOk _ rfl _ _ rfl wr.heap.size (.slice (some ⟨wr.heap.size, 0, none⟩) 0 0) (.slice (some ⟨b, off, none⟩) k xs.length) [] (xs.take k) rfl rfl (LayApp.empty wr.drew rfl) (LayS.ext hSt.out (((Ext.refl wr).drew).alloc _)) (fun n c e => by cases e) (by simp; omega) (by show _ * 16 ≤ _; simp; omega) (by simp [World.drew]) ?_; intro v6 W6 hA6 hb6; obtain ⟨A6, c6, hv6, -⟩ := LayApp.form hA6; rw [show (([] : List Rm) ++ xs.take k).length = k by rw [List.nil_append, List.length_take, Nat.min_eq_left hkc]] at hv6; subst hv6; have HA6 := hide (show layRm.App wr.heap.size W6 (.slice A6 k c6) (xs.take k) from hA6); have HX6 := hide ((((Ext.refl wr).drew).alloc _).below hb6); clear hA6 hb6) | (refine wpList_appG (L := layRm) layRmOk _ rfl _ _ rfl wr.heap.size (.slice A6 k c6) (.slice D (xs.length - (k + 1)) (xs.length - (k + 1))) (xs.take k) (xs.drop (k + 1)) rfl rfl HA6.out (LayS.ext hSd.out HX6.out) (by intro n c' h; injection h with h; rw [HDD.out] at h; split at h <;> cases h) (by simp; omega) (by show _ * 16 ≤ _; simp; omega) HX6.out.size ?_; intro v7 W7 hA7 hb7; rw [HER.out] at hA7; have hx7 := HX6.out.below hb7; have HX7 := hide hx7; obtain ⟨A7, c7, hv7, -⟩ := LayApp.form hA7; have HS7 := hide (layRm_S (LayApp.S hA7 (by show _ * 16 ≤ _; have := List.length_eraseIdx_le xs k; omega))); obtain ⟨L7, hL7⟩ : ∃ L7, L7 = (xs.eraseIdx k).length := ⟨_, rfl⟩; rw [← hL7] at hv7; subst hv7; have f1 := (hx7.cells _ _ hbl).trans f1; have f2 := (hx7.cells _ _ hbl).trans f2; have hbl := Nat.lt_of_lt_of_le hbl hx7.size; clear hA7 hb7 hx7 hL7)))
          obtain ⟨k0, k1, k2, k3, k4, k5, k6, kl⟩ := HMC.out W7 (HX4.out.trans (HXr.out.trans HX7.out))
          have kl0 : w1.heap.size < W7.heap.size := by omega
          obtain ⟨db, dof, rfl, hdbl, hd1⟩ := (hD0.out.ext (HXB.out.trans (HX4.out.trans (HXr.out.trans HX7.out)))).at_ hxn
          obtain ⟨dx, hdx⟩ : ∃ dx, dx = at0 ds x := ⟨_, rfl⟩
          rw [← hdx] at hd1
          have HAF := hide (show hasD dx (y : Int) = false by rw [hdx, hasD, Int.toNat_natCast, HHAS.out, Bool.and_false, Bool.and_false])
          have hxI : (x : Int) < ds.length := by omega
          clear hdx
          refine wp_region_ext (by kernel_rfl) (by kernel_rfl) ?_
          iterate 13 (apply quiet_val; (focus rfl); (focus (intro w' hw'; have hk' := hw'.cells; go_simp; all_goals exact rfl)); simp only [Act.put, List.setIfInBounds_toArray, List.set_cons_succ, List.set_cons_zero])
          apply quiet_call; (focus rfl); (focus (intro w' hw'; go_simp; all_goals (first | exact rfl | (apply And.intro <;> exact rfl))))
          · exact fun w' hw' => (DomainHasI_any dx y w').mono fun e w2 h => ⟨h.1, h.2 ▸ hw'⟩
          (simp only [Act.put, List.setIfInBounds_toArray, List.set_cons_succ, List.set_cons_zero])
          rw [HAF.out]
          (apply quiet_val; (focus rfl); (focus (intro w' hw'; have hk' := hw'.cells; go_simp; all_goals exact rfl)); simp only [Act.put, List.setIfInBounds_toArray, List.set_cons_succ, List.set_cons_zero])
          iterate 5 (go_big_quiet_want; apply quietK_val; (focus (intro w' hw'; have hk' := hw'.cells; go_simp; all_goals exact rfl)); simp only [Act.put, List.setIfInBounds_toArray, List.set_cons_succ, List.set_cons_zero]; go_big_quiet_on)
          (go_big_quiet_want; apply quietK_val (v := .bool false); (focus (intro w' hw'; have hk' := hw'.cells; go_simp; exact fun h1 h2 => HNER.out ⟨h1, h2⟩)); simp only [Act.put, List.setIfInBounds_toArray, List.set_cons_succ, List.set_cons_zero]; go_big_quiet_on)
          iterate 2 (apply quiet_val; (focus rfl); (focus (intro w' hw'; have hk' := hw'.cells; go_simp; all_goals exact rfl)); simp only [Act.put, List.setIfInBounds_toArray, List.set_cons_succ, List.set_cons_zero])
          iterate 4 (go_big_quiet_want; apply quietK_val; (focus (intro w' hw'; have hk' := hw'.cells; go_simp; all_goals exact rfl)); simp only [Act.put, List.setIfInBounds_toArray, List.set_cons_succ, List.set_cons_zero]; go_big_quiet_on)
          go_big_quiet_want; apply quietK_call; (focus (intro w' hw'; go_simp; all_goals (first | exact rfl | (apply And.intro <;> exact rfl))))
          · exact fun w' hw' => Ret.quiet (IsExplanationI_any c _ _ ds.length (xs.eraseIdx k) r w' (HSC.out _ (HXB.out.trans (HX4.out.trans (HXr.out.trans (HX7.out.trans hw'))))) (HS7.out.ext hw')) hw'
          (simp only [Act.put, List.setIfInBounds_toArray, List.set_cons_succ, List.set_cons_zero]; go_big_quiet_on)
          rw [Q2.out k hkl]
          (apply quiet_val; (focus rfl); (focus (intro w' hw'; have hk' := hw'.cells; go_simp; all_goals exact rfl)); simp only [Act.put, List.setIfInBounds_toArray, List.set_cons_succ, List.set_cons_zero])
          refine wpQuiet_nil ?_
          intro w8 hx8
          have HX8 := hide (HXr.out.trans (HX7.out.trans hx8))
          clear hx8
          go_wp2_with fail
          go_roundw
          case rel => exact ⟨k + 1, by go_num, by omega, HX8.out⟩
          case measure => simp [intOf]; omega
        · obtain rfl : k = xs.length := by omega
          have hkI : ¬ ((xs.length : Int) < xs.length) := by omega
          obtain ⟨k0, k1, k2, k3, k4, k5, k6, kl⟩ := HMC.out wr (HX4.out.trans HXr.out)
          go_wp2_with fail
          refine (IsExplanationI_any c _ _ ds.length xs r _ (HSC.out _ (HXB.out.trans (HX4.out.trans HXr.out))) (HS4.out.ext HXr.out)).mono ?_
          rw [Q1.out]
          rintro e w5 ⟨rfl, hx5⟩
          have HX5 := hide (HX4.out.trans (HXr.out.trans hx5))
          clear hx5
          go_wp2_with fail
          go_ret
          exact Ret.mk rfl (HX1.out.trans (HXB.out.trans HX5.out))
end Go.Proofs.Ytmfbdaocnijnpaa
