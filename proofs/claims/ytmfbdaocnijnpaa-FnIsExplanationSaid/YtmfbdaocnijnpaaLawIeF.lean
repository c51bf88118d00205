/- The walk of the law FnIsExplanation: it returns true, and memory only grows. -/
import Derived.Test.YtmfbdaocnijnpaaDrw28
import Derived.Test.YtmfbdaocnijnpaaXpPl
import Derived.Deep.CutBlock
import Derived.Deep.DeepCutAuto
namespace Go.Proofs.Ytmfbdaocnijnpaa
open Go.RowKit

/-- append of a list to a list of the call's own, where the operation is wanted. -/
theorem step_appW {α : Type} {L : Lay α} {P : Program} (hL : LayOk L P) (w : World) {ops : Array Oper} {o : Oper} {a : Act} {K : Act → World → Prop} {Q : Exit → Act → World → Prop} {E : Prop} (hw : Region.wanted o (yielded ops a.tmps) = true) (s x : Operand)
    (ho : o.op = .call { callee := .builtin .append, args := #[s, x], argTypes := #[L.st, L.st] })
    (S : Nat → Prop) (v va : Value) (xs ys : List α) (hs : a.eval s = v) (hx : a.eval x = va) (hown : L.K S w v xs) (hy : L.S w va ys) (hnil : ∀ n c, va = .slice none n c → c = 0)
    (hl : xs.length + ys.length ≤ 1000000000000) (hb : (xs.length + ys.length) * L.bytes ≤ 140737488355328) (hS : ∀ k, w.heap.size ≤ k → S k)
    (h : ∀ v' w', L.K S w' v' (xs ++ ys) → Keep (fun k => ¬ S k) w w' → K (a.put o.dst v') w') : if Region.wanted o (yielded ops a.tmps) = true then Oper.wp P o a w K Q else E := by
  obtain ⟨v', w', hrun, h1, h2⟩ := run_appK hL w o.type S v va xs ys hown hy hnil hl hb hS
  rw [if_pos hw]
  unfold Oper.wp
  simp [execOp, ho, resolve, invoke, builtin, hs, hx, hrun, Result.andThen]
  exact h v' w' h1 h2
set_option maxRecDepth 100000 in
set_option maxHeartbeats 16000000 in
theorem lawIsExplanationP (v v2 : Value) (n n2 : Nat) (w : World) (hB : SBytes w v n) (_hn : n ≤ 140737488351232) (hB2 : SBytes w v2 n2) (_hn2 : n2 ≤ 140737488351232) :
    Calls Try.prog 3 #[v, v2] w (Ret (.bool true) w) := by
  have HB := hide hB
  obtain ⟨A, cb, rfl, -⟩ := hB
  obtain ⟨A', cb', rfl, -⟩ := hB2
  by_cases hl : (1048576 : Int) < n
  · go_enter Try.func3, Try.ntmps3
    go_wp2
    go_ret
    exact Ret.mk rfl (Ext.refl _)
  · by_cases hl2 : (1048576 : Int) < n2
    · go_enter Try.func3, Try.ntmps3
      go_wp2
      go_ret
      exact Ret.mk rfl (Ext.refl _)
    · go_enter Try.func3, Try.ntmps3
      go_wp2_with fail
      refine (DrawIsExplanation_any _ n _ HB.out).mono ?_
      rintro e w1 ⟨vc, c, m, vl, ls, r, rfl, ⟨vv, va, vr, rfl, hV, hA, hR⟩, m1, m4, hL, hll, hnil, hx1⟩
      have hV0 := hide hV
      have hA0 := hide hA
      have hR0 := hide hR
      have hL0 := hide hL
      have HNIL := hide hnil
      obtain ⟨Av, cv, rfl, -, -⟩ := hV.form
      obtain ⟨Aa, ca, rfl, -, -⟩ := hA.form
      obtain ⟨Ar, cr, rfl, -, -⟩ := hR.form
      obtain ⟨Al, cl, rfl, -⟩ := LayS.form hL
      have HX1 := hide hx1
      clear hV hA hR hL hx1 hnil
      go_upto_region 4 with fail
      obtain ⟨wb, hwb⟩ : ∃ wb, wb = (w1.alloc (.cells #[.int .i64 c.kk, .slice Av c.vars.length cv, .slice Aa c.args.length ca, .int .i64 c.bound, .slice Ar c.rows.length cr] 26)).alloc (.cells #[.int .i64 r.x, .int .i64 r.v] 29) := ⟨_, rfl⟩
      have hs1 : (w1.alloc (.cells #[.int .i64 c.kk, .slice Av c.vars.length cv, .slice Aa c.args.length ca, .int .i64 c.bound, .slice Ar c.rows.length cr] 26)).heap.size = w1.heap.size + 1 := by simp
      have hxb : Ext w1 wb := by rw [hwb]; exact ((Ext.refl w1).alloc _).trans ((Ext.refl _).alloc _)
      have mc : ∀ i u, #[Value.int .i64 c.kk, .slice Av c.vars.length cv, .slice Aa c.args.length ca, .int .i64 c.bound, .slice Ar c.rows.length cr][i]? = some u → wb.cell? ⟨w1.heap.size, i, none⟩ = some u := fun i u hu => by
        rw [hwb]
        exact (((Ext.refl _).alloc _).cells _ _ (by rw [hs1]; omega)).trans ((World.cell?_alloc_at _ _ _ _ rfl).trans hu)
      have rc : ∀ i u, #[Value.int .i64 r.x, .int .i64 r.v][i]? = some u → wb.cell? ⟨w1.heap.size + 1, i, none⟩ = some u := fun i u hu => by
        rw [hwb, ← hs1]
        exact (World.cell?_alloc_at _ _ _ _ rfl).trans hu
      have hml : w1.heap.size + 1 < wb.heap.size := by rw [hwb]; simp
      rw [← hwb]
      clear hwb hs1
      have HXB := hide hxb
      have HMC := hide (show ∀ W, Ext wb W → W.cell? ⟨w1.heap.size, 0, none⟩ = some (.int .i64 c.kk) ∧ W.cell? ⟨w1.heap.size, 1, none⟩ = some (.slice Av c.vars.length cv) ∧ W.cell? ⟨w1.heap.size, 2, none⟩ = some (.slice Aa c.args.length ca) ∧ W.cell? ⟨w1.heap.size, 3, none⟩ = some (.int .i64 c.bound) ∧ W.cell? ⟨w1.heap.size, 4, none⟩ = some (.slice Ar c.rows.length cr) ∧ W.cell? ⟨w1.heap.size + 1, 0, none⟩ = some (.int .i64 r.x) ∧ W.cell? ⟨w1.heap.size + 1, 1, none⟩ = some (.int .i64 r.v) ∧ w1.heap.size + 1 < W.heap.size from fun W hx =>
        ⟨(hx.cells _ _ (by omega)).trans (mc 0 _ rfl), (hx.cells _ _ (by omega)).trans (mc 1 _ rfl), (hx.cells _ _ (by omega)).trans (mc 2 _ rfl), (hx.cells _ _ (by omega)).trans (mc 3 _ rfl), (hx.cells _ _ (by omega)).trans (mc 4 _ rfl), (hx.cells _ _ (by omega)).trans (rc 0 _ rfl), (hx.cells _ _ (by omega)).trans (rc 1 _ rfl), Nat.lt_of_lt_of_le hml hx.size⟩)
      have HSC := hide (show ∀ W, Ext w1 W → SCon W (.agg #[.int .i64 c.kk, .slice Av c.vars.length cv, .slice Aa c.args.length ca, .int .i64 c.bound, .slice Ar c.rows.length cr]) c from fun W hx => ⟨_, _, _, rfl, hV0.out.ext hx, hA0.out.ext hx, hR0.out.ext hx⟩)
      clear mc rc hml hxb
      obtain ⟨q, hq⟩ : ∃ q, q = expV c m ls r := ⟨_, rfl⟩
      have HQ := hide hq
      clear hq
      obtain ⟨k0, k1, k2, k3, k4, k5, k6, kl⟩ := HMC.out wb (Ext.refl _)
      go_wp2_with fail
      refine (IsExplanationI_any c _ _ m ls r _ (HSC.out _ HXB.out) (layRm_S (LayS.ext hL0.out HXB.out))).mono ?_
      rw [← HQ.out]
      rintro e w2 ⟨rfl, hx2⟩
      have HX2 := hide hx2
      clear hx2 k0 k1 k2 k3 k4 k5 k6 kl
      obtain ⟨k0, k1, k2, k3, k4, k5, k6, kl⟩ := HMC.out w2 HX2.out
      go_wp2_with fail
      refine (IsExplanationS_any c _ _ m ls r _ (HSC.out _ (HXB.out.trans HX2.out)) (layRm_S (LayS.ext hL0.out (HXB.out.trans HX2.out)))).mono ?_
      rw [← HQ.out]
      rintro e w3 ⟨rfl, hx3⟩
      have HX3 := hide (HX2.out.trans hx3)
      clear hx3 k0 k1 k2 k3 k4 k5 k6 kl
      obtain ⟨k0, k1, k2, k3, k4, k5, k6, kl⟩ := HMC.out w3 HX3.out
      cases q with
      | false =>
        go_wp2_with fail
        refine (IsExplanationS_any c _ _ m ls r _ (HSC.out _ (HXB.out.trans HX3.out)) (layRm_S (LayS.ext hL0.out (HXB.out.trans HX3.out)))).mono ?_
        rw [← HQ.out]
        rintro e w4 ⟨rfl, hx4⟩
        have HX4 := hide (HX3.out.trans hx4)
        clear hx4
        go_wp2_with fail
        go_ret
        exact Ret.mk rfl (HX1.out.trans (HXB.out.trans HX4.out))
      | true =>
        go_upto_region 8 with fail
        have hm0 : (m : Int) ≠ 0 := by omega
        obtain ⟨X, hX⟩ : ∃ X : Int, X = (n2 : Int) % (m : Int) := ⟨_, rfl⟩
        obtain ⟨Y, hY⟩ : ∃ Y : Int, Y = (n2 : Int) % 6 := ⟨_, rfl⟩
        have hX0 : 0 ≤ X ∧ X < m := by rw [hX]; exact ⟨Int.emod_nonneg _ hm0, Int.emod_lt_of_pos _ (by omega)⟩
        have hY0 : 0 ≤ Y ∧ Y < 6 := by omega
        rw [← hX, ← hY]
        obtain ⟨W8, hW8⟩ : ∃ W8, W8 = w3.alloc (.cells #[.int .i64 X, .int .i64 Y] 29) := ⟨_, rfl⟩
        have hx8 : Ext w3 W8 := by rw [hW8]; exact (Ext.refl w3).alloc _
        have e0 : W8.cell? ⟨w3.heap.size, 0, none⟩ = some (.int .i64 X) := by rw [hW8]; exact World.cell?_alloc_at _ _ _ _ rfl
        have e1 : W8.cell? ⟨w3.heap.size, 1, none⟩ = some (.int .i64 Y) := by rw [hW8]; exact World.cell?_alloc_at _ _ _ _ rfl
        have hel : w3.heap.size < W8.heap.size := by rw [hW8]; simp
        rw [← hW8]
        have HX38 := hide hx8
        have HX18 := hide (HXB.out.trans (HX3.out.trans hx8))
        have HCL := hide (show ∀ W, Ext W8 W → W.cell? ⟨w1.heap.size, 0, none⟩ = some (.int .i64 c.kk) ∧ W.cell? ⟨w1.heap.size, 1, none⟩ = some (.slice Av c.vars.length cv) ∧ W.cell? ⟨w1.heap.size, 2, none⟩ = some (.slice Aa c.args.length ca) ∧ W.cell? ⟨w1.heap.size, 3, none⟩ = some (.int .i64 c.bound) ∧ W.cell? ⟨w1.heap.size, 4, none⟩ = some (.slice Ar c.rows.length cr) ∧ W.cell? ⟨w1.heap.size + 1, 0, none⟩ = some (.int .i64 r.x) ∧ W.cell? ⟨w1.heap.size + 1, 1, none⟩ = some (.int .i64 r.v) ∧ W.cell? ⟨w3.heap.size, 0, none⟩ = some (.int .i64 X) ∧ W.cell? ⟨w3.heap.size, 1, none⟩ = some (.int .i64 Y) from fun W hx => by
          obtain ⟨k0, k1, k2, k3, k4, k5, k6, -⟩ := HMC.out W (HX3.out.trans (HX38.out.trans hx))
          exact ⟨k0, k1, k2, k3, k4, k5, k6, (hx.cells _ _ hel).trans e0, (hx.cells _ _ hel).trans e1⟩)
        have HEX := hide (show 24 ≤ ls.length ∨ expV c m (ls ++ [⟨X, Y⟩]) r = true by
          by_cases h : 24 ≤ ls.length
          · exact .inl h
          · exact .inr (expV_more HQ.out.symm (by omega) (by simp [okRm, inR]; omega)))
        clear hX hY hW8 hx8 e0 e1 k0 k1 k2 k3 k4 k5 k6 kl
        by_cases h24 : 24 ≤ ls.length
        · have h24I : (24 : Int) ≤ ls.length := by omega
          refine wp_region_ext (by kernel_rfl) (by kernel_rfl) ?_
          iterate 4 (apply quiet_val; (focus rfl); (focus (intro w' hw'; have hk' := hw'.cells; go_simp; all_goals exact rfl)); simp only [Act.put, List.setIfInBounds_toArray, List.set_cons_succ, List.set_cons_zero])
          iterate 10 go_big_quiet_skip
          iterate 2 (apply quiet_val; (focus rfl); (focus (intro w' hw'; have hk' := hw'.cells; go_simp; all_goals exact rfl)); simp only [Act.put, List.setIfInBounds_toArray, List.set_cons_succ, List.set_cons_zero])
          refine wpQuiet_nil ?_
          intro w6 hx6
          have HX6 := hide (HX18.out.trans hx6)
          clear hx6
          go_wp2_with fail
          go_ret
          exact Ret.mk rfl (HX1.out.trans HX6.out)
        · have h24I : ¬ (24 : Int) ≤ ls.length := by omega
          have hev : expV c m (ls ++ [⟨X, Y⟩]) r = true := HEX.out.resolve_left h24
          have HEV := hide hev
          clear hev
          have hc8 := HCL.out W8 (Ext.refl _)
          refine wp_region_any (by kernel_rfl) ?_
          change wpAny _ _ _ _ _ _ _ (World.drew _)
          refine wpAny_take (i := 0) (v := ?_) rfl (by kernel_rfl) (by kernel_rfl) (by kernel_rfl) (by first | exact fun _ _ _ h => h | (rintro _ _ _ ⟨h, _⟩; cases h)) (Or.inl ⟨by rfl, ?hy0⟩) ?_
          case hy0 => intro w; go_simp; with_reducible rfl
          simp only [Act.put, List.getElem_toArray, List.getElem_cons_zero, List.setIfInBounds_toArray, List.set_cons_succ, List.set_cons_zero]
          refine wpAny_take (i := 1) (v := ?_) rfl (by kernel_rfl) (by kernel_rfl) (by kernel_rfl) (by first | exact fun _ _ _ h => h | (rintro _ _ _ ⟨h, _⟩; cases h)) (Or.inl ⟨by rfl, ?hy1⟩) ?_
          case hy1 => intro w; go_simp; with_reducible rfl
          simp only [Act.put, List.getElem_toArray, List.getElem_cons_zero, List.getElem_cons_succ, List.setIfInBounds_toArray, List.set_cons_succ, List.set_cons_zero]
          refine wpAny_take (i := 2) (v := ?_) rfl (by kernel_rfl) (by kernel_rfl) (by kernel_rfl) (by first | exact fun _ _ _ h => h | (rintro _ _ _ ⟨h, _⟩; cases h)) (Or.inl ⟨by rfl, ?hy2⟩) ?_
          case hy2 => intro w; go_simp; with_reducible rfl
          simp only [Act.put, List.getElem_toArray, List.getElem_cons_zero, List.getElem_cons_succ, List.setIfInBounds_toArray, List.set_cons_succ, List.set_cons_zero]
          refine wpAny_take (i := 3) (v := ?_) rfl (by kernel_rfl) (by kernel_rfl) (by kernel_rfl) (by first | exact fun _ _ _ h => h | (rintro _ _ _ ⟨h, _⟩; cases h)) (Or.inl ⟨by rfl, ?hy3⟩) ?_
          case hy3 => intro w; go_simp; with_reducible rfl
          simp only [Act.put, List.getElem_toArray, List.getElem_cons_zero, List.getElem_cons_succ, List.setIfInBounds_toArray, List.set_cons_succ, List.set_cons_zero]
          refine wpAny_ofK (C := fun w => w.cell? ⟨w1.heap.size, 0, none⟩ = some (.int .i64 c.kk) ∧ w.cell? ⟨w1.heap.size, 1, none⟩ = some (.slice Av c.vars.length cv) ∧ w.cell? ⟨w1.heap.size, 2, none⟩ = some (.slice Aa c.args.length ca) ∧ w.cell? ⟨w1.heap.size, 3, none⟩ = some (.int .i64 c.bound) ∧ w.cell? ⟨w1.heap.size, 4, none⟩ = some (.slice Ar c.rows.length cr) ∧ w.cell? ⟨w1.heap.size + 1, 0, none⟩ = some (.int .i64 r.x) ∧ w.cell? ⟨w1.heap.size + 1, 1, none⟩ = some (.int .i64 r.v) ∧ w.cell? ⟨w3.heap.size, 0, none⟩ = some (.int .i64 X) ∧ w.cell? ⟨w3.heap.size, 1, none⟩ = some (.int .i64 Y)) (n := 15) _ _ _ _ ?_
          refine wpAnyK_take 4 (.agg #[.int .i64 c.kk, .slice Av c.vars.length cv, .slice Aa c.args.length ca, .int .i64 c.bound, .slice Ar c.rows.length cr]) rfl (by kernel_rfl) (fun _ _ _ h => h) hc8 (And.intro (by rfl) ?hy4) ?_
          case hy4 => intro w' hw'; obtain ⟨c0, c1, c2, c3, c4, c5, c6, c7, c8⟩ : w'.cell? ⟨w1.heap.size, 0, none⟩ = some (.int .i64 c.kk) ∧ w'.cell? ⟨w1.heap.size, 1, none⟩ = some (.slice Av c.vars.length cv) ∧ w'.cell? ⟨w1.heap.size, 2, none⟩ = some (.slice Aa c.args.length ca) ∧ w'.cell? ⟨w1.heap.size, 3, none⟩ = some (.int .i64 c.bound) ∧ w'.cell? ⟨w1.heap.size, 4, none⟩ = some (.slice Ar c.rows.length cr) ∧ w'.cell? ⟨w1.heap.size + 1, 0, none⟩ = some (.int .i64 r.x) ∧ w'.cell? ⟨w1.heap.size + 1, 1, none⟩ = some (.int .i64 r.v) ∧ w'.cell? ⟨w3.heap.size, 0, none⟩ = some (.int .i64 X) ∧ w'.cell? ⟨w3.heap.size, 1, none⟩ = some (.int .i64 Y) := hw'; go_simp; all_goals exact rfl
          simp only [Act.put, List.setIfInBounds_toArray, List.set_cons_succ, List.set_cons_zero]
          refine wpAnyK_take 5 (.int .i64 m) rfl (by kernel_rfl) (fun _ _ _ h => h) hc8 (And.intro (by rfl) ?hy5) ?_
          case hy5 => intro w' hw'; obtain ⟨c0, c1, c2, c3, c4, c5, c6, c7, c8⟩ : w'.cell? ⟨w1.heap.size, 0, none⟩ = some (.int .i64 c.kk) ∧ w'.cell? ⟨w1.heap.size, 1, none⟩ = some (.slice Av c.vars.length cv) ∧ w'.cell? ⟨w1.heap.size, 2, none⟩ = some (.slice Aa c.args.length ca) ∧ w'.cell? ⟨w1.heap.size, 3, none⟩ = some (.int .i64 c.bound) ∧ w'.cell? ⟨w1.heap.size, 4, none⟩ = some (.slice Ar c.rows.length cr) ∧ w'.cell? ⟨w1.heap.size + 1, 0, none⟩ = some (.int .i64 r.x) ∧ w'.cell? ⟨w1.heap.size + 1, 1, none⟩ = some (.int .i64 r.v) ∧ w'.cell? ⟨w3.heap.size, 0, none⟩ = some (.int .i64 X) ∧ w'.cell? ⟨w3.heap.size, 1, none⟩ = some (.int .i64 Y) := hw'; go_simp; all_goals exact rfl
          simp only [Act.put, List.setIfInBounds_toArray, List.set_cons_succ, List.set_cons_zero]
          refine wpAnyK_take 7 (.slice Al ls.length cl) rfl (by kernel_rfl) (fun _ _ _ h => h) hc8 (And.intro (by rfl) ?hy7) ?_
          case hy7 => intro w' hw'; obtain ⟨c0, c1, c2, c3, c4, c5, c6, c7, c8⟩ : w'.cell? ⟨w1.heap.size, 0, none⟩ = some (.int .i64 c.kk) ∧ w'.cell? ⟨w1.heap.size, 1, none⟩ = some (.slice Av c.vars.length cv) ∧ w'.cell? ⟨w1.heap.size, 2, none⟩ = some (.slice Aa c.args.length ca) ∧ w'.cell? ⟨w1.heap.size, 3, none⟩ = some (.int .i64 c.bound) ∧ w'.cell? ⟨w1.heap.size, 4, none⟩ = some (.slice Ar c.rows.length cr) ∧ w'.cell? ⟨w1.heap.size + 1, 0, none⟩ = some (.int .i64 r.x) ∧ w'.cell? ⟨w1.heap.size + 1, 1, none⟩ = some (.int .i64 r.v) ∧ w'.cell? ⟨w3.heap.size, 0, none⟩ = some (.int .i64 X) ∧ w'.cell? ⟨w3.heap.size, 1, none⟩ = some (.int .i64 Y) := hw'; go_simp; all_goals exact rfl
          simp only [Act.put, List.setIfInBounds_toArray, List.set_cons_succ, List.set_cons_zero]
          refine wpAnyK_take 9 (.agg #[.int .i64 X, .int .i64 Y]) rfl (by kernel_rfl) (fun _ _ _ h => h) hc8 (And.intro (by rfl) ?hy9) ?_
          case hy9 => intro w' hw'; obtain ⟨c0, c1, c2, c3, c4, c5, c6, c7, c8⟩ : w'.cell? ⟨w1.heap.size, 0, none⟩ = some (.int .i64 c.kk) ∧ w'.cell? ⟨w1.heap.size, 1, none⟩ = some (.slice Av c.vars.length cv) ∧ w'.cell? ⟨w1.heap.size, 2, none⟩ = some (.slice Aa c.args.length ca) ∧ w'.cell? ⟨w1.heap.size, 3, none⟩ = some (.int .i64 c.bound) ∧ w'.cell? ⟨w1.heap.size, 4, none⟩ = some (.slice Ar c.rows.length cr) ∧ w'.cell? ⟨w1.heap.size + 1, 0, none⟩ = some (.int .i64 r.x) ∧ w'.cell? ⟨w1.heap.size + 1, 1, none⟩ = some (.int .i64 r.v) ∧ w'.cell? ⟨w3.heap.size, 0, none⟩ = some (.int .i64 X) ∧ w'.cell? ⟨w3.heap.size, 1, none⟩ = some (.int .i64 Y) := hw'; go_simp; all_goals exact rfl
          simp only [Act.put, List.setIfInBounds_toArray, List.set_cons_succ, List.set_cons_zero]
          refine wpAnyK_take 12 (.agg #[.int .i64 r.x, .int .i64 r.v]) rfl (by kernel_rfl) (fun _ _ _ h => h) hc8 (And.intro (by rfl) ?hy12) ?_
          case hy12 => intro w' hw'; obtain ⟨c0, c1, c2, c3, c4, c5, c6, c7, c8⟩ : w'.cell? ⟨w1.heap.size, 0, none⟩ = some (.int .i64 c.kk) ∧ w'.cell? ⟨w1.heap.size, 1, none⟩ = some (.slice Av c.vars.length cv) ∧ w'.cell? ⟨w1.heap.size, 2, none⟩ = some (.slice Aa c.args.length ca) ∧ w'.cell? ⟨w1.heap.size, 3, none⟩ = some (.int .i64 c.bound) ∧ w'.cell? ⟨w1.heap.size, 4, none⟩ = some (.slice Ar c.rows.length cr) ∧ w'.cell? ⟨w1.heap.size + 1, 0, none⟩ = some (.int .i64 r.x) ∧ w'.cell? ⟨w1.heap.size + 1, 1, none⟩ = some (.int .i64 r.v) ∧ w'.cell? ⟨w3.heap.size, 0, none⟩ = some (.int .i64 X) ∧ w'.cell? ⟨w3.heap.size, 1, none⟩ = some (.int .i64 Y) := hw'; go_simp; all_goals exact rfl
          simp only [Act.put, List.setIfInBounds_toArray, List.set_cons_succ, List.set_cons_zero]
          refine wpAnyK_two (i := 6) (k := 10) (by kernel_rfl) rfl rfl (by omega) (by omega) (fun K hK => ?_) (fun K hK => ?_)
          · go_simp
            refine hK _ _ (HCL.out _ ((Ext.refl W8).drew.alloc _)) ?_
            clear hK K
            refine wpAnyK_two (i := 8) (k := 10) (by kernel_rfl) rfl rfl (by omega) (by omega) (fun K hK => ?_) (fun K hK => ?_)
            · obtain ⟨wq, hwq⟩ : ∃ wq, wq = (W8.alloc (.cells #[] 29)).drew := ⟨_, rfl⟩
              have hszq : wq.heap.size = W8.heap.size + 1 := by rw [hwq]; show (W8.alloc (.cells #[] 29)).heap.size = W8.heap.size + 1; simp
              have HXq := hide (show Ext W8 wq by rw [hwq]; exact ((Ext.refl W8).alloc _).drew)
              have HE := hide (show layRm.K (fun k => k = W8.heap.size ∨ wq.heap.size ≤ k) wq (.slice (some ⟨W8.heap.size, 0, none⟩) 0 0) [] from ⟨by rw [hwq]; exact LayApp.mono (LayApp.ext (LayApp.empty (L := layRm) W8 (o := (.cells #[] 29)) rfl) (Ext.refl _).drew) (Nat.zero_le _), fun g hg => by have hg : some W8.heap.size = some g := hg; injection hg with hg; exact .inl hg.symm⟩)
              rw [← hwq]
              clear hwq
              have hsq := HXq.out.size
              refine step_appW (L := layRm) layRmOk _ rfl _ _ rfl (fun k => k = W8.heap.size ∨ wq.heap.size ≤ k) (.slice (some ⟨W8.heap.size, 0, none⟩) 0 0) (.slice Al ls.length cl) [] ls rfl rfl HE.out (LayS.ext hL0.out (HX18.out.trans HXq.out)) HNIL.out (by simp; omega) (by show (0 + ls.length) * 16 ≤ _; omega) (fun k hk => .inr hk) ?_
              intro v9 W9 hA9 hk9
              rw [List.nil_append] at hA9
              have hx99 : Ext W8 W9 := ext_of_keepX (HXq.out.keep _) hk9 (fun k hk e => by omega)
              obtain ⟨A9, c9, rfl, -, -⟩ := LayK.form hA9
              have HA9 := hide hA9
              have HX9 := hide hx99
              have hs9 := hk9.size
              refine hK _ _ (HCL.out W9 hx99) ?_
              clear hK K hA9 hk9 hx99
              refine wpAnyK_one (i := 10) (by kernel_rfl) rfl (by omega) (fun K hK => ?_)
              go_simp
              obtain ⟨wr, hwr⟩ : ∃ wr, wr = W9.alloc (.cells #[.int .i64 X, .int .i64 Y] 29) := ⟨_, rfl⟩
              have hszr : wr.heap.size = W9.heap.size + 1 := by rw [hwr]; simp
              have HXr := hide (show Ext W9 wr by rw [hwr]; exact (Ext.refl W9).alloc _)
              have HSX := hide (show layRm.S wr (.slice (some ⟨W9.heap.size, 0, none⟩) 1 1) [⟨X, Y⟩] by rw [hwr]; exact rm_one9 _ ⟨X, Y⟩)
              have HAr := hide (show layRm.K (fun k => k = W8.heap.size ∨ wq.heap.size ≤ k) wr (.slice A9 ls.length c9) ls from ⟨LayApp.ext HA9.out.1 HXr.out, HA9.out.2⟩)
              rw [← hwr]
              clear hwr
              refine hK _ _ (HCL.out wr (HX9.out.trans HXr.out)) ?_
              clear hK K
              refine wpAnyK_one (i := 11) (by kernel_rfl) rfl (by omega) (fun K hK => ?_)
              refine step_appW (L := layRm) layRmOk _ rfl _ _ rfl (fun k => k = W8.heap.size ∨ wq.heap.size ≤ k) (.slice A9 ls.length c9) (.slice (some ⟨W9.heap.size, 0, none⟩) 1 1) ls [⟨X, Y⟩] rfl rfl HAr.out HSX.out (by intro n c h; cases h) (by simp; omega) (by show (ls.length + 1) * 16 ≤ _; omega) (fun k hk => .inr (by omega)) ?_
              intro v10 W10 hA10 hk10
              have hx10 : Ext W8 W10 := ext_of_keepX ((HX9.out.trans HXr.out).keep _) hk10 (fun k hk e => by omega)
              obtain ⟨A10, c10, rfl, -, -⟩ := LayK.form hA10
              have HS10 := hide (show SRm W10 (.slice A10 (ls.length + 1) c10) (ls ++ [⟨X, Y⟩]) by have h := layRm_S (LayApp.S hA10.1 (by show _ * 16 ≤ _; simp; omega)); simpa only [List.length_append, List.length_singleton] using h)
              have HX10 := hide hx10
              refine hK _ _ (HCL.out W10 hx10) ?_
              clear hK K hA10 hk10 hx10 HAr HA9
              refine wpAnyK_one (i := 13) (by kernel_rfl) rfl (by omega) (fun K hK => ?_)
              go_simp
              refine (IsExplanationI_any c _ _ m (ls ++ [⟨X, Y⟩]) r W10 (HSC.out _ (HX18.out.trans HX10.out)) HS10.out).mono ?_
              rw [HEV.out]
              rintro e W11 ⟨rfl, hx11⟩
              have HX11 := hide (HX10.out.trans hx11)
              refine hK _ _ (HCL.out W11 (HX10.out.trans hx11)) ?_
              clear hK K hx11
              refine wpAnyK_one (i := 14) (by kernel_rfl) rfl (by omega) (fun K hK => ?_)
              go_simp
              refine hK _ _ (HCL.out W11 HX11.out) ?_
              clear hK K
              refine wpAnyK_fin 15 [] (by omega) (by kernel_rfl) ?_
              simp only [nths, nth1]
              go_wp2_with fail
              go_ret
              exact Ret.mk rfl (HX1.out.trans (HX18.out.trans HX11.out))
            · go_simp
              obtain ⟨wq, hwq⟩ : ∃ wq, wq = ((W8.alloc (.cells #[] 29)).alloc (.cells #[.int .i64 X, .int .i64 Y] 29)).drew := ⟨_, rfl⟩
              have hsz1 : (W8.alloc (.cells #[] 29)).heap.size = W8.heap.size + 1 := by simp
              have hszq : wq.heap.size = W8.heap.size + 2 := by rw [hwq]; show ((W8.alloc (.cells #[] 29)).alloc (.cells #[.int .i64 X, .int .i64 Y] 29)).heap.size = W8.heap.size + 2; simp
              have HXq := hide (show Ext W8 wq by rw [hwq]; exact (((Ext.refl W8).alloc _).alloc _).drew)
              have HE := hide (show layRm.K (fun k => k = W8.heap.size ∨ wq.heap.size ≤ k) wq (.slice (some ⟨W8.heap.size, 0, none⟩) 0 0) [] from ⟨by rw [hwq]; exact LayApp.mono (LayApp.ext (LayApp.empty (L := layRm) W8 (o := (.cells #[] 29)) rfl) ((Ext.refl _).alloc _).drew) (Nat.zero_le _), fun g hg => by have hg : some W8.heap.size = some g := hg; injection hg with hg; exact .inl hg.symm⟩)
              have HSX := hide (show layRm.S wq (.slice (some ⟨W8.heap.size + 1, 0, none⟩) 1 1) [⟨X, Y⟩] by rw [hwq, ← hsz1]; exact LayS.ext (rm_one9 _ ⟨X, Y⟩) (Ext.refl _).drew)
              rw [← hwq]
              clear hwq hsz1
              have hsq := HXq.out.size
              have hcq := HCL.out wq HXq.out
              refine hK _ _ hcq ?_
              clear hK K hcq
              refine wpAnyK_one (i := 8) (by kernel_rfl) rfl (by omega) (fun K hK => ?_)
              refine step_appW (L := layRm) layRmOk _ rfl _ _ rfl (fun k => k = W8.heap.size ∨ wq.heap.size ≤ k) (.slice (some ⟨W8.heap.size, 0, none⟩) 0 0) (.slice Al ls.length cl) [] ls rfl rfl HE.out (LayS.ext hL0.out (HX18.out.trans HXq.out)) HNIL.out (by simp; omega) (by show (0 + ls.length) * 16 ≤ _; omega) (fun k hk => .inr hk) ?_
              intro v9 W9 hA9 hk9
              rw [List.nil_append] at hA9
              have hx99 : Ext W8 W9 := ext_of_keepX (HXq.out.keep _) hk9 (fun k hk e => by omega)
              obtain ⟨A9, c9, rfl, -, -⟩ := LayK.form hA9
              have HA9 := hide hA9
              have HX9 := hide hx99
              have hs9 := hk9.size
              have HS9 := hide (LayS.keep HSX.out hk9 (by omega))
              refine hK _ _ (HCL.out W9 hx99) ?_
              clear hK K hA9 hk9 hx99
              refine wpAnyK_one (i := 11) (by kernel_rfl) rfl (by omega) (fun K hK => ?_)
              refine step_appW (L := layRm) layRmOk _ rfl _ _ rfl (fun k => k = W8.heap.size ∨ wq.heap.size ≤ k) (.slice A9 ls.length c9) (.slice (some ⟨W8.heap.size + 1, 0, none⟩) 1 1) ls [⟨X, Y⟩] rfl rfl HA9.out HS9.out (by intro n c h; cases h) (by simp; omega) (by show (ls.length + 1) * 16 ≤ _; omega) (fun k hk => .inr (by omega)) ?_
              intro v10 W10 hA10 hk10
              have hx10 : Ext W8 W10 := ext_of_keepX (HX9.out.keep _) hk10 (fun k hk e => by omega)
              obtain ⟨A10, c10, rfl, -, -⟩ := LayK.form hA10
              have HS10 := hide (show SRm W10 (.slice A10 (ls.length + 1) c10) (ls ++ [⟨X, Y⟩]) by have h := layRm_S (LayApp.S hA10.1 (by show _ * 16 ≤ _; simp; omega)); simpa only [List.length_append, List.length_singleton] using h)
              have HX10 := hide hx10
              refine hK _ _ (HCL.out W10 hx10) ?_
              clear hK K hA10 hk10 hx10 HS9 HA9
              refine wpAnyK_one (i := 13) (by kernel_rfl) rfl (by omega) (fun K hK => ?_)
              go_simp
              refine (IsExplanationI_any c _ _ m (ls ++ [⟨X, Y⟩]) r W10 (HSC.out _ (HX18.out.trans HX10.out)) HS10.out).mono ?_
              rw [HEV.out]
              rintro e W11 ⟨rfl, hx11⟩
              have HX11 := hide (HX10.out.trans hx11)
              refine hK _ _ (HCL.out W11 (HX10.out.trans hx11)) ?_
              clear hK K hx11
              refine wpAnyK_one (i := 14) (by kernel_rfl) rfl (by omega) (fun K hK => ?_)
              go_simp
              refine hK _ _ (HCL.out W11 HX11.out) ?_
              clear hK K
              refine wpAnyK_fin 15 [] (by omega) (by kernel_rfl) ?_
              simp only [nths, nth1]
              go_wp2_with fail
              go_ret
              exact Ret.mk rfl (HX1.out.trans (HX18.out.trans HX11.out))
          · go_simp
            refine hK _ _ (HCL.out _ ((Ext.refl W8).drew.alloc _)) ?_
            clear hK K
            refine wpAnyK_one (i := 6) (by kernel_rfl) rfl (by omega) (fun K hK => ?_)
            go_simp
            obtain ⟨wq, hwq⟩ : ∃ wq, wq = ((W8.alloc (.cells #[.int .i64 X, .int .i64 Y] 29)).alloc (.cells #[] 29)).drew := ⟨_, rfl⟩
            have hsz1 : (W8.alloc (.cells #[.int .i64 X, .int .i64 Y] 29)).heap.size = W8.heap.size + 1 := by simp
            have hszq : wq.heap.size = W8.heap.size + 2 := by rw [hwq]; show ((W8.alloc (.cells #[.int .i64 X, .int .i64 Y] 29)).alloc (.cells #[] 29)).heap.size = W8.heap.size + 2; simp
            have HXq := hide (show Ext W8 wq by rw [hwq]; exact (((Ext.refl W8).alloc _).alloc _).drew)
            have HE := hide (show layRm.K (fun k => k = W8.heap.size + 1 ∨ wq.heap.size ≤ k) wq (.slice (some ⟨W8.heap.size + 1, 0, none⟩) 0 0) [] from ⟨by rw [hwq, ← hsz1]; exact LayApp.mono (LayApp.ext (LayApp.empty (L := layRm) _ (o := (.cells #[] 29)) rfl) (Ext.refl _).drew) (Nat.zero_le _), fun g hg => by have hg : some (W8.heap.size + 1) = some g := hg; injection hg with hg; exact .inl hg.symm⟩)
            have HSX := hide (show layRm.S wq (.slice (some ⟨W8.heap.size, 0, none⟩) 1 1) [⟨X, Y⟩] by rw [hwq]; exact LayS.ext (rm_one9 W8 ⟨X, Y⟩) ((Ext.refl _).alloc _).drew)
            rw [← hwq]
            clear hwq hsz1
            have hsq := HXq.out.size
            have hcq := HCL.out wq HXq.out
            refine hK _ _ hcq ?_
            clear hK K hcq
            refine wpAnyK_one (i := 8) (by kernel_rfl) rfl (by omega) (fun K hK => ?_)
            refine step_appW (L := layRm) layRmOk _ rfl _ _ rfl (fun k => k = W8.heap.size + 1 ∨ wq.heap.size ≤ k) (.slice (some ⟨W8.heap.size + 1, 0, none⟩) 0 0) (.slice Al ls.length cl) [] ls rfl rfl HE.out (LayS.ext hL0.out (HX18.out.trans HXq.out)) HNIL.out (by simp; omega) (by show (0 + ls.length) * 16 ≤ _; omega) (fun k hk => .inr hk) ?_
            intro v9 W9 hA9 hk9
            rw [List.nil_append] at hA9
            have hx99 : Ext W8 W9 := ext_of_keepX (HXq.out.keep _) hk9 (fun k hk e => by omega)
            obtain ⟨A9, c9, rfl, -, -⟩ := LayK.form hA9
            have HA9 := hide hA9
            have HX9 := hide hx99
            have hs9 := hk9.size
            have HS9 := hide (LayS.keep HSX.out hk9 (by omega))
            refine hK _ _ (HCL.out W9 hx99) ?_
            clear hK K hA9 hk9 hx99
            refine wpAnyK_one (i := 11) (by kernel_rfl) rfl (by omega) (fun K hK => ?_)
            refine step_appW (L := layRm) layRmOk _ rfl _ _ rfl (fun k => k = W8.heap.size + 1 ∨ wq.heap.size ≤ k) (.slice A9 ls.length c9) (.slice (some ⟨W8.heap.size, 0, none⟩) 1 1) ls [⟨X, Y⟩] rfl rfl HA9.out HS9.out (by intro n c h; cases h) (by simp; omega) (by show (ls.length + 1) * 16 ≤ _; omega) (fun k hk => .inr (by omega)) ?_
            intro v10 W10 hA10 hk10
            have hx10 : Ext W8 W10 := ext_of_keepX (HX9.out.keep _) hk10 (fun k hk e => by omega)
            obtain ⟨A10, c10, rfl, -, -⟩ := LayK.form hA10
            have HS10 := hide (show SRm W10 (.slice A10 (ls.length + 1) c10) (ls ++ [⟨X, Y⟩]) by have h := layRm_S (LayApp.S hA10.1 (by show _ * 16 ≤ _; simp; omega)); simpa only [List.length_append, List.length_singleton] using h)
            have HX10 := hide hx10
            refine hK _ _ (HCL.out W10 hx10) ?_
            clear hK K hA10 hk10 hx10 HS9 HA9
            refine wpAnyK_one (i := 13) (by kernel_rfl) rfl (by omega) (fun K hK => ?_)
            go_simp
            refine (IsExplanationI_any c _ _ m (ls ++ [⟨X, Y⟩]) r W10 (HSC.out _ (HX18.out.trans HX10.out)) HS10.out).mono ?_
            rw [HEV.out]
            rintro e W11 ⟨rfl, hx11⟩
            have HX11 := hide (HX10.out.trans hx11)
            refine hK _ _ (HCL.out W11 (HX10.out.trans hx11)) ?_
            clear hK K hx11
            refine wpAnyK_one (i := 14) (by kernel_rfl) rfl (by omega) (fun K hK => ?_)
            go_simp
            refine hK _ _ (HCL.out W11 HX11.out) ?_
            clear hK K
            refine wpAnyK_fin 15 [] (by omega) (by kernel_rfl) ?_
            simp only [nths, nth1]
            go_wp2_with fail
            go_ret
            exact Ret.mk rfl (HX1.out.trans (HX18.out.trans HX11.out))
end Go.Proofs.Ytmfbdaocnijnpaa
