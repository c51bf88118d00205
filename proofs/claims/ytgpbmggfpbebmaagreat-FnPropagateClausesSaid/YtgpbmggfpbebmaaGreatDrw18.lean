/- Draws of the generator: clauses, conjunctions; a model and literals. -/
import Derived.Test.YtgpbmggfpbebmaaGreatDrwF
import Derived.Test.YtgpbmggfpbebmaaGreatDrw17
namespace Go.Proofs.YtgpbmggfpbebmaaGreat
open Go.RowKit

set_option maxRecDepth 100000 in
set_option maxHeartbeats 4000000 in
theorem randomClause_any (w0 : World) (br N n : Nat) (W : World) (hn1 : 1 ≤ n) (hn : n ≤ 4) (hN : N ≤ 70000) (hR : RdSt w0 br N W) :
    Calls Tryz.prog 40 #[.pointer (some ⟨br, 0, none⟩), .int .i64 n] W (LGot w0 br (N + 10) 3 W) := by
  have HR := hide hR
  have hbr := hR.lt
  have hw0 := hR.ext.size
  clear hR
  go_enter Tryz.func40, Tryz.ntmps40
  go_wp2_with fail
  refine (pick_any w0 br N 4 _ (by omega) (by omega) (by omega) (HR.out.grow ((Ext.refl W).alloc _))).mono ?_
  rintro e W1 ⟨k, k0, k1, rfl, hR1, hK1⟩
  obtain ⟨k, rfl⟩ : ∃ k' : Nat, k = k' := ⟨k.toNat, by omega⟩
  have HR1 := hide hR1
  have HK1 := hide ((((Ext.refl W).alloc (.cells #[] 56)).keep (fun k => k ≠ br)).trans hK1)
  have HA1 := hide (LayApp.keepT (LayApp.empty (L := layLt) W rfl) hK1 (fun k hk => by omega))
  clear hR1 hK1
  go_wp2_with fail
  go_loopw [5, 6] (fun o i wr => ∃ (j : Nat) (xs : List Lt), i = .int .i64 j ∧ xs.length + j ≤ 3 ∧ layLt.App W.heap.size wr o xs ∧ (∀ l ∈ xs, smLt l) ∧ RdSt w0 br (N + 10 - 3 * j) wr ∧ Keep (fun k => k ≠ br) W wr) (fun _ i _ => (intOf i).toNat)
  case atStart => exact ⟨k, [], rfl, by simp; omega, HA1.out, (fun _ h => by cases h), HR1.out.mono (by omega), HK1.out⟩
  case round =>
    obtain ⟨j, xs, rfl, hj, hA, hok, hRr, hKr⟩ := hrel
    have HA := hide hA
    have HOK := hide hok
    have HRr := hide hRr
    have HKr := hide hKr
    have hsz := hKr.size
    obtain ⟨A1, c1, rfl, -⟩ := LayApp.form hA
    clear hA hok hRr hKr
    by_cases hj0 : 0 < j
    · have hjI : 0 < (j : Int) := by omega
      have hjw : IntKind.i64.wrap ((j : Int) - 1) = (j : Int) - 1 := IntWalk.i64_in _ (by omega)
      go_wp2_with fail
      refine (pick_any w0 br _ n _ (by omega) (by omega) ?_ HRr.out).mono ?_
      · omega
      rintro e W1 ⟨x, x0, x1, rfl, hR1, hK1⟩
      have HR1 := hide hR1
      have HK1 := hide (HKr.out.trans hK1)
      have HA1 := hide (LayApp.keepT HA.out hK1 (fun k hk => by omega))
      have hsz1 := hK1.size
      clear hR1 hK1
      go_wp2_with fail
      refine (pick_any w0 br _ 4 _ (by omega) (by omega) ?_ HR1.out).mono ?_
      · omega
      rintro e W2 ⟨a, a0, a1, rfl, hR2, hK2⟩
      have HR2 := hide hR2
      have HK2 := hide (HK1.out.trans hK2)
      have HA2 := hide (LayApp.keepT HA1.out hK2 (fun k hk => by omega))
      have hsz2 := hK2.size
      clear hR2 hK2
      go_wp2_with fail
      refine (pick_any w0 br _ 2 _ (by omega) (by omega) ?_ HR2.out).mono ?_
      · omega
      rintro e W3 ⟨b, b0, b1, rfl, hR3, hK3⟩
      have HR3 := hide hR3
      have HK3 := hide (HK2.out.trans hK3)
      have HA3 := hide (LayApp.keepT HA2.out hK3 (fun k hk => by omega))
      have hsz3 := hK3.size
      clear hR3 hK3
      go_wp2_with fail
      refine (mergeClauses_any _ _ xs [⟨x, a, b == 0⟩] _ (LayApp.S (LayApp.ext HA3.out ((Ext.refl W3).alloc _)) (by show _ * 24 ≤ _; omega)) (LayApp.hnil (LayApp.ext HA3.out ((Ext.refl W3).alloc (.cells #[] 56)))) (lt_one W3 ⟨x, a, b == 0⟩) (by omega) (by simp)).mono ?_
      rintro e W4 ⟨v4, zs, rfl, hA4, hl4, hm4, hX4⟩
      obtain ⟨A4, c4, rfl, -⟩ := LayApp.form hA4
      have hX4 := ((Ext.refl W3).alloc (.cells #[.int .i64 x, .int .i64 a, .bool (b == 0)] 56)).trans hX4
      have HA4 := hide (LayApp.mono hA4 (b1 := W.heap.size) (by simp; omega))
      have HM4 := hide hm4
      have HX4 := hide hX4
      have hl4 : zs.length ≤ xs.length + 1 := hl4
      clear hA4 hm4 hX4
      go_wp2_with fail
      go_roundw
      case rel =>
        refine ⟨j - 1, zs, by go_num, by omega, HA4.out, fun l hl => ?_, (HR3.out.grow HX4.out).mono (by omega), HK3.out.trans (HX4.out.keep _)⟩
        rcases HM4.out l hl with hl | hl
        · exact HOK.out l hl
        · simp at hl; subst hl; exact ⟨by show -10 ≤ x; omega, by show x ≤ 10; omega, by show -10 ≤ a; omega, by show a ≤ 10; omega⟩
      case measure => simp [intOf]; omega
    · obtain rfl : j = 0 := by omega
      go_wp2_with fail
      go_ret
      exact ⟨_, xs, rfl, HA.out, by omega, HOK.out, HRr.out, HKr.out⟩
section
variable {α : Type} {L : Lay α} {P : Program}
/-- append of a slice, at a step of a region that draws: which blocks it writes. -/
theorem step_appK9 (hL : LayOk L P) (w : World) {ops : Array Oper} {o : Oper} {a : Act} {K : Act → World → Prop} {Q : Exit → Act → World → Prop} {E : Prop} (hgd : o.guard = none) (s x : Operand)
    (ho : o.op = .call { callee := .builtin .append, args := #[s, x], argTypes := #[L.st, L.st] })
    (S : Nat → Prop) (v va : Value) (xs ys : List α) (hs : a.eval s = v) (hx : a.eval x = va) (hown : L.K S w v xs) (hy : L.S w va ys) (hnil : ∀ n c, va = .slice none n c → c = 0)
    (hl : xs.length + ys.length ≤ 1000000000000) (hb : (xs.length + ys.length) * L.bytes ≤ 140737488355328) (hS : ∀ k, w.heap.size ≤ k → S k)
    (h : ∀ v' w', L.K S w' v' (xs ++ ys) → Keep (fun k => ¬ S k) w w' → K (a.put o.dst v') w') : if Region.wanted o (yielded ops a.tmps) = true then Oper.wp P o a w K Q else E := by
  obtain ⟨v', w', hrun, h1, h2⟩ := run_appK hL w o.type S v va xs ys hown hy hnil hl hb hS
  have hw : Region.wanted o (yielded ops a.tmps) = true := by simp [Region.wanted, hgd]
  rw [if_pos hw]
  unfold Oper.wp
  simp [execOp, ho, resolve, invoke, builtin, hs, hx, hrun, Result.andThen]
  exact h v' w' h1 h2
theorem LayK.app {S : Nat → Prop} {base : Nat} {w : World} {v : Value} {xs : List α} (h : L.K S w v xs) (hS : ∀ k, S k → base ≤ k) : L.App base w v xs := by
  refine ⟨h.1.1, ?_⟩
  rcases h.1.2 with hn | ⟨g, cap, cur, e, hg, rest⟩
  · exact .inl hn
  · exact .inr ⟨g, cap, cur, e, hS g (h.2 g (by rw [e]; rfl)), rest⟩
/-- append of a slice, at a step of a region that draws. -/
theorem step_appG (hL : LayOk L P) (w : World) {ops : Array Oper} {o : Oper} {a : Act} {K : Act → World → Prop} {Q : Exit → Act → World → Prop} {E : Prop} (hgd : o.guard = none) (s x : Operand)
    (ho : o.op = .call { callee := .builtin .append, args := #[s, x], argTypes := #[L.st, L.st] })
    (base : Nat) (v va : Value) (xs ys : List α) (hs : a.eval s = v) (hx : a.eval x = va) (hown : L.App base w v xs) (hy : L.S w va ys) (hnil : ∀ n c, va = .slice none n c → c = 0)
    (hl : xs.length + ys.length ≤ 1000000000000) (hb : (xs.length + ys.length) * L.bytes ≤ 140737488355328) (hbase : base ≤ w.heap.size)
    (h : ∀ v' w', L.App base w' v' (xs ++ ys) → Below base w w' → K (a.put o.dst v') w') : if Region.wanted o (yielded ops a.tmps) = true then Oper.wp P o a w K Q else E := by
  obtain ⟨v', w', hrun, h1, h2⟩ := run_appG hL w o.type base v va xs ys hown hy hnil hl hb hbase
  have hw : Region.wanted o (yielded ops a.tmps) = true := by simp [Region.wanted, hgd]
  rw [if_pos hw]
  unfold Oper.wp
  simp [execOp, ho, resolve, invoke, builtin, hs, hx, hrun, Result.andThen]
  exact h v' w' h1 h2
end
set_option maxRecDepth 100000 in
set_option maxHeartbeats 4000000 in
theorem anyClause_any (w0 : World) (br N n : Nat) (W : World) (hn1 : 1 ≤ n) (hn : n ≤ 4) (hN : N ≤ 60000) (hR : RdSt w0 br N W) :
    Calls Tryz.prog 41 #[.pointer (some ⟨br, 0, none⟩), .int .i64 n] W (LGot w0 br (N + 13) 4 W) := by
  have HR := hide hR
  have hbr := hR.lt
  have hw0 := hR.ext.size
  clear hR
  go_enter Tryz.func41, Tryz.ntmps41
  go_wp2_with fail
  refine (randomClause_any w0 br N n _ hn1 hn (by omega) HR.out).mono ?_
  rintro e W1 ⟨v1, xs, rfl, hA1, hxl, hok, hR1, hK1⟩
  have HA1 := hide hA1
  have HOK := hide hok
  have HR1 := hide hR1
  have HK1 := hide hK1
  have hsz1 := hK1.size
  obtain ⟨A1, c1, rfl, hlc, -⟩ := LayApp.form hA1
  clear hA1 hok hR1 hK1
  go_wp2_with fail
  refine (pick_any w0 br (N + 10) 16 _ (by omega) (by omega) (by omega) HR1.out).mono ?_
  rintro e W2 ⟨y, y0, y1, rfl, hR2, hK2⟩
  have HR2 := hide hR2
  have HK2 := hide (HK1.out.trans hK2)
  have HA2 := hide (LayApp.keepT HA1.out hK2 (fun k hk => by omega))
  have hsz2 := hK2.size
  clear hR2 hK2
  by_cases hy0 : y = 0
  · subst hy0
    go_wp2_with fail
    refine (one_any w0 br (N + 11) (-1) n W2.heap.size 2 2 _ (by omega) (by omega) (by omega) (HR2.out.grow ((Ext.refl _).alloc _)) (by simp) (by omega) (newL12 W2 3 [-1, (n : Int)] (by intro x hx; simp at hx; omega)) (Nat.le_refl _)).mono ?_
    rintro e W3 ⟨x, x0, x1, rfl, hR3, hK3⟩
    have hK3 : Keep (fun k => k ≠ br) W2 W3 := (((Ext.refl W2).alloc _).keep _).trans hK3
    have HR3 := hide hR3
    have HK3 := hide (HK2.out.trans hK3)
    have HA3 := hide (LayApp.keepT HA2.out hK3 (fun k hk => by omega))
    have hsz3 := hK3.size
    clear hR3 hK3
    go_wp2_with fail
    refine (one_any w0 br (N + 12) 0 6 W3.heap.size 2 2 _ (by omega) (by omega) (by omega) (HR3.out.grow ((Ext.refl _).alloc _)) (by simp) (by omega) (newL12 W3 3 [0, 6] (by intro x hx; simp at hx; omega)) (Nat.le_refl _)).mono ?_
    rintro e W4 ⟨z, z0, z1, rfl, hR4, hK4⟩
    have hK4 : Keep (fun k => k ≠ br) W3 W4 := (((Ext.refl W3).alloc _).keep _).trans hK4
    have HR4 := hide hR4
    have HK4 := hide (HK3.out.trans hK4)
    have HA4 := hide (LayApp.keepT HA3.out hK4 (fun k hk => by omega))
    have hsz4 := hK4.size
    clear hR4 hK4
    go_wp2_with (at_builtin; go_must (refine wpList_appG layLtOk _ rfl _ _ rfl W.heap.size (.slice A1 xs.length c1) (.slice (some ⟨W4.heap.size, 0, none⟩) 1 1) xs [⟨x, z, false⟩] rfl rfl (LayApp.ext HA4.out ((Ext.refl W4).alloc _)) (lt_one W4 ⟨x, z, false⟩) (fun n c e => by cases e) (by simp; omega) (by show _ * 24 ≤ _; simp; omega) (by simp; omega) ?_); intro v' W5 hA5 hb5; have HA5 := hide hA5; have HB5 := hide hb5; clear hA5 hb5)
    go_ret
    refine ⟨_, _, rfl, HA5.out, by simp; omega, fun l hl => ?_, RdSt.mono ((HR4.out.grow ((Ext.refl _).alloc _)).far8 HB5.out hbr hw0) (by omega), (HK4.out.alloc _).far8 HB5.out⟩
    rcases List.mem_append.1 hl with hl | hl
    · exact HOK.out l hl
    · simp at hl; subst hl; exact ⟨by show -10 ≤ x; omega, by show x ≤ 10; omega, by show -10 ≤ z; omega, by show z ≤ 10; omega⟩
  · have hb0 : (y == 0) = false := by simp [hy0]
    by_cases hy1 : y = 1
    · subst hy1
      by_cases hl1 : 1 < xs.length
      · have hlI : 1 < (xs.length : Int) := by omega
        obtain ⟨g, cap', hv1⟩ := lt_own HA2.out (by omega)
        injection hv1 with hv1 _ hv2
        subst hv1
        subst hv2
        have hS2 := LayApp.S HA2.out (by show _ * 24 ≤ _; omega)
        obtain ⟨b, off, he, hgl, e0, e1, e2⟩ := ltS_at hS2 (j := 0) (by omega)
        injection he with he
        injection he with he1 he2 _
        subst he1
        subst he2
        simp only [Nat.zero_mul, Nat.zero_add] at e0 e1 e2
        have HSd := hide (LayS.drop layLtOk hS2 (A2 := some ⟨g, 3, none⟩) (n2 := xs.length - 1) (c2 := c1 - 1) (i := 1) (by omega) rfl (by omega) (fun _ b off e => by
          injection e with e
          injection e with e1 e2
          subst e1
          subst e2
          rfl))
        have hdl : (xs.drop 1).length = xs.length - 1 := by simp
        have hc1 : ¬ (c1 = 1) := by omega
        have hc0 : ¬ (c1 < 1) := by omega
        have hl0 : ¬ ((xs.length : Int) < 1) := by omega
        have hgb : g < W2.heap.size := hgl
        have hp0 : 0 < (xs.length : Int) := by omega
        have hp1 : 0 < xs.length := by omega
        clear hS2
        go_upto_region 7 with fail
        refine wp_region_any (by kernel_rfl) ?_
        change wpAny _ _ _ _ _ _ _ (World.drew _)
        refine wpAny_take (i := 1) (v := ?_) rfl (by kernel_rfl) (by kernel_rfl) (by kernel_rfl) (by first | exact fun _ _ _ h => h | (rintro _ _ _ ⟨h, _⟩; cases h)) (Or.inl ⟨by rfl, ?hy1⟩) ?_
        case hy1 => intro w; go_simp; with_reducible rfl
        simp only [Act.put, List.getElem_toArray, List.getElem_cons_zero, List.getElem_cons_succ, List.setIfInBounds_toArray, List.set_cons_succ, List.set_cons_zero]
        refine wpAny_take (i := 4) (v := ?_) rfl (by kernel_rfl) (by kernel_rfl) (by kernel_rfl) (by first | exact fun _ _ _ h => h | (rintro _ _ _ ⟨h, _⟩; cases h)) (Or.inl ⟨by rfl, ?hy4⟩) ?_
        case hy4 => intro w; go_simp; with_reducible rfl
        simp only [Act.put, List.getElem_toArray, List.getElem_cons_zero, List.getElem_cons_succ, List.setIfInBounds_toArray, List.set_cons_succ, List.set_cons_zero]
        refine wpAny_take (i := 2) (v := .slice (some ⟨g, 3, none⟩) (xs.length - 1) (c1 - 1)) rfl (by kernel_rfl) (by kernel_rfl) (by kernel_rfl) (by first | exact fun _ _ _ h => h | (rintro _ _ _ ⟨h, _⟩; cases h)) (Or.inl ⟨by rfl, ?hy2⟩) ?_
        case hy2 => intro w; go_simp; all_goals first | rfl | omega
        simp only [Act.put, List.setIfInBounds_toArray]
        refine wpAny_take (i := 5) (v := ?_) rfl (by kernel_rfl) (by kernel_rfl) (by kernel_rfl) (by first | exact fun _ _ _ h => h | (rintro _ _ _ ⟨h, _⟩; cases h)) (Or.inl ⟨by rfl, ?hy5⟩) ?_
        case hy5 => intro w; go_simp; with_reducible rfl
        simp only [Act.put, List.getElem_toArray, List.getElem_cons_zero, List.getElem_cons_succ, List.setIfInBounds_toArray, List.set_cons_succ, List.set_cons_zero]
        refine wpAny_ofK (C := fun w => w.cell? ⟨g, 0, none⟩ = some (.int .i64 (ltX xs 0)) ∧ w.cell? ⟨g, 1, none⟩ = some (.int .i64 (ltV xs 0)) ∧ w.cell? ⟨g, 2, none⟩ = some (.bool (ltN xs 0))) (n := 8) _ _ _ _ ?_
        refine wpAnyK_take 6 (.agg #[.int .i64 (ltX xs 0), .int .i64 (ltV xs 0), .bool (ltN xs 0)]) rfl (by kernel_rfl) (fun _ _ _ h => h) ⟨e0, e1, e2⟩ (And.intro (by rfl) ?hy6) ?_
        case hy6 => intro w' hw'; obtain ⟨hk1, hk2, hk3⟩ : w'.cell? ⟨g, 0, none⟩ = some (.int .i64 (ltX xs 0)) ∧ w'.cell? ⟨g, 1, none⟩ = some (.int .i64 (ltV xs 0)) ∧ w'.cell? ⟨g, 2, none⟩ = some (.bool (ltN xs 0)) := hw'; go_simp; all_goals exact rfl
        simp only [Act.put, List.setIfInBounds_toArray, List.set_cons_succ, List.set_cons_zero]
        have hk1 : Keep (fun k => k < W2.heap.size) W2 ((W2.alloc (.cells #[] 56)).drew) := (((Ext.refl W2).alloc _).drew).keep _
        have hs1 : ((W2.alloc (.cells #[] 56)).drew).heap.size = W2.heap.size + 1 := by show (W2.alloc _).heap.size = _; simp
        refine wpAnyK_two (i := 0) (k := 7) (by kernel_rfl) rfl rfl (by omega) (by omega) (fun K hK => ?_) (fun K hK => ?_)
        · go_simp
          refine hK _ _ ⟨(hk1.cell (p := ⟨g, 0, none⟩) hgl hgb).trans e0, (hk1.cell (p := ⟨g, 1, none⟩) hgl hgb).trans e1, (hk1.cell (p := ⟨g, 2, none⟩) hgl hgb).trans e2⟩ ?_
          clear hK K
          refine wpAnyK_two (i := 3) (k := 7) (by kernel_rfl) rfl rfl (by omega) (by omega) (fun K hK => ?_) (fun K hK => ?_)
          · refine step_appK9 layLtOk _ rfl _ _ rfl (fun k => W2.heap.size ≤ k) (.slice (some ⟨W2.heap.size, 0, none⟩) 0 0) (.slice (some ⟨g, 3, none⟩) (xs.length - 1) (c1 - 1)) [] (xs.drop 1) rfl rfl ⟨World.ownsRow.drew (LayApp.mono (LayApp.empty (L := layLt) W2 rfl) (Nat.zero_le _)), fun g' hg' => by have hg' : some W2.heap.size = some g' := hg'; injection hg' with hg'; exact Nat.le_of_eq hg'⟩ (LayS.ext HSd.out (((Ext.refl W2).alloc _).drew)) (fun n c e => by cases e) (by rw [hdl]; show 0 + _ ≤ _; omega) (by show (0 + _) * 24 ≤ _; rw [hdl]; omega) (fun k hk => by rw [hs1] at hk; show W2.heap.size ≤ k; omega) ?_
            intro v3 W3 hA3 hk3
            have hk13 : Keep (fun k => k < W2.heap.size) W2 W3 := hk1.trans (hk3.mono (fun k _ hk => by omega))
            have hsz3 := hk13.size
            refine hK _ _ ⟨(hk13.cell (p := ⟨g, 0, none⟩) hgl hgb).trans e0, (hk13.cell (p := ⟨g, 1, none⟩) hgl hgb).trans e1, (hk13.cell (p := ⟨g, 2, none⟩) hgl hgb).trans e2⟩ ?_
            clear hK K
            refine wpAnyK_one (i := 7) (by kernel_rfl) rfl (by omega) (fun K hK => ?_)
            go_simp
            have HK5 := hide (hk13.trans (((Ext.refl W3).alloc (.cells #[.int .i64 (ltX xs 0), .int .i64 (ltV xs 0), .bool (ltN xs 0)] 56)).keep _))
            refine hK _ _ ⟨(HK5.out.cell (p := ⟨g, 0, none⟩) hgl hgb).trans e0, (HK5.out.cell (p := ⟨g, 1, none⟩) hgl hgb).trans e1, (HK5.out.cell (p := ⟨g, 2, none⟩) hgl hgb).trans e2⟩ ?_
            clear hK K
            have HV3 := hide (LayApp.ext (LayK.app hA3 (base := W2.heap.size) (fun k hk => hk)) ((Ext.refl W3).alloc (.cells #[.int .i64 (ltX xs 0), .int .i64 (ltV xs 0), .bool (ltN xs 0)] 56)))
            have HLT := hide (lt_one W3 (lt0 xs 0))
            obtain ⟨bl, hbl⟩ : ∃ bl, bl = W3.heap.size := ⟨_, rfl⟩
            rw [← hbl] at HLT ⊢
            clear hA3 hk3 hk13 hk1
            refine wpAnyK_fin 8 [9] (by omega) (by kernel_rfl) ?_
            simp only [nths, nth1]
            obtain ⟨A3, c3, hv3, -, -⟩ := LayApp.form HV3.out
            rw [List.nil_append, hdl] at hv3
            subst hv3
            refine wpList_appG layLtOk _ rfl _ _ rfl W2.heap.size (.slice A3 (xs.length - 1) c3) (.slice (some ⟨bl, 0, none⟩) 1 1) ([] ++ xs.drop 1) [lt0 xs 0] rfl rfl HV3.out HLT.out (fun n c e => by cases e) (by rw [List.nil_append, hdl]; show _ + 1 ≤ _; omega) (by show (_ + 1) * 24 ≤ _; rw [List.nil_append, hdl]; omega) HK5.out.size ?_
            intro v' W6 hA6 hb6
            have HA6 := hide hA6
            have HB6 := hide (HK5.out.trans (Below.keep12 hb6))
            clear hA6 hb6
            go_wp2_with fail
            go_ret
            refine ⟨_, _, rfl, LayApp.mono HA6.out (by omega), by rw [List.length_append, List.nil_append, hdl]; show _ + 1 ≤ _; omega, fun l hl => ?_, (HR2.out.mono (by omega)).keep HB6.out (by omega) (fun k hk => by omega), HK2.out.trans9 HB6.out (fun k hk _ => by omega)⟩
            rcases List.mem_append.1 hl with hl | hl
            · rw [List.nil_append] at hl; exact HOK.out l (List.mem_of_mem_drop hl)
            · simp at hl; subst hl; exact HOK.out _ (lt0_mem (by omega))
          · go_simp
            have hxb : Ext W2 (((W2.alloc (.cells #[] 56)).alloc (.cells #[.int .i64 (ltX xs 0), .int .i64 (ltV xs 0), .bool (ltN xs 0)] 56)).drew) := (((Ext.refl W2).alloc _).alloc _).drew
            have hkb : Keep (fun k => k < W2.heap.size) W2 (((W2.alloc (.cells #[] 56)).alloc (.cells #[.int .i64 (ltX xs 0), .int .i64 (ltV xs 0), .bool (ltN xs 0)] 56)).drew) := hxb.keep _
            have hsb : (((W2.alloc (.cells #[] 56)).alloc (.cells #[.int .i64 (ltX xs 0), .int .i64 (ltV xs 0), .bool (ltN xs 0)] 56)).drew).heap.size = W2.heap.size + 2 := by show ((W2.alloc _).alloc _).heap.size = _; simp
            have hs0 : (W2.alloc (.cells #[] 56)).heap.size = W2.heap.size + 1 := by simp
            refine hK _ _ ⟨(hkb.cell (p := ⟨g, 0, none⟩) hgl hgb).trans e0, (hkb.cell (p := ⟨g, 1, none⟩) hgl hgb).trans e1, (hkb.cell (p := ⟨g, 2, none⟩) hgl hgb).trans e2⟩ ?_
            clear hK K
            refine wpAnyK_one (i := 3) (by kernel_rfl) rfl (by omega) (fun K hK => ?_)
            refine step_appK9 layLtOk (((W2.alloc (.cells #[] 56)).alloc (.cells #[.int .i64 (ltX xs 0), .int .i64 (ltV xs 0), .bool (ltN xs 0)] 56)).drew) rfl _ _ rfl (fun k => k = W2.heap.size ∨ W2.heap.size + 2 ≤ k) (.slice (some ⟨W2.heap.size, 0, none⟩) 0 0) (.slice (some ⟨g, 3, none⟩) (xs.length - 1) (c1 - 1)) [] (xs.drop 1) rfl rfl ⟨LayApp.mono (LayApp.ext (LayApp.empty (L := layLt) W2 rfl) (((Ext.refl _).alloc _).drew)) (Nat.zero_le _), fun g' hg' => by have hg' : some W2.heap.size = some g' := hg'; injection hg' with hg'; exact Or.inl hg'.symm⟩ (LayS.ext HSd.out hxb) (fun n c e => by cases e) (by rw [hdl]; show 0 + _ ≤ _; omega) (by show (0 + _) * 24 ≤ _; rw [hdl]; omega) (fun k hk => by rw [hsb] at hk; exact Or.inr hk) ?_
            intro v3 W5 hA3 hk3
            have HK5 := hide (hkb.trans (hk3.mono (fun k _ hk => by omega)))
            refine hK _ _ ⟨(HK5.out.cell (p := ⟨g, 0, none⟩) hgl hgb).trans e0, (HK5.out.cell (p := ⟨g, 1, none⟩) hgl hgb).trans e1, (HK5.out.cell (p := ⟨g, 2, none⟩) hgl hgb).trans e2⟩ ?_
            clear hK K
            have HV3 := hide (LayK.app hA3 (base := W2.heap.size) (fun k hk => by omega))
            have hlt1 := LayS.keep (LayS.ext (lt_one (W2.alloc (.cells #[] 56)) (lt0 xs 0)) ((Ext.refl _).drew)) hk3 (by rw [hs0]; omega)
            have HLT := hide hlt1
            rw [hs0] at HLT
            obtain ⟨bl, hbl⟩ : ∃ bl, bl = W2.heap.size + 1 := ⟨_, rfl⟩
            try rw [hs0]
            rw [← hbl] at HLT ⊢
            clear hA3 hk3 hkb hk1 hlt1 hxb
            refine wpAnyK_fin 8 [9] (by omega) (by kernel_rfl) ?_
            simp only [nths, nth1]
            obtain ⟨A3, c3, hv3, -, -⟩ := LayApp.form HV3.out
            rw [List.nil_append, hdl] at hv3
            subst hv3
            refine wpList_appG layLtOk _ rfl _ _ rfl W2.heap.size (.slice A3 (xs.length - 1) c3) (.slice (some ⟨bl, 0, none⟩) 1 1) ([] ++ xs.drop 1) [lt0 xs 0] rfl rfl HV3.out HLT.out (fun n c e => by cases e) (by rw [List.nil_append, hdl]; show _ + 1 ≤ _; omega) (by show (_ + 1) * 24 ≤ _; rw [List.nil_append, hdl]; omega) HK5.out.size ?_
            intro v' W6 hA6 hb6
            have HA6 := hide hA6
            have HB6 := hide (HK5.out.trans (Below.keep12 hb6))
            clear hA6 hb6
            go_wp2_with fail
            go_ret
            refine ⟨_, _, rfl, LayApp.mono HA6.out (by omega), by rw [List.length_append, List.nil_append, hdl]; show _ + 1 ≤ _; omega, fun l hl => ?_, (HR2.out.mono (by omega)).keep HB6.out (by omega) (fun k hk => by omega), HK2.out.trans9 HB6.out (fun k hk _ => by omega)⟩
            rcases List.mem_append.1 hl with hl | hl
            · rw [List.nil_append] at hl; exact HOK.out l (List.mem_of_mem_drop hl)
            · simp at hl; subst hl; exact HOK.out _ (lt0_mem (by omega))
        · go_simp
          have hka : Keep (fun k => k < W2.heap.size) W2 ((W2.alloc (.cells #[.int .i64 (ltX xs 0), .int .i64 (ltV xs 0), .bool (ltN xs 0)] 56)).drew) := (((Ext.refl W2).alloc _).drew).keep _
          refine hK _ _ ⟨(hka.cell (p := ⟨g, 0, none⟩) hgl hgb).trans e0, (hka.cell (p := ⟨g, 1, none⟩) hgl hgb).trans e1, (hka.cell (p := ⟨g, 2, none⟩) hgl hgb).trans e2⟩ ?_
          clear hK K
          refine wpAnyK_one (i := 0) (by kernel_rfl) rfl (by omega) (fun K hK => ?_)
          go_simp
          have hxb : Ext W2 (((W2.alloc (.cells #[.int .i64 (ltX xs 0), .int .i64 (ltV xs 0), .bool (ltN xs 0)] 56)).alloc (.cells #[] 56)).drew) := (((Ext.refl W2).alloc _).alloc _).drew
          have hkb : Keep (fun k => k < W2.heap.size) W2 (((W2.alloc (.cells #[.int .i64 (ltX xs 0), .int .i64 (ltV xs 0), .bool (ltN xs 0)] 56)).alloc (.cells #[] 56)).drew) := hxb.keep _
          have hsb : (((W2.alloc (.cells #[.int .i64 (ltX xs 0), .int .i64 (ltV xs 0), .bool (ltN xs 0)] 56)).alloc (.cells #[] 56)).drew).heap.size = W2.heap.size + 2 := by show ((W2.alloc _).alloc _).heap.size = _; simp
          have hs0 : (W2.alloc (.cells #[.int .i64 (ltX xs 0), .int .i64 (ltV xs 0), .bool (ltN xs 0)] 56)).heap.size = W2.heap.size + 1 := by simp
          refine hK _ _ ⟨(hkb.cell (p := ⟨g, 0, none⟩) hgl hgb).trans e0, (hkb.cell (p := ⟨g, 1, none⟩) hgl hgb).trans e1, (hkb.cell (p := ⟨g, 2, none⟩) hgl hgb).trans e2⟩ ?_
          clear hK K
          refine wpAnyK_one (i := 3) (by kernel_rfl) rfl (by omega) (fun K hK => ?_)
          refine step_appK9 layLtOk (((W2.alloc (.cells #[.int .i64 (ltX xs 0), .int .i64 (ltV xs 0), .bool (ltN xs 0)] 56)).alloc (.cells #[] 56)).drew) rfl _ _ rfl (fun k => W2.heap.size + 1 ≤ k) (.slice (some ⟨W2.heap.size + 1, 0, none⟩) 0 0) (.slice (some ⟨g, 3, none⟩) (xs.length - 1) (c1 - 1)) [] (xs.drop 1) rfl rfl ⟨LayApp.mono (World.ownsRow.drew (by have h := LayApp.empty (L := layLt) (W2.alloc (.cells #[.int .i64 (ltX xs 0), .int .i64 (ltV xs 0), .bool (ltN xs 0)] 56)) rfl; rw [hs0] at h; exact h)) (Nat.zero_le _), fun g' hg' => by have hg' : some (W2.heap.size + 1) = some g' := hg'; injection hg' with hg'; exact Nat.le_of_eq hg'⟩ (LayS.ext HSd.out hxb) (fun n c e => by cases e) (by rw [hdl]; show 0 + _ ≤ _; omega) (by show (0 + _) * 24 ≤ _; rw [hdl]; omega) (fun k hk => by rw [hsb] at hk; show W2.heap.size + 1 ≤ k; omega) ?_
          intro v3 W5 hA3 hk3
          have HK5 := hide (hkb.trans (hk3.mono (fun k _ hk => by omega)))
          refine hK _ _ ⟨(HK5.out.cell (p := ⟨g, 0, none⟩) hgl hgb).trans e0, (HK5.out.cell (p := ⟨g, 1, none⟩) hgl hgb).trans e1, (HK5.out.cell (p := ⟨g, 2, none⟩) hgl hgb).trans e2⟩ ?_
          clear hK K
          have HV3 := hide (LayK.app hA3 (base := W2.heap.size) (fun k hk => by have hk : W2.heap.size + 1 ≤ k := hk; omega))
          have HLT := hide (LayS.keep (LayS.ext (lt_one W2 (lt0 xs 0)) (((Ext.refl _).alloc _).drew)) hk3 (by omega))
          obtain ⟨bl, hbl⟩ : ∃ bl, bl = W2.heap.size := ⟨_, rfl⟩
          clear hA3 hk3 hkb hk1 hxb hka
          clear hbl bl
          refine wpAnyK_fin 8 [9] (by omega) (by kernel_rfl) ?_
          simp only [nths, nth1]
          obtain ⟨A3, c3, hv3, -, -⟩ := LayApp.form HV3.out
          rw [List.nil_append, hdl] at hv3
          subst hv3
          refine wpList_appG layLtOk _ rfl _ _ rfl W2.heap.size (.slice A3 (xs.length - 1) c3) (.slice (some ⟨W2.heap.size, 0, none⟩) 1 1) ([] ++ xs.drop 1) [lt0 xs 0] rfl rfl HV3.out HLT.out (fun n c e => by cases e) (by rw [List.nil_append, hdl]; show _ + 1 ≤ _; omega) (by show (_ + 1) * 24 ≤ _; rw [List.nil_append, hdl]; omega) HK5.out.size ?_
          intro v' W6 hA6 hb6
          have HA6 := hide hA6
          have HB6 := hide (HK5.out.trans (Below.keep12 hb6))
          clear hA6 hb6
          go_wp2_with fail
          go_ret
          refine ⟨_, _, rfl, LayApp.mono HA6.out (by omega), by rw [List.length_append, List.nil_append, hdl]; show _ + 1 ≤ _; omega, fun l hl => ?_, (HR2.out.mono (by omega)).keep HB6.out (by omega) (fun k hk => by omega), HK2.out.trans9 HB6.out (fun k hk _ => by omega)⟩
          rcases List.mem_append.1 hl with hl | hl
          · rw [List.nil_append] at hl; exact HOK.out l (List.mem_of_mem_drop hl)
          · simp at hl; subst hl; exact HOK.out _ (lt0_mem (by omega))
      · have hlI : ¬ (1 < (xs.length : Int)) := by omega
        go_wp2_with fail
        go_ret
        exact ⟨_, xs, rfl, HA2.out, by omega, HOK.out, HR2.out.mono (by omega), HK2.out⟩
    · have hb1 : (y == 1) = false := by simp [hy1]
      go_wp2_with fail
      go_ret
      exact ⟨_, xs, rfl, HA2.out, by omega, HOK.out, HR2.out.mono (by omega), HK2.out⟩
end Go.Proofs.YtgpbmggfpbebmaaGreat
