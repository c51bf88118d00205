/- Draws of the generator: clauses, conjunctions; a model and literals. -/
import Derived.Test.YtbfcbfkfbpaoiaaGreatQ10
import Derived.Test.YtbfcbfkfbpaoiaaGreatDrw17
import Derived.Test.YtbfcbfkfbpaoiaaGreatQ6
namespace Go.Proofs.YtbfcbfkfbpaoiaaGreat
open Go.RowKit

set_option maxRecDepth 100000 in
set_option maxHeartbeats 4000000 in
theorem randomClause_any (w0 : World) (br N n : Nat) (W : World) (hn1 : 1 ≤ n) (hn : n ≤ 4) (hN : N ≤ 70000) (hR : RdSt w0 br N W) :
    Calls Tryz.prog 67 #[.pointer (some ⟨br, 0, none⟩), .int .i64 n] W (LGot w0 br (N + 10) 3 W) := by
  have HR := hide hR
  have hbr := hR.lt
  have hw0 := hR.ext.size
  clear hR
  go_enter Tryz.func67, Tryz.ntmps67
  go_wp2_with fail
  refine (pick_any w0 br N 4 _ (by omega) (by omega) (by omega) (HR.out.grow ((Ext.refl W).alloc _))).mono ?_
  rintro e W1 ⟨k, k0, k1, rfl, hR1, hK1⟩
  obtain ⟨k, rfl⟩ : ∃ k' : Nat, k = k' := ⟨k.toNat, by omega⟩
  have HR1 := hide hR1
  have HK1 := hide ((((Ext.refl W).alloc (.cells #[] 34)).keep (fun k => k ≠ br)).trans hK1)
  have HA1 := hide (LayApp.keepT (LayApp.empty (L := layLt) W rfl) hK1 (fun k hk => by omega))
  clear hR1 hK1
  go_wp2_with fail
  go_loopw [5, 6] (fun o i wr => ∃ (j : Nat) (xs : List Lt), i = .int .i64 j ∧ xs.length + j ≤ 3 ∧ layLt.App W.heap.size wr o xs ∧ (∀ l ∈ xs, smLt l) ∧ RdSt w0 br (N + 10 - 3 * j) wr ∧ Keep (fun k => k ≠ br) W wr) (fun _ i _ => (intOf i).toNat)
  case atStart => exact ⟨k, [], rfl, by simp; omega, HA1.out, (fun _ h => by cases h), HR1.out.mono (by omega), HK1.out⟩
  case round =>
    obtain ⟨j, xs, rfl, hj, hA, hok, hRr, hKr⟩ := hrel
    have HA := hide hA
    have HOK := hide hok
    have HRr := hide hRr
    have HKr := hide hKr
    have hsz := hKr.size
    obtain ⟨A1, c1, rfl, -⟩ := LayApp.form hA
    clear hA hok hRr hKr
    by_cases hj0 : 0 < j
    · have hjI : 0 < (j : Int) := by omega
      have hjw : IntKind.i64.wrap ((j : Int) - 1) = (j : Int) - 1 := IntWalk.i64_in _ (by omega)
      go_wp2_with fail
      refine (pick_any w0 br _ n _ (by omega) (by omega) ?_ HRr.out).mono ?_
      · omega
      rintro e W1 ⟨x, x0, x1, rfl, hR1, hK1⟩
      have HR1 := hide hR1
      have HK1 := hide (HKr.out.trans hK1)
      have HA1 := hide (LayApp.keepT HA.out hK1 (fun k hk => by omega))
      have hsz1 := hK1.size
      clear hR1 hK1
      go_wp2_with fail
      refine (pick_any w0 br _ 4 _ (by omega) (by omega) ?_ HR1.out).mono ?_
      · omega
      rintro e W2 ⟨a, a0, a1, rfl, hR2, hK2⟩
      have HR2 := hide hR2
      have HK2 := hide (HK1.out.trans hK2)
      have HA2 := hide (LayApp.keepT HA1.out hK2 (fun k hk => by omega))
      have hsz2 := hK2.size
      clear hR2 hK2
      go_wp2_with fail
      refine (pick_any w0 br _ 2 _ (by omega) (by omega) ?_ HR2.out).mono ?_
      · omega
      rintro e W3 ⟨b, b0, b1, rfl, hR3, hK3⟩
      have HR3 := hide hR3
      have HK3 := hide (HK2.out.trans hK3)
      have HA3 := hide (LayApp.keepT HA2.out hK3 (fun k hk => by omega))
      have hsz3 := hK3.size
      clear hR3 hK3
      go_wp2_with fail
      refine (mergeClauses_any _ _ xs [⟨x, a, b == 0⟩] _ (LayApp.S (LayApp.ext HA3.out ((Ext.refl W3).alloc _)) (by show _ * 24 ≤ _; omega)) (LayApp.hnil (LayApp.ext HA3.out ((Ext.refl W3).alloc (.cells #[] 34)))) (lt_one W3 ⟨x, a, b == 0⟩) (by omega) (by simp)).mono ?_
      rintro e W4 ⟨v4, zs, rfl, hA4, hl4, hm4, hX4⟩
      obtain ⟨A4, c4, rfl, -⟩ := LayApp.form hA4
      have hX4 := ((Ext.refl W3).alloc (.cells #[.int .i64 x, .int .i64 a, .bool (b == 0)] 34)).trans hX4
      have HA4 := hide (LayApp.mono hA4 (b1 := W.heap.size) (by simp; omega))
      have HM4 := hide hm4
      have HX4 := hide hX4
      have hl4 : zs.length ≤ xs.length + 1 := hl4
      clear hA4 hm4 hX4
      go_wp2_with fail
      go_roundw
      case rel =>
        refine ⟨j - 1, zs, by go_num, by omega, HA4.out, fun l hl => ?_, (HR3.out.grow HX4.out).mono (by omega), HK3.out.trans (HX4.out.keep _)⟩
        rcases HM4.out l hl with hl | hl
        · exact HOK.out l hl
        · simp at hl; subst hl; exact ⟨by show -10 ≤ x; omega, by show x ≤ 10; omega, by show -10 ≤ a; omega, by show a ≤ 10; omega⟩
      case measure => simp [intOf]; omega
    · obtain rfl : j = 0 := by omega
      go_wp2_with fail
      go_ret
      exact ⟨_, xs, rfl, HA.out, by omega, HOK.out, HRr.out, HKr.out⟩
section
variable {α : Type} {L : Lay α} {P : Program}
/-- append of a slice, at a step of a region that draws: which blocks it writes. -/
theorem step_appK9 (hL : LayOk L P) (w : World) {ops : Array Oper} {o : Oper} {a : Act} {K : Act → World → Prop} {Q : Exit → Act → World → Prop} {E : Prop} (hgd : o.guard = none) (s x : Operand)
    (ho : o.op = .call { callee := .builtin .append, args := #[s, x], argTypes := #[L.st, L.st] })
    (S : Nat → Prop) (v va : Value) (xs ys : List α) (hs : a.eval s = v) (hx : a.eval x = va) (hown : L.K S w v xs) (hy : L.S w va ys) (hnil : ∀ n c, va = .slice none n c → c = 0)
    (hl : xs.length + ys.length ≤ 1000000000000) (hb : (xs.length + ys.length) * L.bytes ≤ 140737488355328) (hS : ∀ k, w.heap.size ≤ k → S k)
    (h : ∀ v' w', L.K S w' v' (xs ++ ys) → Keep (fun k => ¬ S k) w w' → K (a.put o.dst v') w') : if Region.wanted o (yielded ops a.tmps) = true then Oper.wp P o a w K Q else E := by
  obtain ⟨v', w', hrun, h1, h2⟩ := run_appK hL w o.type S v va xs ys hown hy hnil hl hb hS
  have hw : Region.wanted o (yielded ops a.tmps) = true := by simp [Region.wanted, hgd]
  rw [if_pos hw]
  unfold Oper.wp
  simp [execOp, ho, resolve, invoke, builtin, hs, hx, hrun, Result.andThen]
  exact h v' w' h1 h2
theorem LayK.app {S : Nat → Prop} {base : Nat} {w : World} {v : Value} {xs : List α} (h : L.K S w v xs) (hS : ∀ k, S k → base ≤ k) : L.App base w v xs := by
  refine ⟨h.1.1, ?_⟩
  rcases h.1.2 with hn | ⟨g, cap, cur, e, hg, rest⟩
  · exact .inl hn
  · exact .inr ⟨g, cap, cur, e, hS g (h.2 g (by rw [e]; rfl)), rest⟩
/-- append of a slice, at a step of a region that draws. -/
theorem step_appG (hL : LayOk L P) (w : World) {ops : Array Oper} {o : Oper} {a : Act} {K : Act → World → Prop} {Q : Exit → Act → World → Prop} {E : Prop} (hgd : o.guard = none) (s x : Operand)
    (ho : o.op = .call { callee := .builtin .append, args := #[s, x], argTypes := #[L.st, L.st] })
    (base : Nat) (v va : Value) (xs ys : List α) (hs : a.eval s = v) (hx : a.eval x = va) (hown : L.App base w v xs) (hy : L.S w va ys) (hnil : ∀ n c, va = .slice none n c → c = 0)
    (hl : xs.length + ys.length ≤ 1000000000000) (hb : (xs.length + ys.length) * L.bytes ≤ 140737488355328) (hbase : base ≤ w.heap.size)
    (h : ∀ v' w', L.App base w' v' (xs ++ ys) → Below base w w' → K (a.put o.dst v') w') : if Region.wanted o (yielded ops a.tmps) = true then Oper.wp P o a w K Q else E := by
  obtain ⟨v', w', hrun, h1, h2⟩ := run_appG hL w o.type base v va xs ys hown hy hnil hl hb hbase
  have hw : Region.wanted o (yielded ops a.tmps) = true := by simp [Region.wanted, hgd]
  rw [if_pos hw]
  unfold Oper.wp
  simp [execOp, ho, resolve, invoke, builtin, hs, hx, hrun, Result.andThen]
  exact h v' w' h1 h2
end
set_option maxRecDepth 100000 in
set_option maxHeartbeats 4000000 in
theorem anyClause_any (w0 : World) (br N n : Nat) (W : World) (hn1 : 1 ≤ n) (hn : n ≤ 4) (hN : N ≤ 60000) (hR : RdSt w0 br N W) :
    Calls Tryz.prog 40 #[.pointer (some ⟨br, 0, none⟩), .int .i64 n] W (LGot w0 br (N + 13) 4 W) := by
  have HR := hide hR
  have hbr := hR.lt
  have hw0 := hR.ext.size
  clear hR
  go_enter Tryz.func40, Tryz.ntmps40
  go_wp2_with fail
  refine (randomClause_any w0 br N n _ hn1 hn (by omega) HR.out).mono ?_
  rintro e W1 ⟨v1, xs, rfl, hA1, hxl, hok, hR1, hK1⟩
  have HA1 := hide hA1
  have HOK := hide hok
  have HR1 := hide hR1
  have HK1 := hide hK1
  have hsz1 := hK1.size
  obtain ⟨A1, c1, rfl, hlc, -⟩ := LayApp.form hA1
  clear hA1 hok hR1 hK1
  go_wp2_with fail
  refine (pick_any w0 br (N + 10) 16 _ (by omega) (by omega) (by omega) HR1.out).mono ?_
  rintro e W2 ⟨y, y0, y1, rfl, hR2, hK2⟩
  have HR2 := hide hR2
  have HK2 := hide (HK1.out.trans hK2)
  have HA2 := hide (LayApp.keepT HA1.out hK2 (fun k hk => by omega))
  have hsz2 := hK2.size
  clear hR2 hK2
  by_cases hy0 : y = 0
  · subst hy0
    go_wp2_with fail
    refine (one_any w0 br (N + 11) (-1) n W2.heap.size 2 2 _ (by omega) (by omega) (by omega) (HR2.out.grow ((Ext.refl _).alloc _)) (by simp) (by omega) (newL12 W2 3 [-1, (n : Int)] (by intro x hx; simp at hx; omega)) (Nat.le_refl _)).mono ?_
    rintro e W3 ⟨x, x0, x1, rfl, hR3, hK3⟩
    have hK3 : Keep (fun k => k ≠ br) W2 W3 := (((Ext.refl W2).alloc _).keep _).trans hK3
    have HR3 := hide hR3
    have HK3 := hide (HK2.out.trans hK3)
    have HA3 := hide (LayApp.keepT HA2.out hK3 (fun k hk => by omega))
    have hsz3 := hK3.size
    clear hR3 hK3
    go_wp2_with fail
    refine (one_any w0 br (N + 12) 0 6 W3.heap.size 2 2 _ (by omega) (by omega) (by omega) (HR3.out.grow ((Ext.refl _).alloc _)) (by simp) (by omega) (newL12 W3 3 [0, 6] (by intro x hx; simp at hx; omega)) (Nat.le_refl _)).mono ?_
    rintro e W4 ⟨z, z0, z1, rfl, hR4, hK4⟩
    have hK4 : Keep (fun k => k ≠ br) W3 W4 := (((Ext.refl W3).alloc _).keep _).trans hK4
    have HR4 := hide hR4
    have HK4 := hide (HK3.out.trans hK4)
    have HA4 := hide (LayApp.keepT HA3.out hK4 (fun k hk => by omega))
    have hsz4 := hK4.size
    clear hR4 hK4
    go_wp2_with (at_builtin; go_must (refine wpList_appG layLtOk _ rfl _ _ rfl W.heap.size (.slice A1 xs.length c1) (.slice (some ⟨W4.heap.size, 0, none⟩) 1 1) xs [⟨x, z, false⟩] rfl rfl (LayApp.ext HA4.out ((Ext.refl W4).alloc _)) (lt_one W4 ⟨x, z, false⟩) (fun n c e => by cases e) (by simp; omega) (by show _ * 24 ≤ _; simp; omega) (by simp; omega) ?_); intro v' W5 hA5 hb5; have HA5 := hide hA5; have HB5 := hide hb5; clear hA5 hb5)
    go_ret
    refine ⟨_, _, rfl, HA5.out, by simp; omega, fun l hl => ?_, RdSt.mono ((HR4.out.grow ((Ext.refl _).alloc _)).far8 HB5.out hbr hw0) (by omega), (HK4.out.alloc _).far8 HB5.out⟩
    rcases List.mem_append.1 hl with hl | hl
    · exact HOK.out l hl
    · simp at hl; subst hl; exact ⟨by show -10 ≤ x; omega, by show x ≤ 10; omega, by show -10 ≤ z; omega, by show z ≤ 10; omega⟩
  · have hb0 : (y == 0) = false := by simp [hy0]
    by_cases hy1 : y = 1
    · subst hy1
      by_cases hl1 : 1 < xs.length
      · have hlI : 1 < (xs.length : Int) := by omega
        obtain ⟨g, cap', hv1⟩ := lt_own HA2.out (by omega)
        injection hv1 with hv1 _ hv2
        subst hv1
        subst hv2
        have hS2 := LayApp.S HA2.out (by show _ * 24 ≤ _; omega)
        obtain ⟨b, off, he, hgl, e0, e1, e2⟩ := ltS_at hS2 (j := 0) (by omega)
        injection he with he
        injection he with he1 he2 _
        subst he1
        subst he2
        simp only [Nat.zero_mul, Nat.zero_add] at e0 e1 e2
        have HSd := hide (LayS.drop layLtOk hS2 (A2 := some ⟨g, 3, none⟩) (n2 := xs.length - 1) (c2 := c1 - 1) (i := 1) (by omega) rfl (by omega) (fun _ b off e => by
          injection e with e
          injection e with e1 e2
          subst e1
          subst e2
          rfl))
        have hdl : (xs.drop 1).length = xs.length - 1 := by simp
        have hc1 : ¬ (c1 = 1) := by omega
        have hc0 : ¬ (c1 < 1) := by omega
        have hl0 : ¬ ((xs.length : Int) < 1) := by omega
        have hgb : g < W2.heap.size := hgl
        have hp0 : 0 < (xs.length : Int) := by omega
        have hp1 : 0 < xs.length := by omega
        clear hS2
        go_upto_region 7 with fail
        refine wp_region_any (by kernel_rfl) ?_
        change wpAny _ _ _ _ _ _ _ (World.drew _)
        refine wpAny_take (i := 1) (v := ?_) rfl (by kernel_rfl) (by kernel_rfl) (by kernel_rfl) (by first | exact fun _ _ _ h => h | (rintro _ _ _ ⟨h, _⟩; cases h)) (Or.inl ⟨by rfl, ?hy1⟩) ?_
        case hy1 => intro w; go_simp; with_reducible rfl
        simp only [Act.put, List.getElem_toArray, List.getElem_cons_zero, List.getElem_cons_succ, List.setIfInBounds_toArray, List.set_cons_succ, List.set_cons_zero]
        refine wpAny_take (i := 4) (v := ?_) rfl (by kernel_rfl) (by kernel_rfl) (by kernel_rfl) (by first | exact fun _ _ _ h => h | (rintro _ _ _ ⟨h, _⟩; cases h)) (Or.inl ⟨by rfl, ?hy4⟩) ?_
        case hy4 => intro w; go_simp; with_reducible rfl
        simp only [Act.put, List.getElem_toArray, List.getElem_cons_zero, List.getElem_cons_succ, List.setIfInBounds_toArray, List.set_cons_succ, List.set_cons_zero]
        refine wpAny_take (i := 2) (v := .slice (some ⟨g, 3, none⟩) (xs.length - 1) (c1 - 1)) rfl (by kernel_rfl) (by kernel_rfl) (by kernel_rfl) (by first | exact fun _ _ _ h => h | (rintro _ _ _ ⟨h, _⟩; cases h)) (Or.inl ⟨by rfl, ?hy2⟩) ?_
        case hy2 => intro w; go_simp; all_goals first | rfl | omega
        simp only [Act.put, List.setIfInBounds_toArray]
        refine wpAny_take (i := 5) (v := ?_) rfl (by kernel_rfl) (by kernel_rfl) (by kernel_rfl) (by first | exact fun _ _ _ h => h | (rintro _ _ _ ⟨h, _⟩; cases h)) (Or.inl ⟨by rfl, ?hy5⟩) ?_
        case hy5 => intro w; go_simp; with_reducible rfl
        simp only [Act.put, List.getElem_toArray, List.getElem_cons_zero, List.getElem_cons_succ, List.setIfInBounds_toArray, List.set_cons_succ, List.set_cons_zero]
        refine wpAny_ofK (C := fun w => w.cell? ⟨g, 0, none⟩ = some (.int .i64 (ltX xs 0)) ∧ w.cell? ⟨g, 1, none⟩ = some (.int .i64 (ltV xs 0)) ∧ w.cell? ⟨g, 2, none⟩ = some (.bool (ltN xs 0))) (n := 8) _ _ _ _ ?_
        refine wpAnyK_take 6 (.agg #[.int .i64 (ltX xs 0), .int .i64 (ltV xs 0), .bool (ltN xs 0)]) rfl (by kernel_rfl) (fun _ _ _ h => h) ⟨e0, e1, e2⟩ (And.intro (by rfl) ?hy6) ?_
        case hy6 => intro w' hw'; obtain ⟨hk1, hk2, hk3⟩ : w'.cell? ⟨g, 0, none⟩ = some (.int .i64 (ltX xs 0)) ∧ w'.cell? ⟨g, 1, none⟩ = some (.int .i64 (ltV xs 0)) ∧ w'.cell? ⟨g, 2, none⟩ = some (.bool (ltN xs 0)) := hw'; go_simp; all_goals exact rfl
        simp only [Act.put, List.setIfInBounds_toArray, List.set_cons_succ, List.set_cons_zero]
        have hk1 : Keep (fun k => k < W2.heap.size) W2 ((W2.alloc (.cells #[] 34)).drew) := (((Ext.refl W2).alloc _).drew).keep _
        have hs1 : ((W2.alloc (.cells #[] 34)).drew).heap.size = W2.heap.size + 1 := by show (W2.alloc _).heap.size = _; simp
        refine wpAnyK_two (i := 0) (k := 7) (by kernel_rfl) rfl rfl (by omega) (by omega) (fun K hK => ?_) (fun K hK => ?_)
        · go_simp
          refine hK _ _ ⟨(hk1.cell (p := ⟨g, 0, none⟩) hgl hgb).trans e0, (hk1.cell (p := ⟨g, 1, none⟩) hgl hgb).trans e1, (hk1.cell (p := ⟨g, 2, none⟩) hgl hgb).trans e2⟩ ?_
          clear hK K
          refine wpAnyK_two (i := 3) (k := 7) (by kernel_rfl) rfl rfl (by omega) (by omega) (fun K hK => ?_) (fun K hK => ?_)
          · refine step_appK9 layLtOk _ rfl _ _ rfl (fun k => W2.heap.size ≤ k) (.slice (some ⟨W2.heap.size, 0, none⟩) 0 0) (.slice (some ⟨g, 3, none⟩) (xs.length - 1) (c1 - 1)) [] (xs.drop 1) rfl rfl ⟨World.ownsRow.drew (LayApp.mono (LayApp.empty (L := layLt) W2 rfl) (Nat.zero_le _)), fun g' hg' => by have hg' : some W2.heap.size = some g' := hg'; injection hg' with hg'; exact Nat.le_of_eq hg'⟩ (LayS.ext HSd.out (((Ext.refl W2).alloc _).drew)) (fun n c e => by cases e) (by rw [hdl]; show 0 + _ ≤ _; omega) (by show (0 + _) * 24 ≤ _; rw [hdl]; omega) (fun k hk => by rw [hs1] at hk; show W2.heap.size ≤ k; omega) ?_
            intro v3 W3 hA3 hk3
            have hk13 : Keep (fun k => k < W2.heap.size) W2 W3 := hk1.trans (hk3.mono (fun k _ hk => by omega))
            have hsz3 := hk13.size
            refine hK _ _ ⟨(hk13.cell (p := ⟨g, 0, none⟩) hgl hgb).trans e0, (hk13.cell (p := ⟨g, 1, none⟩) hgl hgb).trans e1, (hk13.cell (p := ⟨g, 2, none⟩) hgl hgb).trans e2⟩ ?_
            clear hK K
            refine wpAnyK_one (i := 7) (by kernel_rfl) rfl (by omega) (fun K hK => ?_)
            go_simp
            have HK5 := hide (hk13.trans (((Ext.refl W3).alloc (.cells #[.int .i64 (ltX xs 0), .int .i64 (ltV xs 0), .bool (ltN xs 0)] 34)).keep _))
            refine hK _ _ ⟨(HK5.out.cell (p := ⟨g, 0, none⟩) hgl hgb).trans e0, (HK5.out.cell (p := ⟨g, 1, none⟩) hgl hgb).trans e1, (HK5.out.cell (p := ⟨g, 2, none⟩) hgl hgb).trans e2⟩ ?_
            clear hK K
            have HV3 := hide (LayApp.ext (LayK.app hA3 (base := W2.heap.size) (fun k hk => hk)) ((Ext.refl W3).alloc (.cells #[.int .i64 (ltX xs 0), .int .i64 (ltV xs 0), .bool (ltN xs 0)] 34)))
            have HLT := hide (lt_one W3 (lt0 xs 0))
            obtain ⟨bl, hbl⟩ : ∃ bl, bl = W3.heap.size := ⟨_, rfl⟩
            rw [← hbl] at HLT ⊢
            clear hA3 hk3 hk13 hk1
            refine wpAnyK_fin 8 [9] (by omega) (by kernel_rfl) ?_
            simp only [nths, nth1]
            obtain ⟨A3, c3, hv3, -, -⟩ := LayApp.form HV3.out
            rw [List.nil_append, hdl] at hv3
            subst hv3
            refine wpList_appG layLtOk _ rfl _ _ rfl W2.heap.size (.slice A3 (xs.length - 1) c3) (.slice (some ⟨bl, 0, none⟩) 1 1) ([] ++ xs.drop 1) [lt0 xs 0] rfl rfl HV3.out HLT.out (fun n c e => by cases e) (by rw [List.nil_append, hdl]; show _ + 1 ≤ _; omega) (by show (_ + 1) * 24 ≤ _; rw [List.nil_append, hdl]; omega) HK5.out.size ?_
            intro v' W6 hA6 hb6
            have HA6 := hide hA6
            have HB6 := hide (HK5.out.trans (Below.keep12 hb6))
            clear hA6 hb6
            go_wp2_with fail
            go_ret
            refine ⟨_, _, rfl, LayApp.mono HA6.out (by omega), by rw [List.length_append, List.nil_append, hdl]; show _ + 1 ≤ _; omega, fun l hl => ?_, (HR2.out.mono (by omega)).keep HB6.out (by omega) (fun k hk => by omega), HK2.out.trans9 HB6.out (fun k hk _ => by omega)⟩
            rcases List.mem_append.1 hl with hl | hl
            · rw [List.nil_append] at hl; exact HOK.out l (List.mem_of_mem_drop hl)
            · simp at hl; subst hl; exact HOK.out _ (lt0_mem (by omega))
          · go_simp
            have hxb : Ext W2 (((W2.alloc (.cells #[] 34)).alloc (.cells #[.int .i64 (ltX xs 0), .int .i64 (ltV xs 0), .bool (ltN xs 0)] 34)).drew) := (((Ext.refl W2).alloc _).alloc _).drew
            have hkb : Keep (fun k => k < W2.heap.size) W2 (((W2.alloc (.cells #[] 34)).alloc (.cells #[.int .i64 (ltX xs 0), .int .i64 (ltV xs 0), .bool (ltN xs 0)] 34)).drew) := hxb.keep _
            have hsb : (((W2.alloc (.cells #[] 34)).alloc (.cells #[.int .i64 (ltX xs 0), .int .i64 (ltV xs 0), .bool (ltN xs 0)] 34)).drew).heap.size = W2.heap.size + 2 := by show ((W2.alloc _).alloc _).heap.size = _; simp
            have hs0 : (W2.alloc (.cells #[] 34)).heap.size = W2.heap.size + 1 := by simp
            refine hK _ _ ⟨(hkb.cell (p := ⟨g, 0, none⟩) hgl hgb).trans e0, (hkb.cell (p := ⟨g, 1, none⟩) hgl hgb).trans e1, (hkb.cell (p := ⟨g, 2, none⟩) hgl hgb).trans e2⟩ ?_
            clear hK K
            refine wpAnyK_one (i := 3) (by kernel_rfl) rfl (by omega) (fun K hK => ?_)
            refine step_appK9 layLtOk (((W2.alloc (.cells #[] 34)).alloc (.cells #[.int .i64 (ltX xs 0), .int .i64 (ltV xs 0), .bool (ltN xs 0)] 34)).drew) rfl _ _ rfl (fun k => k = W2.heap.size ∨ W2.heap.size + 2 ≤ k) (.slice (some ⟨W2.heap.size, 0, none⟩) 0 0) (.slice (some ⟨g, 3, none⟩) (xs.length - 1) (c1 - 1)) [] (xs.drop 1) rfl rfl ⟨LayApp.mono (LayApp.ext (LayApp.empty (L := layLt) W2 rfl) (((Ext.refl _).alloc _).drew)) (Nat.zero_le _), fun g' hg' => by have hg' : some W2.heap.size = some g' := hg'; injection hg' with hg'; exact Or.inl hg'.symm⟩ (LayS.ext HSd.out hxb) (fun n c e => by cases e) (by rw [hdl]; show 0 + _ ≤ _; omega) (by show (0 + _) * 24 ≤ _; rw [hdl]; omega) (fun k hk => by rw [hsb] at hk; exact Or.inr hk) ?_
            intro v3 W5 hA3 hk3
            have HK5 := hide (hkb.trans (hk3.mono (fun k _ hk => by omega)))
            refine hK _ _ ⟨(HK5.out.cell (p := ⟨g, 0, none⟩) hgl hgb).trans e0, (HK5.out.cell (p := ⟨g, 1, none⟩) hgl hgb).trans e1, (HK5.out.cell (p := ⟨g, 2, none⟩) hgl hgb).trans e2⟩ ?_
            clear hK K
            have HV3 := hide (LayK.app hA3 (base := W2.heap.size) (fun k hk => by omega))
            have hlt1 := LayS.keep (LayS.ext (lt_one (W2.alloc (.cells #[] 34)) (lt0 xs 0)) ((Ext.refl _).drew)) hk3 (by rw [hs0]; omega)
            have HLT := hide hlt1
            rw [hs0] at HLT
            obtain ⟨bl, hbl⟩ : ∃ bl, bl = W2.heap.size + 1 := ⟨_, rfl⟩
            try rw [hs0]
            rw [← hbl] at HLT ⊢
            clear hA3 hk3 hkb hk1 hlt1 hxb
            refine wpAnyK_fin 8 [9] (by omega) (by kernel_rfl) ?_
            simp only [nths, nth1]
            obtain ⟨A3, c3, hv3, -, -⟩ := LayApp.form HV3.out
            rw [List.nil_append, hdl] at hv3
            subst hv3
            refine wpList_appG layLtOk _ rfl _ _ rfl W2.heap.size (.slice A3 (xs.length - 1) c3) (.slice (some ⟨bl, 0, none⟩) 1 1) ([] ++ xs.drop 1) [lt0 xs 0] rfl rfl HV3.out HLT.out (fun n c e => by cases e) (by rw [List.nil_append, hdl]; show _ + 1 ≤ _; omega) (by show (_ + 1) * 24 ≤ _; rw [List.nil_append, hdl]; omega) HK5.out.size ?_
            intro v' W6 hA6 hb6
            have HA6 := hide hA6
            have HB6 := hide (HK5.out.trans (Below.keep12 hb6))
            clear hA6 hb6
            go_wp2_with fail
            go_ret
            refine ⟨_, _, rfl, LayApp.mono HA6.out (by omega), by rw [List.length_append, List.nil_append, hdl]; show _ + 1 ≤ _; omega, fun l hl => ?_, (HR2.out.mono (by omega)).keep HB6.out (by omega) (fun k hk => by omega), HK2.out.trans9 HB6.out (fun k hk _ => by omega)⟩
            rcases List.mem_append.1 hl with hl | hl
            · rw [List.nil_append] at hl; exact HOK.out l (List.mem_of_mem_drop hl)
            · simp at hl; subst hl; exact HOK.out _ (lt0_mem (by omega))
        · go_simp
          have hka : Keep (fun k => k < W2.heap.size) W2 ((W2.alloc (.cells #[.int .i64 (ltX xs 0), .int .i64 (ltV xs 0), .bool (ltN xs 0)] 34)).drew) := (((Ext.refl W2).alloc _).drew).keep _
          refine hK _ _ ⟨(hka.cell (p := ⟨g, 0, none⟩) hgl hgb).trans e0, (hka.cell (p := ⟨g, 1, none⟩) hgl hgb).trans e1, (hka.cell (p := ⟨g, 2, none⟩) hgl hgb).trans e2⟩ ?_
          clear hK K
          refine wpAnyK_one (i := 0) (by kernel_rfl) rfl (by omega) (fun K hK => ?_)
          go_simp
          have hxb : Ext W2 (((W2.alloc (.cells #[.int .i64 (ltX xs 0), .int .i64 (ltV xs 0), .bool (ltN xs 0)] 34)).alloc (.cells #[] 34)).drew) := (((Ext.refl W2).alloc _).alloc _).drew
          have hkb : Keep (fun k => k < W2.heap.size) W2 (((W2.alloc (.cells #[.int .i64 (ltX xs 0), .int .i64 (ltV xs 0), .bool (ltN xs 0)] 34)).alloc (.cells #[] 34)).drew) := hxb.keep _
          have hsb : (((W2.alloc (.cells #[.int .i64 (ltX xs 0), .int .i64 (ltV xs 0), .bool (ltN xs 0)] 34)).alloc (.cells #[] 34)).drew).heap.size = W2.heap.size + 2 := by show ((W2.alloc _).alloc _).heap.size = _; simp
          have hs0 : (W2.alloc (.cells #[.int .i64 (ltX xs 0), .int .i64 (ltV xs 0), .bool (ltN xs 0)] 34)).heap.size = W2.heap.size + 1 := by simp
          refine hK _ _ ⟨(hkb.cell (p := ⟨g, 0, none⟩) hgl hgb).trans e0, (hkb.cell (p := ⟨g, 1, none⟩) hgl hgb).trans e1, (hkb.cell (p := ⟨g, 2, none⟩) hgl hgb).trans e2⟩ ?_
          clear hK K
          refine wpAnyK_one (i := 3) (by kernel_rfl) rfl (by omega) (fun K hK => ?_)
          refine step_appK9 layLtOk (((W2.alloc (.cells #[.int .i64 (ltX xs 0), .int .i64 (ltV xs 0), .bool (ltN xs 0)] 34)).alloc (.cells #[] 34)).drew) rfl _ _ rfl (fun k => W2.heap.size + 1 ≤ k) (.slice (some ⟨W2.heap.size + 1, 0, none⟩) 0 0) (.slice (some ⟨g, 3, none⟩) (xs.length - 1) (c1 - 1)) [] (xs.drop 1) rfl rfl ⟨LayApp.mono (World.ownsRow.drew (by have h := LayApp.empty (L := layLt) (W2.alloc (.cells #[.int .i64 (ltX xs 0), .int .i64 (ltV xs 0), .bool (ltN xs 0)] 34)) rfl; rw [hs0] at h; exact h)) (Nat.zero_le _), fun g' hg' => by have hg' : some (W2.heap.size + 1) = some g' := hg'; injection hg' with hg'; exact Nat.le_of_eq hg'⟩ (LayS.ext HSd.out hxb) (fun n c e => by cases e) (by rw [hdl]; show 0 + _ ≤ _; omega) (by show (0 + _) * 24 ≤ _; rw [hdl]; omega) (fun k hk => by rw [hsb] at hk; show W2.heap.size + 1 ≤ k; omega) ?_
          intro v3 W5 hA3 hk3
          have HK5 := hide (hkb.trans (hk3.mono (fun k _ hk => by omega)))
          refine hK _ _ ⟨(HK5.out.cell (p := ⟨g, 0, none⟩) hgl hgb).trans e0, (HK5.out.cell (p := ⟨g, 1, none⟩) hgl hgb).trans e1, (HK5.out.cell (p := ⟨g, 2, none⟩) hgl hgb).trans e2⟩ ?_
          clear hK K
          have HV3 := hide (LayK.app hA3 (base := W2.heap.size) (fun k hk => by have hk : W2.heap.size + 1 ≤ k := hk; omega))
          have HLT := hide (LayS.keep (LayS.ext (lt_one W2 (lt0 xs 0)) (((Ext.refl _).alloc _).drew)) hk3 (by omega))
          obtain ⟨bl, hbl⟩ : ∃ bl, bl = W2.heap.size := ⟨_, rfl⟩
          clear hA3 hk3 hkb hk1 hxb hka
          clear hbl bl
          refine wpAnyK_fin 8 [9] (by omega) (by kernel_rfl) ?_
          simp only [nths, nth1]
          obtain ⟨A3, c3, hv3, -, -⟩ := LayApp.form HV3.out
          rw [List.nil_append, hdl] at hv3
          subst hv3
          refine wpList_appG layLtOk _ rfl _ _ rfl W2.heap.size (.slice A3 (xs.length - 1) c3) (.slice (some ⟨W2.heap.size, 0, none⟩) 1 1) ([] ++ xs.drop 1) [lt0 xs 0] rfl rfl HV3.out HLT.out (fun n c e => by cases e) (by rw [List.nil_append, hdl]; show _ + 1 ≤ _; omega) (by show (_ + 1) * 24 ≤ _; rw [List.nil_append, hdl]; omega) HK5.out.size ?_
          intro v' W6 hA6 hb6
          have HA6 := hide hA6
          have HB6 := hide (HK5.out.trans (Below.keep12 hb6))
          clear hA6 hb6
          go_wp2_with fail
          go_ret
          refine ⟨_, _, rfl, LayApp.mono HA6.out (by omega), by rw [List.length_append, List.nil_append, hdl]; show _ + 1 ≤ _; omega, fun l hl => ?_, (HR2.out.mono (by omega)).keep HB6.out (by omega) (fun k hk => by omega), HK2.out.trans9 HB6.out (fun k hk _ => by omega)⟩
          rcases List.mem_append.1 hl with hl | hl
          · rw [List.nil_append] at hl; exact HOK.out l (List.mem_of_mem_drop hl)
          · simp at hl; subst hl; exact HOK.out _ (lt0_mem (by omega))
      · have hlI : ¬ (1 < (xs.length : Int)) := by omega
        go_wp2_with fail
        go_ret
        exact ⟨_, xs, rfl, HA2.out, by omega, HOK.out, HR2.out.mono (by omega), HK2.out⟩
    · have hb1 : (y == 1) = false := by simp [hy1]
      go_wp2_with fail
      go_ret
      exact ⟨_, xs, rfl, HA2.out, by omega, HOK.out, HR2.out.mono (by omega), HK2.out⟩
set_option maxRecDepth 100000 in
set_option maxHeartbeats 4000000 in
theorem anyConjunction_any (w0 : World) (br N n : Nat) (W : World) (hn1 : 1 ≤ n) (hn : n ≤ 4) (hN : N ≤ 50000) (hR : RdSt w0 br N W) :
    Calls Tryz.prog 14 #[.pointer (some ⟨br, 0, none⟩), .int .i64 n] W (LGot w0 br (N + 20) 4 W) := by
  have HR := hide hR
  clear hR
  go_enter Tryz.func14, Tryz.ntmps14
  go_wp2_with fail
  refine (pick_any w0 br N 3 _ (by omega) (by omega) (by omega) HR.out).mono ?_
  rintro e W1 ⟨y, y0, y1, rfl, hR1, hK1⟩
  have HR1 := hide hR1
  have HK1 := hide hK1
  have hsz1 := hK1.size
  clear hR1 hK1
  by_cases hy0 : y = 0
  · subst hy0
    go_wp2_with fail
    refine (anyClause_any w0 br (N + 1) n _ hn1 hn (by omega) HR1.out).mono ?_
    rintro e W2 ⟨v, xs, rfl, hA, hl, hok, hR2, hK2⟩
    have HG := hide (show LGot w0 br (N + 20) 4 W (.returned v) W2 from ⟨v, xs, rfl, LayApp.mono hA hsz1, hl, hok, hR2.mono (by omega), HK1.out.trans hK2⟩)
    obtain ⟨A2, c2, rfl, -⟩ := LayApp.form hA
    clear hA hok hR2 hK2
    go_wp2_with fail
    go_ret
    exact HG.out
  · have hb0 : (y == 0) = false := by simp [hy0]
    go_wp2_with fail
    refine (decisions_any w0 br (N + 1) n _ hn (by omega) HR1.out).mono ?_
    rintro e W2 ⟨v, xs, rfl, hA, hl, hok, hR2, hK2⟩
    have HG := hide (show LGot w0 br (N + 20) 4 W (.returned v) W2 from ⟨v, xs, rfl, LayApp.mono hA hsz1, by omega, hok, hR2.mono (by omega), HK1.out.trans hK2⟩)
    obtain ⟨A2, c2, rfl, -⟩ := LayApp.form hA
    clear hA hok hR2 hK2
    go_wp2_with fail
    go_ret
    exact HG.out
end Go.Proofs.YtbfcbfkfbpaoiaaGreat
/- Draws of the generator: a model and literals. -/
namespace Go.Proofs.YtbfcbfkfbpaoiaaGreat
open Go.RowKit

theorem SLt.of_lay {w : World} {v : Value} {ls : List Lt} (h : layLt.S w v ls) : SLt w v ls := by
  obtain ⟨A, c, h1, h2, h3, h5⟩ := h
  refine ⟨A, c, h1, h2, h3, fun hp => ?_⟩
  obtain ⟨b, off, e, hb, hc⟩ := h5 hp
  refine ⟨b, off, e, hb, fun j hj => ?_⟩
  have hl : lt0 ls j = ls[j] := by simp [lt0, hj]
  have hf : ∀ t, t < 3 → (layLt.flat ls)[j * 3 + t]? = (layLt.enc ls[j])[t]? := fun t ht => LayOk.flat_at layLtOk ls j t hj ht
  refine ⟨?_, ?_, ?_⟩
  · exact hc (j * 3 + 0) _ ((hf 0 (by omega)).trans (by rw [← hl]; rfl))
  · have := hc (j * 3 + 1) _ ((hf 1 (by omega)).trans (by rw [← hl]; rfl)); rw [← Nat.add_assoc] at this; exact this
  · have := hc (j * 3 + 2) _ ((hf 2 (by omega)).trans (by rw [← hl]; rfl)); rw [← Nat.add_assoc] at this; exact this
theorem MF.model {A B : Nat} {lo hi : Int} {w : World} {dv cv : Value} {n : Nat} {cs : List Con} (h : MF A B lo hi w dv cv n cs) (hlo : -100000 ≤ lo) (hhi : hi ≤ 100000) (hc : cs.length ≤ 1000) : ∃ ds, ds.length = n ∧ SInts w dv ds ∧ SCons w cv cs := by
  obtain ⟨xs, h1, h2, -⟩ := LN.iv (.inr h.ds) (by have := h.n4; omega) hlo hhi
  exact ⟨xs, h1, h2.ints, h.ca.cons (by omega)⟩
/-- A model and literals came. -/
def DrefGot (w : World) (e : Ending) (W' : World) : Prop :=
  ∃ vd vc vl ds cs ls, e = .returned (.tuple #[.agg #[vd, vc], vl]) ∧ SInts W' vd ds ∧ SCons W' vc cs ∧ SLt W' vl ls ∧ 1 ≤ ds.length ∧ ds.length ≤ 4 ∧ Ext w W'
set_option maxRecDepth 100000 in
set_option maxHeartbeats 4000000 in
theorem DrawRefutes_any (v : Value) (nb : Nat) (w : World) (hB : SBytes w v nb) : Calls Tryz.prog 4 #[v] w (DrefGot w) := by
  have HB := hide hB
  obtain ⟨A, c, rfl, -⟩ := hB
  go_enter Tryz.func4, Tryz.ntmps4
  go_wp2_with fail
  refine (newReader_any w _ _ nb HB.out ((Ext.refl w).alloc _)).mono ?_
  rintro e W1 ⟨br, rfl, hR1, hx1, hbr⟩
  have hbr : w.heap.size + 1 ≤ br := by simpa using hbr
  have hrb1 : RB w.heap.size 2 W1 := by
    refine RB.keep (S := fun _ => True) ⟨by simp, fun i => World.frozen?_alloc_new _ _ _ _, fun i hi => ?_⟩ (hx1.keep _) trivial
    obtain rfl | rfl : i = 0 ∨ i = 1 := by omega
    all_goals exact ⟨_, World.cell?_alloc_at _ _ _ _ rfl⟩
  have hbrl := hR1.lt
  have HX1 := hide (((Ext.refl w).alloc _).trans hx1)
  have HR1 := hide hR1
  have HRB1 := hide hrb1
  clear hR1 hx1 hrb1
  go_wp2_with fail
  refine (anyModel_any w br 0 _ (by omega) HR1.out).mono ?_
  rintro e W2 ⟨dv, cv, n, cs, B, rfl, hmf, hcs, hR2, hK2⟩
  obtain ⟨g, cap, rfl, -, -, -⟩ := hmf.ds.form
  obtain ⟨Ac, ec, rfl, -⟩ := hmf.ca.form
  have hn1 := hmf.n1
  have hn4 := hmf.n4
  have hs2 := hK2.size
  have HMF2 := hide hmf
  have HR2 := hide hR2
  have HK2 := hide hK2
  have HRB2 := hide (HRB1.out.keep hK2 (by omega))
  clear hmf hR2 hK2
  go_upto_region 3 with fail
  obtain ⟨W3, hW3⟩ : ∃ W3, W3 = W2.alloc (.cells #[.slice (some ⟨g, 0, none⟩) n cap, .slice Ac cs.length ec] 26) := ⟨_, rfl⟩
  have hx3 : Ext W2 W3 := by rw [hW3]; exact (Ext.refl W2).alloc _
  have m0 : W3.cell? ⟨W2.heap.size, 0, none⟩ = some (.slice (some ⟨g, 0, none⟩) n cap) := by rw [hW3]; go_simp
  have m1 : W3.cell? ⟨W2.heap.size, 1, none⟩ = some (.slice Ac cs.length ec) := by rw [hW3]; go_simp
  have hs3 : W2.heap.size < W3.heap.size := by rw [hW3]; simp
  rw [← hW3]
  clear hW3
  have HX3 := hide hx3
  clear hx3
  refine wp_region_any (by kernel_rfl) ?_
  change wpAny _ _ _ _ _ _ _ (World.drew _)
  refine wpAny_take (i := 1) (v := ?_) rfl (by kernel_rfl) (by kernel_rfl) (by kernel_rfl) (by first | exact fun _ _ _ h => h | (rintro _ _ _ ⟨h, _⟩; cases h)) (Or.inl ⟨by rfl, ?hy1⟩) ?_
  case hy1 => intro w; go_simp; with_reducible rfl
  simp only [Act.put, List.getElem_toArray, List.getElem_cons_zero, List.getElem_cons_succ, List.setIfInBounds_toArray, List.set_cons_succ, List.set_cons_zero]
  refine wpAny_take (i := 2) (v := ?_) rfl (by kernel_rfl) (by kernel_rfl) (by kernel_rfl) (by first | exact fun _ _ _ h => h | (rintro _ _ _ ⟨h, _⟩; cases h)) (Or.inl ⟨by rfl, ?hy2⟩) ?_
  case hy2 => intro w; go_simp; with_reducible rfl
  simp only [Act.put, List.getElem_toArray, List.getElem_cons_zero, List.getElem_cons_succ, List.setIfInBounds_toArray, List.set_cons_succ, List.set_cons_zero]
  refine wpAny_flt 0 6 [3, 4, 5] [7] (.agg #[.slice (some ⟨g, 0, none⟩) n cap, .slice Ac cs.length ec]) (fun w => w.cell? ⟨W2.heap.size, 0, none⟩ = some (.slice (some ⟨g, 0, none⟩) n cap) ∧ w.cell? ⟨W2.heap.size, 1, none⟩ = some (.slice Ac cs.length ec)) rfl (by kernel_rfl) rfl (fun _ _ _ h => h) ⟨m0, m1⟩ (And.intro (by rfl) ?hys) ?_
  case hys => intro w' hw'; obtain ⟨hk1, hk2⟩ : w'.cell? ⟨W2.heap.size, 0, none⟩ = some (.slice (some ⟨g, 0, none⟩) n cap) ∧ w'.cell? ⟨W2.heap.size, 1, none⟩ = some (.slice Ac cs.length ec) := hw'; go_simp; all_goals exact rfl
  simp only [nths, nth1, Act.put, List.setIfInBounds_toArray, List.set_cons_succ, List.set_cons_zero]
  refine wpSeqC_cons fun K hK => ?_
  go_simp
  refine hK _ _ ⟨m0, m1⟩ ?_
  clear hK K
  refine wpSeqC_cons fun K hK => ?_
  go_simp
  refine hK _ _ ⟨m0, m1⟩ ?_
  clear hK K
  refine wpSeqC_cons fun K hK => ?_
  go_simp
  refine (anyConjunction_any w br 504 n _ hn1 hn4 (by omega) ((HR2.out.mono (by omega)).grow (HX3.out.drew))).mono ?_
  rintro e W5 ⟨vl, ls, rfl, hA5, hl5, -, hR5, hK5⟩
  have hK5 : Keep (fun k => k ≠ br) W3 W5 := (((Ext.refl W3).drew).keep _).trans hK5
  have hmb : W2.heap.size ≠ br := by omega
  have n0 := (hK5.cell (p := ⟨W2.heap.size, 0, none⟩) hs3 hmb).trans m0
  have n1 := (hK5.cell (p := ⟨W2.heap.size, 1, none⟩) hs3 hmb).trans m1
  refine hK _ _ ⟨n0, n1⟩ ?_
  clear hK K
  have hbrw : br < W1.heap.size := hbrl
  have HMF5 := hide ((HMF2.out.ext HX3.out).keep hK5 (fun k hk => by omega))
  have hrb5 := (HRB2.out.keep (HX3.out.keep (fun _ => True)) trivial).keep hK5 (by omega)
  obtain ⟨hrl, u0, u1, r0, r1, z0, z1⟩ := hrb5.two
  have hW3s : (W3.drew).heap.size = W3.heap.size := rfl
  rw [hW3s] at hA5
  obtain ⟨Al, el, rfl, -, -⟩ := LayApp.form hA5
  have HA5 := hide hA5
  have HK5 := hide hK5
  have hs5 := hK5.size
  clear hA5 hK5 hR5 hrb5 m0 m1 n0 n1
  refine wpSeqC_nil ?_
  go_wp2_with fail
  refine bodyPost_ret (v := .tuple #[.agg #[.slice (some ⟨g, 0, none⟩) n cap, .slice Ac cs.length ec], .slice Al ls.length el]) (by simp only [results, Tryz.results4]; go_simp) rfl ?_
  have hk1 : Keep (fun k => k ≠ w.heap.size) W5 ((W5.setCell ⟨w.heap.size, 0, none⟩ (.slice (some ⟨g, 0, none⟩) n cap)).setCell ⟨w.heap.size, 1, none⟩ (.slice Ac cs.length ec)) :=
    ((Keep.refl (fun k => k ≠ w.heap.size) W5).set (p := ⟨w.heap.size, 0, none⟩) (fun _ hh => hh rfl) _).set (p := ⟨w.heap.size, 1, none⟩) (fun _ hh => hh rfl) _
  have hws := HX1.out.size
  obtain ⟨ds, q1, q2, q3⟩ := (HMF5.out.keep hk1 (fun k hk => by have := HR1.out.lt; omega)).model (by omega) (by omega) (by omega)
  refine ⟨_, _, _, ds, cs, ls, rfl, q2, q3, SLt.of_lay (LayApp.S (LayApp.keepT HA5.out hk1 (fun k hk => by omega)) (by show _ * 24 ≤ _; omega)), by omega, by omega, ?_⟩
  have ht : Keep (fun k => k < w.heap.size) w W5 := ((HX1.out.keep (fun k => k < w.heap.size)).then HK2.out (fun k hk hs => by omega)).then ((HX3.out.keep (fun k => k ≠ br)).trans HK5.out) (fun k hk hs => by omega)
  have ht2 := ht.then hk1 (fun k hk hs => by omega)
  exact ⟨ht2.os, ht2.tape, ht2.output, ht2.size, fun k hk => ht2.block k hk hk⟩
end Go.Proofs.YtbfcbfkfbpaoiaaGreat
