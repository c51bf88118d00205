/- What the laws call: equalClauses, hasLiteral. -/
import Derived.Test.YtfejhenbpnijhaaGreatLits
import Derived.Test.YtfejhenbpnijhaaGreatQ1
import Derived.Test.YtfejhenbpnijhaaGreatMnPl
import Derived.Test.YtfejhenbpnijhaaGreatNgW
import Derived.Deep.CutBlock
import Derived.Deep.DeepCutAuto
import Derived.Test.YtfejhenbpnijhaaGreatOpnA
import Derived.ShutString
import Derived.ChangeOld
namespace Go.Proofs.YtfejhenbpnijhaaGreat
open Go.RowKit

set_option maxHeartbeats 2000000 in
theorem equalClauses_same (v v' : Value) (xs : List Lt) (w : World) (hS : SLt w v xs) (hS' : SLt w v' xs) : Calls Tryz.prog 7 #[v, v'] w (Ret (.bool true) w) := by
  have hS0 := hide hS
  have hS0' := hide hS'
  obtain ⟨A, c, rfl, -, hln⟩ := hS.form
  obtain ⟨A', c', rfl, -, hln'⟩ := hS'.form
  clear hS hS'
  go_enter Tryz.func7, Tryz.ntmps7
  go_wp2
  go_loopw [5] (fun i wr => ∃ k : Nat, k ≤ xs.length ∧ i = .int .i64 k ∧ Ext w wr) (fun i _ => xs.length - (intOf i).toNat)
  case atStart => exact ⟨0, Nat.zero_le _, rfl, Ext.refl w⟩
  case round =>
    obtain ⟨k, hk, rfl, hxr⟩ := hrel
    by_cases hlt : k < xs.length
    · have hkI : (k : Int) < xs.length := by omega
      obtain ⟨b, off, rfl, hbl, f1, f2, f3⟩ := (hS0.out.ext hxr).at_ hlt
      obtain ⟨b', off', rfl, hbl', f1', f2', f3'⟩ := (hS0'.out.ext hxr).at_ hlt
      generalize ltX xs k = x at f1 f1'
      generalize ltV xs k = y at f2 f2'
      generalize ltN xs k = z at f3 f3'
      go_wp2
      refine wp_region_ext (by kernel_rfl) (by kernel_rfl) ?_
      iterate 9 (apply quiet_val; (focus rfl); (focus (intro w' hw'; have hk' := hw'.cells; go_simp; all_goals exact rfl)); simp only [Act.put, List.setIfInBounds_toArray, List.set_cons_succ, List.set_cons_zero])
      refine wpQuiet_nil ?_
      intro w2 hx2
      have HX2 := hide (hxr.trans hx2)
      clear hx2 f1 f2 f3 f1' f2' f3'
      go_wp2
      go_roundw
      case rel => exact ⟨k + 1, by omega, by go_num, HX2.out⟩
      case measure => simp [intOf]; omega
    · obtain rfl : k = xs.length := by omega
      go_wp2
      go_ret
      exact Ret.mk rfl hxr
set_option maxHeartbeats 4000000 in
theorem hasLiteral_any (v : Value) (xs : List Lt) (l : Lt) (j : Nat) (w : World) (hS : SLt w v xs) (hj : j < xs.length) (he : lt0 xs j = l) :
    Calls Tryz.prog 8 #[v, .agg #[.int .i64 l.x, .int .i64 l.v, .bool l.n]] w (Ret (.bool true) w) := by
  have hS0 := hide hS
  have HE := hide he
  obtain ⟨A, c, rfl, -, hln⟩ := hS.form
  obtain ⟨w0, hw0⟩ : ∃ w0, w0 = w.alloc (.cells #[.int .i64 l.x, .int .i64 l.v, .bool l.n] 35) := ⟨_, rfl⟩
  have hx0 : Ext w w0 := by rw [hw0]; exact (Ext.refl w).alloc _
  have k0 : w0.cell? ⟨w.heap.size, 0, none⟩ = some (.int .i64 l.x) := by rw [hw0]; exact World.cell?_alloc_at _ _ _ _ rfl
  have k1 : w0.cell? ⟨w.heap.size, 1, none⟩ = some (.int .i64 l.v) := by rw [hw0]; exact World.cell?_alloc_at _ _ _ _ rfl
  have k2 : w0.cell? ⟨w.heap.size, 2, none⟩ = some (.bool l.n) := by rw [hw0]; exact World.cell?_alloc_at _ _ _ _ rfl
  have ks : w.heap.size < w0.heap.size := by rw [hw0]; simp
  have HX0 := hide hx0
  clear hS he hx0
  go_enter Tryz.func8, Tryz.ntmps8
  go_wp2
  rw [← hw0]
  clear hw0
  go_loopw [5] (fun i wr => ∃ k : Nat, k ≤ j ∧ i = .int .i64 k ∧ Ext w0 wr) (fun i _ => xs.length - (intOf i).toNat)
  case atStart => exact ⟨0, Nat.zero_le _, rfl, Ext.refl w0⟩
  case round =>
    obtain ⟨k, hk, rfl, hxr⟩ := hrel
    have hlt : k < xs.length := by omega
    have hkI : (k : Int) < xs.length := by omega
    obtain ⟨b, off, rfl, hbl, f1, f2, f3⟩ := (hS0.out.ext (HX0.out.trans hxr)).at_ hlt
    have g0 := (hxr.cells _ _ ks).trans k0
    have g1 := (hxr.cells _ _ ks).trans k1
    have g2 := (hxr.cells _ _ ks).trans k2
    have gs := Nat.lt_of_lt_of_le ks hxr.size
    have HXR := hide hxr
    have hcs : ltX xs k ≠ l.x ∨ (ltX xs k = l.x ∧ ltV xs k ≠ l.v) ∨ (ltX xs k = l.x ∧ ltV xs k = l.v ∧ ltN xs k ≠ l.n) ∨ (ltX xs k = l.x ∧ ltV xs k = l.v ∧ ltN xs k = l.n) := by
      by_cases e1 : ltX xs k = l.x
      · by_cases e2 : ltV xs k = l.v
        · by_cases e3 : ltN xs k = l.n
          · exact .inr (.inr (.inr ⟨e1, e2, e3⟩))
          · exact .inr (.inr (.inl ⟨e1, e2, e3⟩))
        · exact .inr (.inl ⟨e1, e2⟩)
      · exact .inl e1
    have hkj : (ltX xs k ≠ l.x ∨ ltV xs k ≠ l.v ∨ ltN xs k ≠ l.n) → k < j := fun h => by
      rcases Nat.lt_or_ge k j with h1 | h1
      · exact h1
      · exfalso
        have hkj : k = j := by omega
        rw [← hkj] at HE
        have e1 : ltX xs k = l.x := congrArg Lt.x HE.out
        have e2 : ltV xs k = l.v := congrArg Lt.v HE.out
        have e3 : ltN xs k = l.n := congrArg Lt.n HE.out
        rcases h with h | h | h
        · exact h e1
        · exact h e2
        · exact h e3
    generalize ltX xs k = x at *
    generalize ltV xs k = y at *
    generalize ltN xs k = z at *
    clear hxr k0 k1 k2
    rcases hcs with e1 | ⟨e1, e2⟩ | ⟨e1, e2, e3⟩ | ⟨e1, e2, e3⟩
    · have hlt2 := hkj (.inl e1)
      clear hkj
      go_wp2
      refine wp_region_ext (by kernel_rfl) (by kernel_rfl) ?_
      iterate 6 (apply quiet_val; (focus rfl); (focus (intro w' hw'; have hk' := hw'.cells; go_simp; all_goals exact rfl)); simp only [Act.put, List.setIfInBounds_toArray, List.set_cons_succ, List.set_cons_zero])
      refine wpQuiet_nil ?_
      intro w2 hx2
      have HX2 := hide (HXR.out.trans hx2)
      clear hx2 f1 f2 f3 g0 g1 g2
      go_wp2
      go_roundw
      case rel => exact ⟨k + 1, by omega, by go_num, HX2.out⟩
      case measure => simp [intOf]; omega
    · have hlt2 := hkj (.inr (.inl e2))
      clear hkj
      go_wp2
      refine wp_region_ext (by kernel_rfl) (by kernel_rfl) ?_
      iterate 6 (apply quiet_val; (focus rfl); (focus (intro w' hw'; have hk' := hw'.cells; go_simp; all_goals exact rfl)); simp only [Act.put, List.setIfInBounds_toArray, List.set_cons_succ, List.set_cons_zero])
      refine wpQuiet_nil ?_
      intro w2 hx2
      have HX2 := hide (HXR.out.trans hx2)
      clear hx2 f1 f2 f3 g0 g1 g2
      go_wp2
      go_roundw
      case rel => exact ⟨k + 1, by omega, by go_num, HX2.out⟩
      case measure => simp [intOf]; omega
    · have hlt2 := hkj (.inr (.inr e3))
      clear hkj
      go_wp2
      refine wp_region_ext (by kernel_rfl) (by kernel_rfl) ?_
      iterate 6 (apply quiet_val; (focus rfl); (focus (intro w' hw'; have hk' := hw'.cells; go_simp; all_goals exact rfl)); simp only [Act.put, List.setIfInBounds_toArray, List.set_cons_succ, List.set_cons_zero])
      refine wpQuiet_nil ?_
      intro w2 hx2
      have HX2 := hide (HXR.out.trans hx2)
      clear hx2 f1 f2 f3 g0 g1 g2
      go_wp2
      go_roundw
      case rel => exact ⟨k + 1, by omega, by go_num, HX2.out⟩
      case measure => simp [intOf]; omega
    · clear hkj
      go_wp2
      refine wp_region_ext (by kernel_rfl) (by kernel_rfl) ?_
      iterate 6 (apply quiet_val; (focus rfl); (focus (intro w' hw'; have hk' := hw'.cells; go_simp; all_goals exact rfl)); simp only [Act.put, List.setIfInBounds_toArray, List.set_cons_succ, List.set_cons_zero])
      refine wpQuiet_nil ?_
      intro w2 hx2
      have HX2 := hide (HX0.out.trans (HXR.out.trans hx2))
      clear hx2 f1 f2 f3 g0 g1 g2
      go_wp2
      go_ret
      exact Ret.mk rfl HX2.out
end Go.Proofs.YtfejhenbpnijhaaGreat
/- The law's walk: FnMinimalNogood returns true. Printed by genlawmnf.py. -/
namespace Go.Proofs.YtfejhenbpnijhaaGreat
open Go.RowKit

theorem wpAny_sqM {P : Program} {Q : Exit → Act → World → Prop} {a : Act} {w : World} {f : Nat} {l : List Oper} {S0 : Array Bool} (ts : List Nat)
    (hB : ((ts.all fun k => decide (k < l.length)) && seqIx .any l.toArray ts S0) = true) (hf : f = ts.length) (h : wpList P l.toArray Q (nths l ts) a w) : wpAny P .any l.toArray Q f S0 a w := by
  subst hf
  simp only [Bool.and_eq_true] at hB
  exact wpAny_of_seqIx ts (nths l ts) S0 a w (nths_eq l ts hB.1) hB.2 h
set_option maxRecDepth 100000 in
set_option maxHeartbeats 16000000 in
theorem lawMinimalNogoodP (v : Value) (n : Nat) (w : World) (hB : SBytes w v n) (_hn : n ≤ 140737488351232) :
    Calls Tryz.prog 3 #[v] w (Ret (.bool true) w) := by
  have HB := hide hB
  obtain ⟨A, c, rfl, -⟩ := hB
  by_cases hl : (1048576 : Int) < n
  · go_enter Tryz.func3, Tryz.ntmps3
    go_wp2
    go_ret
    exact Ret.mk rfl (Ext.refl _)
  · go_enter Tryz.func3, Tryz.ntmps3
    go_wp2_with fail
    refine (DrawMinimalNogood_any _ n _ HB.out).mono ?_
    rintro e w1 ⟨vd, vc, vl, ds, cs, ls, rfl, hD, hC, hL, hnil, hd1, hd4, hx1⟩
    obtain ⟨Ad, cd, rfl, -, hld⟩ := hD.form
    obtain ⟨Ac, cc, rfl, -, hlc⟩ := hC.form
    obtain ⟨Al, cl, rfl, -, hll⟩ := hL.form
    have HX1 := hide hx1
    have HD1 := hide hD
    have HC1 := hide hC
    have HL1 := hide hL
    have HNIL := hide hnil
    clear hx1 hD hC hL hnil
    go_upto_region 4 with fail
    obtain ⟨w0, hw0⟩ : ∃ w0, w0 = w1.alloc (.cells #[.slice Ad ds.length cd, .slice Ac cs.length cc] 26) := ⟨_, rfl⟩
    have hx0 : Ext w1 w0 := by rw [hw0]; exact (Ext.refl w1).alloc _
    have k0 : w0.cell? ⟨w1.heap.size, 0, none⟩ = some (.slice Ad ds.length cd) := by rw [hw0]; go_simp
    have k1 : w0.cell? ⟨w1.heap.size, 1, none⟩ = some (.slice Ac cs.length cc) := by rw [hw0]; go_simp
    have ks : w1.heap.size < w0.heap.size := by rw [hw0]; simp
    rw [← hw0]
    clear hw0
    have HX0 := hide (HX1.out.trans hx0)
    have HM0 := hide (show SMod w0 (.agg #[.slice Ad ds.length cd, .slice Ac cs.length cc]) ds cs from ⟨_, _, rfl, HD1.out.ext hx0, HC1.out.ext hx0⟩)
    have HL0 := hide (HL1.out.ext hx0)
    clear hx0 HD1 HC1 HL1 HX1
    have K0 := hide k0
    have K1 := hide k1
    go_wp2_with fail
    refine (MinimalNogoodI_any _ _ ds cs ls _ HM0.out HL0.out (fun i _ => fits_all (con0 cs i))).mono ?_
    rintro e w2 ⟨A2, b2, m2, f2, rfl, hb2, ho2, hx2⟩
    obtain ⟨ok, hok⟩ : ∃ ok, ok = mngB ds cs ls := ⟨_, rfl⟩
    obtain ⟨xs, hxs⟩ : ∃ xs, xs = mngL ds cs ls := ⟨_, rfl⟩
    have hxl : xs.length ≤ 24 := by rw [hxs]; exact mngL_len ds cs ls
    rw [← hok]
    rw [← hxs] at ho2 ⊢
    have HS2 := hide (SLt.of_lay (LayOwn.S layLtOk ho2 (Nat.le_refl _) (by show _ * 24 ≤ _; omega)))
    have HOK := hide hok
    have HXS := hide hxs
    have HX2 := hide hx2
    have k0 := (hx2.cells _ _ ks).trans k0
    have k1 := (hx2.cells _ _ ks).trans k1
    have ks2 := Nat.lt_of_lt_of_le ks hx2.size
    clear hok hxs ho2 hb2 hx2
    go_wp2_with fail
    refine (MinimalNogoodS_any _ _ ds cs ls _ (HM0.out.ext HX2.out) (HL0.out.ext HX2.out) HNIL.out).mono ?_
    rintro e w3 ⟨A3, c3, rfl, hs3, hx3⟩
    rw [← HOK.out]
    rw [← HXS.out] at hs3 ⊢
    have HS3 := hide hs3
    have HX3 := hide (HX2.out.trans hx3)
    have HS2 := hide (HS2.out.ext hx3)
    have k0 := (hx3.cells _ _ ks2).trans k0
    have k1 := (hx3.cells _ _ ks2).trans k1
    have ks3 := Nat.lt_of_lt_of_le ks2 hx3.size
    have e1 : (ok != ok) = false := by simp
    have e2 : (ok == ok) = true := by simp
    clear hs3 hx3
    go_wp2_with fail
    refine (equalClauses_same _ _ xs _ HS2.out HS3.out).mono ?_
    rintro e w4 ⟨rfl, hx4⟩
    have HX4 := hide (HX3.out.trans hx4)
    have HS2 := hide (HS2.out.ext hx4)
    have HS3 := hide (HS3.out.ext hx4)
    have k0 := (hx4.cells _ _ ks3).trans k0
    have k1 := (hx4.cells _ _ ks3).trans k1
    have ks4 := Nat.lt_of_lt_of_le ks3 hx4.size
    clear hx4
    cases hq : ok with
    | false =>
      rw [hq] at e1 e2
      clear hq
      go_wp2_with fail
      refine (equalClauses_same _ _ xs _ HS2.out HS3.out).mono ?_
      rintro e w5 ⟨rfl, hx5⟩
      have HX5 := hide (HX0.out.trans (HX4.out.trans hx5))
      clear hx5
      go_wp2_with fail
      go_ret
      exact Ret.mk rfl HX5.out
    | true =>
      obtain ⟨q1, q2, q3, q4, q5, q6, q7⟩ := mng_all (show mngB ds cs ls = true by rw [← HOK.out]; exact hq)
      rw [← HXS.out] at q2 q3 q4 q5 q6 q7
      have Q1 := hide q1
      have Q3 := hide q3
      have Q4 := hide q4
      have Q5 := hide q5
      have Q6 := hide q6
      have Q7 := hide q7
      rw [hq] at e1 e2
      have KK0 := hide k0
      have KK1 := hide k1
      clear hq q1 q3 q4 q5 q6 q7 HXS HOK k0 k1
      obtain ⟨wb, hwb⟩ : ∃ wb, wb = w4 := ⟨w4, rfl⟩
      subst hwb
      go_wp2_with fail
      go_loopw [9] (fun i wr => ∃ k : Nat, i = .int .i64 k ∧ k ≤ xs.length ∧ Ext wb wr) (fun i _ => xs.length - (intOf i).toNat)
      case atStart => exact ⟨0, rfl, Nat.zero_le _, Ext.refl wb⟩
      case round =>
        obtain ⟨k, rfl, hk, hx⟩ := hrel
        have HXr := hide hx
        have ksr := Nat.lt_of_lt_of_le ks4 hx.size
        clear hx
        by_cases hkl : k < xs.length
        · have hkI : (k : Int) < xs.length := by omega
          obtain ⟨b, off, hab, hbl, f1, f2, f3⟩ := (HS2.out.ext HXr.out).at_ hkl
          subst hab
          have HSr := hide (layLt_of (HS2.out.ext HXr.out))
          have HBL := hide hbl
          have hkw : IntKind.i64.wrap ((k : Int) + 1) = k + 1 := IntWalk.i64_in _ (by omega)
          have hk01 : (0 : Int) ≤ k + 1 := by omega
          have hk02 : (k : Int) + 1 ≤ xs.length := by omega
          have hkc : k ≤ xs.length := by omega
          have hck : ¬ (xs.length < k) := by omega
          obtain ⟨D, hD⟩ : ∃ D : Option Addr, D = (if xs.length = k + 1 then some ⟨b, off, none⟩ else some ⟨b, off + (k + 1) * 3, none⟩) := ⟨_, rfl⟩
          have HD := hide hD
          have hSt := hide (LayS.take HSr.out (i := k) (c' := xs.length) (by omega) (by omega))
          have hSd := hide (LayS.drop layLtOk HSr.out (A2 := D) (n2 := xs.length - (k + 1)) (c2 := xs.length - (k + 1)) (i := k + 1) (by omega) rfl (by omega) (by intro hkl b off e; injection e with e; injection e with e1 e2; subst e1; subst e2; rw [hD, if_neg (by omega)]; simp; rfl))
          clear hD
          have HER := hide (show xs.take k ++ xs.drop (k + 1) = xs.eraseIdx k by rw [List.eraseIdx_eq_take_drop_succ])
          go_upto_region 11 with fail
          refine wp_region_any (by kernel_rfl) ?_
          change wpAny _ _ _ _ _ _ _ (World.drew _)
          refine wpAny_take (i := 1) (v := ?_) rfl (by kernel_rfl) (by kernel_rfl) (by kernel_rfl) (by first | exact fun _ _ _ h => h | (rintro _ _ _ ⟨h, _⟩; cases h)) (Or.inl ⟨by rfl, ?hy1⟩) ?_
          case hy1 => intro w; go_simp; with_reducible rfl
          simp only [Act.put, List.getElem_toArray, List.getElem_cons_zero, List.getElem_cons_succ, List.setIfInBounds_toArray, List.set_cons_succ, List.set_cons_zero]
          refine wpAny_take (i := 2) (v := ?_) rfl (by kernel_rfl) (by kernel_rfl) (by kernel_rfl) (by first | exact fun _ _ _ h => h | (rintro _ _ _ ⟨h, _⟩; cases h)) (Or.inl ⟨by rfl, ?hy2⟩) ?_
          case hy2 => intro w; go_simp; with_reducible rfl
          simp only [Act.put, List.getElem_toArray, List.getElem_cons_zero, List.getElem_cons_succ, List.setIfInBounds_toArray, List.set_cons_succ, List.set_cons_zero]
          refine wpAny_take (i := 3) (v := .slice (some ⟨b, off, none⟩) k xs.length) rfl (by kernel_rfl) (by kernel_rfl) (by kernel_rfl) (fun _ _ _ h => h) (Or.inl ⟨by rfl, ?hy3⟩) ?_
          case hy3 => intro w; go_simp
          simp only [Act.put, List.getElem_toArray, List.getElem_cons_zero, List.getElem_cons_succ, List.setIfInBounds_toArray, List.set_cons_succ, List.set_cons_zero]
          refine wpAny_take (i := 5) (v := ?_) rfl (by kernel_rfl) (by kernel_rfl) (by kernel_rfl) (by first | exact fun _ _ _ h => h | (rintro _ _ _ ⟨h, _⟩; cases h)) (Or.inl ⟨by rfl, ?hy5⟩) ?_
          case hy5 => intro w; go_simp; with_reducible rfl
          simp only [Act.put, List.getElem_toArray, List.getElem_cons_zero, List.getElem_cons_succ, List.setIfInBounds_toArray, List.set_cons_succ, List.set_cons_zero]
          refine wpAny_take (i := 6) (v := ?_) rfl (by kernel_rfl) (by kernel_rfl) (by kernel_rfl) (by first | exact fun _ _ _ h => h | (rintro _ _ _ ⟨h, _⟩; cases h)) (Or.inl ⟨by rfl, ?hy6⟩) ?_
          case hy6 => intro w; go_simp; with_reducible rfl
          simp only [Act.put, List.getElem_toArray, List.getElem_cons_zero, List.getElem_cons_succ, List.setIfInBounds_toArray, List.set_cons_succ, List.set_cons_zero]
          refine wpAny_take (i := 7) (v := .int .i64 ((k : Int) + 1)) rfl (by kernel_rfl) (by kernel_rfl) (by kernel_rfl) (fun _ _ _ h => h) (Or.inl ⟨by rfl, ?hy7⟩) ?_
          case hy7 => intro w; go_simp
          simp only [Act.put, List.getElem_toArray, List.getElem_cons_zero, List.getElem_cons_succ, List.setIfInBounds_toArray, List.set_cons_succ, List.set_cons_zero]
          refine wpAny_take (i := 8) (v := .slice D (xs.length - (k + 1)) (xs.length - (k + 1))) rfl (by kernel_rfl) (by kernel_rfl) (by kernel_rfl) (fun _ _ _ h => h) (Or.inl ⟨by rfl, ?hy8⟩) ?_
          case hy8 => intro w; rw [HD.out]; go_simp
          simp only [Act.put, List.getElem_toArray, List.getElem_cons_zero, List.getElem_cons_succ, List.setIfInBounds_toArray, List.set_cons_succ, List.set_cons_zero]
          refine wpAny_sqM [0, 4, 9, 10] (by kernel_rfl) rfl ?_
          simp only [nths, nth1]
          go_wp2_with (at_builtin; go_must (first | (refine wpList_appG layLtOk _ rfl _ _ rfl wr.heap.size (.slice (some ⟨wr.heap.size, 0, none⟩) 0 0) (.slice (some ⟨b, off, none⟩) k xs.length) [] (xs.take k) rfl rfl (LayApp.empty wr.drew rfl) (LayS.ext hSt.out (((Ext.refl wr).drew).alloc _)) (fun n c e => by cases e) (by simp; omega) (by show _ * 24 ≤ _; simp; omega) (by simp [World.drew]) ?_; intro v6 W6 hA6 hb6; obtain ⟨A6, c6, hv6, -⟩ := LayApp.form hA6; rw [show (([] : List Lt) ++ xs.take k).length = k by rw [List.nil_append, List.length_take, Nat.min_eq_left hkc]] at hv6; subst hv6; have HA6 := hide (show layLt.App wr.heap.size W6 (.slice A6 k c6) (xs.take k) from hA6); have HX6 := hide ((((Ext.refl wr).drew).alloc _).below hb6); clear hA6 hb6) | (refine wpList_appG layLtOk _ rfl _ _ rfl wr.heap.size (.slice A6 k c6) (.slice D (xs.length - (k + 1)) (xs.length - (k + 1))) (xs.take k) (xs.drop (k + 1)) rfl rfl HA6.out (LayS.ext hSd.out HX6.out) (by intro n c' h; injection h with h; rw [HD.out] at h; split at h <;> cases h) (by simp; omega) (by show _ * 24 ≤ _; simp; omega) HX6.out.size ?_; intro v7 W7 hA7 hb7; rw [HER.out] at hA7; have hx7 := HX6.out.below hb7; have HX7 := hide hx7; obtain ⟨A7, c7, hv7, -⟩ := LayApp.form hA7; have HS7 := hide (SLt.of_lay (LayApp.S hA7 (by show _ * 24 ≤ _; have := List.length_eraseIdx_le xs k; omega))); obtain ⟨L7, hL7⟩ : ∃ L7, L7 = (xs.eraseIdx k).length := ⟨_, rfl⟩; rw [← hL7] at hv7; subst hv7; have f1 := (hx7.cells _ _ hbl).trans f1; have f2 := (hx7.cells _ _ hbl).trans f2; have f3 := (hx7.cells _ _ hbl).trans f3; have ks7 := Nat.lt_of_lt_of_le ksr hx7.size; have k0 := (hx7.cells _ _ ksr).trans ((HXr.out.cells _ _ ks4).trans KK0.out); have k1 := (hx7.cells _ _ ksr).trans ((HXr.out.cells _ _ ks4).trans KK1.out); clear hA7 hb7 hx7 hL7)))
          have hmem := Q6.out (lt0 xs k) (by rw [show lt0 xs k = xs[k] by simp [lt0, hkl]]; exact List.getElem_mem hkl)
          obtain ⟨j, hj, hje⟩ := List.mem_iff_getElem.1 hmem
          refine (hasLiteral_any _ ls (lt0 xs k) j _ (HL0.out.ext (HX4.out.trans (HXr.out.trans HX7.out))) hj (by rw [show lt0 ls j = ls[j] by simp [lt0, hj]]; exact hje)).mono ?_
          rintro e w8 ⟨rfl, hx8⟩
          have k0 := (hx8.cells _ _ ks7).trans k0
          have k1 := (hx8.cells _ _ ks7).trans k1
          have HX8 := hide (HX7.out.trans hx8)
          have HS8 := hide (HS7.out.ext hx8)
          clear hx8 hmem hje
          go_wp2_with fail
          refine (RefutesI_any _ _ ds cs (xs.eraseIdx k) _ (HM0.out.ext (HX4.out.trans (HXr.out.trans HX8.out))) HS8.out (fun i _ => fits_all (con0 cs i))).mono ?_
          rintro e w9 ⟨rfl, hx9⟩
          rw [Q7.out k hkl]
          have HX9 := hide (HXr.out.trans (HX8.out.trans hx9))
          clear hx9
          go_wp2_with fail
          go_roundw
          case rel => exact ⟨k + 1, by go_num, by omega, HX9.out⟩
          case measure => simp [intOf]; omega
        · obtain rfl : k = xs.length := by omega
          have hkI : ¬ ((xs.length : Int) < xs.length) := by omega
          have k0 := (HXr.out.cells _ _ ks4).trans KK0.out
          have k1 := (HXr.out.cells _ _ ks4).trans KK1.out
          go_wp2_with fail
          refine (RefutesI_any _ _ ds cs xs _ (HM0.out.ext (HX4.out.trans HXr.out)) (HS2.out.ext HXr.out) (fun i _ => fits_all (con0 cs i))).mono ?_
          rintro e w5 ⟨rfl, hx5⟩
          rw [Q1.out, Q3.out, Q4.out]
          have k0 := (hx5.cells _ _ ksr).trans k0
          have k1 := (hx5.cells _ _ ksr).trans k1
          have HX5 := hide (HXr.out.trans hx5)
          clear hx5
          go_wp2_with fail
          refine (IsNogoodI_any _ _ ds cs xs _ (HM0.out.ext (HX4.out.trans HX5.out)) (HS2.out.ext HX5.out)).mono ?_
          rintro e w6 ⟨rfl, hx6⟩
          rw [Q5.out]
          have HX6 := hide (HX0.out.trans (HX4.out.trans (HX5.out.trans hx6)))
          clear hx6
          go_wp2_with fail
          go_ret
          exact Ret.mk rfl HX6.out
end Go.Proofs.YtfejhenbpnijhaaGreat
/- FnMinimalNogood returns true for all bytes. No condition. -/
namespace Go.Proofs.YtfejhenbpnijhaaGreat
open Go.ChangeShapes Go.WideShapes Go.ChangeAt Go.RowKit

theorem Tryz.ownFnMinimalNogood : ownKnob Tryz.prog.godebug = none := by kernel_rfl
theorem Tryz.laidOutFnMinimalNogood : laidOutB Tryz.prog = true := by kernel_rfl

set_option maxRecDepth 100000 in
theorem fnMinimalNogood_lifted (os : Os) (started : os.Started) (H : Type) (enc : TypeId × Value → H) :
    ReturnsInHanded {} Tryz.checked os 3 .any (Rows.fnMinimalNogoodSpec.pre6 enc Tryz.prog Tryz.f3 Rows.fnMinimalNogoodRow.domain false) (Rows.fnMinimalNogoodSpec.post enc Tryz.prog Tryz.f3 false true false false) := by
  refine returnsInHanded_of_change_sized (C := Tryz.checked) Tryz.ownFnMinimalNogood started (by kernel_rfl) Tryz.func3
    (ChangeSpec.witness6 (enc := enc) (C := Tryz.checked) false ⟨#[], #[.slice none 0 0], []⟩ 8 (by kernel_rfl) (by kernel_rfl) (by kernel_rfl) (by kernel_rfl)) ?_
  intro W base args ds gs before hval0 hW hcnd hsz0 _
  have hval : ∀ (j : Nat) t v, Tryz.f3.params[j]? = some t → args[j]? = some v → Value.okWide Tryz.prog W .any base t v := hval0
  have hsz : (DataW.weightsEach Tryz.prog (Tryz.f3.params.toList ++ Rows.fnMinimalNogoodSpec.plain.varTypes Tryz.prog) (ds ++ gs)).all (· ≤ reachBytes) = true := hsz0
  have hW' := hW
  obtain ⟨p, q, hA0, hV, rfl, hfz, hnd⟩ := hW
  have hA : DataW.TrodAll enc Tryz.prog W 0 (fun _ => true) true Tryz.f3.params.toList args.toList ds p := hA0
  rw [Tryz.params3] at hA hval hsz
  obtain ⟨v0, vs0, d0, ds0, p0, q0, hargs, rfl, rfl, h0, r0⟩ := trodAll_cons hA
  obtain ⟨rfl, rfl, rfl⟩ := trodAll_nil r0
  obtain rfl : args = #[v0] := by cases args; simp_all
  obtain ⟨rfl, rfl⟩ := trodVars_none hV
  have k0 := h0
  have lt0 : ∀ x ∈ p0, x.block < W.heap.size := by obtain ⟨m, hm⟩ := k0; exact DataW.trod_lt m _ _ _ hm
  obtain ⟨x0, hB0, hn0⟩ := bytes_of_trod Tryz.underlying22 Tryz.underlying5 (by kernel_rfl) (by kernel_rfl) (hval 0 22 v0 rfl rfl) h0
    (fun elems spare hd => sized_slice hsz (j := 0) (t := 22) (e := 5) rfl (by simp [hd]) Tryz.underlying22)
  clear hA0 hval0 hsz0
  refine (lawMinimalNogoodP v0 x0 W hB0 hn0).mono fun e W' ⟨he, bel⟩ => ?_
  subst he
  exact ⟨_, rfl, _, _, _, [], _, [], hW', trodAll_mk1 (shut_bool Tryz.underlying4 _), (trodAll_cons_mk (Below.trod Tryz.laidOutFnMinimalNogood (by kernel_rfl) (of_decide_eq_true (by kernel_rfl)) k0 bel lt0) trodAll_mk0), rfl, Below.frame bel _, fun h => by cases h⟩

theorem fnMinimalNogood_holds : Rows.FnMinimalNogoodSaid :=
  OpenClaim.holds_of_wide 3 Tryz.f3 rfl rfl rfl rfl rfl rfl rfl ⟨rfl, rfl, rfl, rfl, rfl⟩ rfl rfl rfl rfl rfl (by kernel_rfl) Tryz.func3 (by kernel_rfl)
    (of_decide_eq_true (by kernel_rfl)) (by unfold Func.isWrapper; first | (rw [if_pos (by decide +kernel)]; kernel_rfl) | (rw [if_neg (by decide +kernel)]; exact ⟨rfl, rfl⟩))
    (fun os started H enc _ => fnMinimalNogood_lifted os started H enc)
#print axioms fnMinimalNogood_holds
end Go.Proofs.YtfejhenbpnijhaaGreat
