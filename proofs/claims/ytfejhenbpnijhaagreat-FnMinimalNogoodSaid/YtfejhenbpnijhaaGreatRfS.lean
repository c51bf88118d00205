/- Refutation by propagation: the reference's walk. Printed by genrfs.py. -/
import Derived.Test.YtfejhenbpnijhaaGreatRelZ
import Derived.Test.YtfejhenbpnijhaaGreatRfI
namespace Go.Proofs.YtfejhenbpnijhaaGreat
open Go.RowKit
attribute [local go_sem] evalOf
set_option maxRecDepth 100000 in
set_option maxHeartbeats 8000000 in
theorem validConjunction_any (v vl : Value) (ds : List Int) (cs : List Con) (ls : List Lt) (w : World) (hM : SMod w v ds cs) (hL : SLt w vl ls) :
    Calls Tryz.prog 39 #[v, vl] w (Ret (.bool (vMod ds cs && okCl ls ds.length)) w) := by
  have hM0 := hide hM
  have hL0 := hide hL
  obtain ⟨vd, vc, rfl, hD, hC⟩ := hM
  have hD0 := hide hD
  have hbd := hD.bytes
  obtain ⟨Ad, cd, rfl, -, hld⟩ := hD.form
  obtain ⟨Ac, cc, rfl, -, hlc⟩ := hC.form
  obtain ⟨Al, cl, rfl, -, hll⟩ := hL.form
  obtain ⟨w0, hw0⟩ : ∃ w0, w0 = w.alloc (.cells #[.slice Ad ds.length cd, .slice Ac cs.length cc] 26) := ⟨_, rfl⟩
  have hx0 : Ext w w0 := by rw [hw0]; exact (Ext.refl w).alloc _
  have k0 : w0.cell? ⟨w.heap.size, 0, none⟩ = some (.slice Ad ds.length cd) := by rw [hw0]; go_simp
  have k1 : w0.cell? ⟨w.heap.size, 1, none⟩ = some (.slice Ac cs.length cc) := by rw [hw0]; go_simp
  have ks : w.heap.size < w0.heap.size := by rw [hw0]; simp
  have HX0 := hide hx0
  have K0 := hide k0
  have K1 := hide k1
  clear hD hC hL hx0
  go_enter Tryz.func39, Tryz.ntmps39
  go_wp2_with fail
  rw [← hw0]
  clear hw0
  refine (validModelS_any _ ds cs _ (hM0.out.ext HX0.out)).mono ?_
  rintro e w1 ⟨rfl, hx1⟩
  have k0 := (hx1.cells _ _ ks).trans k0
  have ks := Nat.lt_of_lt_of_le ks hx1.size
  have HX1 := hide (HX0.out.trans hx1)
  clear hx1 k1
  cases hq : vMod ds cs with
  | false =>
    go_wp2
    go_ret
    exact Ret.mk (ret_b (by rw [hq, Bool.false_and])) HX1.out
  | true =>
    go_wp2_with fail
    refine (validClause_any _ ls ds.length _ (hL0.out.ext HX1.out) (by omega) (by omega)).mono ?_
    rintro e w2 ⟨rfl, hx2⟩
    have HX2 := hide (HX1.out.trans hx2)
    clear hx2
    go_wp2
    go_ret
    exact Ret.mk (ret_b (by rw [hq, Bool.true_and])) HX2.out
set_option maxRecDepth 100000 in
set_option maxHeartbeats 8000000 in
theorem RefutesS_any (v vl : Value) (ds : List Int) (cs : List Con) (ls : List Lt) (w : World) (hM : SMod w v ds cs) (hL : SLt w vl ls) :
    Calls Tryz.prog 19 #[v, vl] w (Ret (.bool (vMod ds cs && (okCl ls ds.length && rftB cs ds ls))) w) := by
  have hM0 := hide hM
  have hL0 := hide hL
  obtain ⟨vd, vc, rfl, hD, hC⟩ := hM
  have hD0 := hide hD
  have hbd := hD.bytes
  obtain ⟨Ad, cd, rfl, -, hld⟩ := hD.form
  obtain ⟨Ac, cc, rfl, -, hlc⟩ := hC.form
  obtain ⟨Al, cl, rfl, -, hll⟩ := hL.form
  obtain ⟨w0, hw0⟩ : ∃ w0, w0 = w.alloc (.cells #[.slice Ad ds.length cd, .slice Ac cs.length cc] 26) := ⟨_, rfl⟩
  have hx0 : Ext w w0 := by rw [hw0]; exact (Ext.refl w).alloc _
  have k0 : w0.cell? ⟨w.heap.size, 0, none⟩ = some (.slice Ad ds.length cd) := by rw [hw0]; go_simp
  have k1 : w0.cell? ⟨w.heap.size, 1, none⟩ = some (.slice Ac cs.length cc) := by rw [hw0]; go_simp
  have ks : w.heap.size < w0.heap.size := by rw [hw0]; simp
  have HX0 := hide hx0
  have K0 := hide k0
  have K1 := hide k1
  clear hD hC hL hx0
  cases hq0 : vMod ds cs && okCl ls ds.length with
  | false =>
    have HQ0 := hide hq0
    have HW := hide hw0
    clear hq0
    go_enter Tryz.func19, Tryz.ntmps19
    go_wp2_with fail
    rw [← hw0]
    clear hw0
    refine wp_region_ext (by kernel_rfl) (by kernel_rfl) ?_
    iterate 2 (apply quiet_val; (focus rfl); (focus (intro w' hw'; have hk' := hw'.cells; go_simp; all_goals exact rfl)); simp only [Act.put, List.setIfInBounds_toArray, List.set_cons_succ, List.set_cons_zero])
    apply quiet_call; (focus rfl); (focus (intro w' hw'; go_simp; all_goals (first | exact rfl | (apply And.intro <;> exact rfl))))
    · exact fun w' hw' => Ret.quiet ((validConjunction_any _ _ ds cs ls w' (hM0.out.ext (HX0.out.trans hw')) (hL0.out.ext (HX0.out.trans hw'))).mono fun e w2 h => by rw [HQ0.out] at h; exact h) hw'
    (simp only [Act.put, List.setIfInBounds_toArray, List.set_cons_succ, List.set_cons_zero])
    (apply quiet_val; (focus rfl); (focus (intro w' hw'; have hk' := hw'.cells; go_simp; all_goals exact rfl)); simp only [Act.put, List.setIfInBounds_toArray, List.set_cons_succ, List.set_cons_zero])
    iterate 7 go_big_quiet_skip
    iterate 2 (apply quiet_val; (focus rfl); (focus (intro w' hw'; have hk' := hw'.cells; go_simp; all_goals exact rfl)); simp only [Act.put, List.setIfInBounds_toArray, List.set_cons_succ, List.set_cons_zero])
    refine wpQuiet_nil ?_
    intro w2 hx2
    go_wp2
    go_ret
    exact Ret.mk (ret_b (by rw [← Bool.and_assoc, HQ0.out, Bool.false_and])) (HX0.out.trans hx2)
  | true =>
    have HVC := hide (show (Value.bool (vMod ds cs && okCl ls ds.length)) = .bool true by rw [hq0])
    obtain ⟨hv, hok⟩ := Bool.and_eq_true_iff.1 hq0
    obtain ⟨hG, h1, h4⟩ := vMod_good hv
    have HG := hide hG
    have HOK := hide hok
    obtain ⟨q, hq⟩ : ∃ q, q = resCL ds ls := ⟨_, rfl⟩
    have HQ := hide hq
    have hgq := rft_good hG hok
    rw [← hq] at hgq
    have HGQ := hide hgq
    have hgp := (propL_R hgq h4).good
    have HGP := hide hgp
    have hql := hgq.1
    have hpl := hgp.1
    have HV := hide (show hasI (propL cs q) 0 = (vMod ds cs && (okCl ls ds.length && rftB cs ds ls)) by rw [hv, hok, rftB, ← hq]; rfl)
    clear hG hok hv hq0 hq hgq hgp k0 k1
    go_enter Tryz.func19, Tryz.ntmps19
    go_wp2_with fail
    rw [← hw0]
    clear hw0
    refine wp_region_relGT (g0 := 3) (b0 := true) (n := 12) (ts := [12]) (sp := [RS.q [] (fun _ => .agg #[.slice Ad ds.length cd, .slice Ac cs.length cc]), RS.q [] (fun _ => .slice Al ls.length cl), RS.q [0, 1] (fun _ => .bool true), RS.q [2] (fun _ => .bool true), RS.q [3] (fun _ => .agg #[.slice Ad ds.length cd, .slice Ac cs.length cc]), RS.q [3] (fun _ => .pointer (some ⟨w.heap.size, 0, none⟩)), RS.q [3, 5] (fun _ => .slice Ad ds.length cd), RS.q [3] (fun _ => .slice Al ls.length cl), RS.ow [3, 6, 7] (q) w0, RS.ow [3, 4, 8] (propL cs q) w0, RS.q [3, 9] (fun _ => .bool (hasI (propL cs q) 0)), RS.q [3, 10] (fun _ => .bool (hasI (propL cs q) 0))])
      (fun W => Ext w0 W) (by kernel_rfl) (relOKG (D := [[], [], [0, 1], [2], [3], [3], [3, 5], [3], [3, 6, 7], [3, 4, 8], [3, 9], [3, 10]]) rfl (by kernel_rfl) rfl) (fun V w h => h) (by kernel_rfl) ((fun W W' h hx => h.trans hx)) (Ext.refl w0).drew ?steps ?ends
    case steps =>
      refine ⟨?_, ?_, ?_, ?_, ?_, ?_, ?_, ?_, ?_, ?_, ?_, ?_, trivial⟩
      · intro V τ W hC hf ht h0
        have s2 : τ 2 = .pointer (some ⟨w.heap.size, 0, none⟩) := h0 2 (by kernel_rfl)
        have k0 := (hC.cells _ _ ks).trans K0.out
        have k1 := (hC.cells _ _ ks).trans K1.out
        refine Does.val (w' := W) (v := .agg #[.slice Ad ds.length cd, .slice Ac cs.length cc]) ?_ ⟨Ext.refl W, rfl⟩
        clear h0 ht hf
        go_simp
      · intro V τ W hC hf ht h0
        have s1 : τ 1 = .slice Al ls.length cl := h0 1 (by kernel_rfl)
        refine Does.val (w' := W) (v := .slice Al ls.length cl) ?_ ⟨Ext.refl W, rfl⟩
        go_simp
      · intro V τ W hC hf ht h0
        have f0 : V 0 = .agg #[.slice Ad ds.length cd, .slice Ac cs.length cc] := hf 0 (by simp [RS.at_, RS.q, RS.ow])
        have f1 : V 1 = .slice Al ls.length cl := hf 1 (by simp [RS.at_, RS.q, RS.ow])
        have s5 := (ht 0 (by simp [RS.at_, RS.q, RS.ow]) 5 rfl).trans f0
        have s6 := (ht 1 (by simp [RS.at_, RS.q, RS.ow]) 6 rfl).trans f1
        refine Does.call (w' := W) (f := 39) (args := #[.agg #[.slice Ad ds.length cd, .slice Ac cs.length cc], .slice Al ls.length cl]) (by go_simp; all_goals (first | exact rfl | (apply And.intro <;> exact rfl))) ?_
        refine (validConjunction_any _ _ ds cs ls _ (hM0.out.ext (HX0.out.trans hC)) (hL0.out.ext (HX0.out.trans hC))).mono ?_
        rintro e wa ⟨rfl, hxa⟩
        exact ⟨_, rfl, hxa, HVC.out⟩
      · intro V τ W hC hf ht h0
        have f2 : V 2 = .bool true := hf 2 (by simp [RS.at_, RS.q, RS.ow])
        have s7 := (ht 2 (by simp [RS.at_, RS.q, RS.ow]) 7 rfl).trans f2
        refine Does.val (w' := W) (v := .bool true) ?_ ⟨Ext.refl W, rfl⟩
        go_simp
      · intro V τ W hC hf ht h0
        have s2 : τ 2 = .pointer (some ⟨w.heap.size, 0, none⟩) := h0 2 (by kernel_rfl)
        have k0 := (hC.cells _ _ ks).trans K0.out
        have k1 := (hC.cells _ _ ks).trans K1.out
        refine Does.val (w' := W) (v := .agg #[.slice Ad ds.length cd, .slice Ac cs.length cc]) ?_ ⟨Ext.refl W, rfl⟩
        clear h0 ht hf
        go_simp
      · intro V τ W hC hf ht h0
        have s2 : τ 2 = .pointer (some ⟨w.heap.size, 0, none⟩) := h0 2 (by kernel_rfl)
        refine Does.val (w' := W) (v := .pointer (some ⟨w.heap.size, 0, none⟩)) ?_ ⟨Ext.refl W, rfl⟩
        go_simp
      · intro V τ W hC hf ht h0
        have f5 : V 5 = .pointer (some ⟨w.heap.size, 0, none⟩) := hf 5 (by simp [RS.at_, RS.q, RS.ow])
        have s10 := (ht 5 (by simp [RS.at_, RS.q, RS.ow]) 10 rfl).trans f5
        have k0 := (hC.cells _ _ ks).trans K0.out
        refine Does.val (w' := W) (v := .slice Ad ds.length cd) ?_ ⟨Ext.refl W, rfl⟩
        go_simp
      · intro V τ W hC hf ht h0
        have s1 : τ 1 = .slice Al ls.length cl := h0 1 (by kernel_rfl)
        refine Does.val (w' := W) (v := .slice Al ls.length cl) ?_ ⟨Ext.refl W, rfl⟩
        go_simp
      · intro V τ W hC hf ht h0
        have f6 : V 6 = .slice Ad ds.length cd := hf 6 (by simp [RS.at_, RS.q, RS.ow])
        have f7 : V 7 = .slice Al ls.length cl := hf 7 (by simp [RS.at_, RS.q, RS.ow])
        have s11 := (ht 6 (by simp [RS.at_, RS.q, RS.ow]) 11 rfl).trans f6
        have s12 := (ht 7 (by simp [RS.at_, RS.q, RS.ow]) 12 rfl).trans f7
        refine Does.call (w' := W) (f := 42) (args := #[.slice Ad ds.length cd, .slice Al ls.length cl]) (by go_simp; all_goals (first | exact rfl | (apply And.intro <;> exact rfl))) ?_
        refine (restrictTo_any _ _ ds ls ds.length _ (hD0.out.ext (HX0.out.trans hC)) (hL0.out.ext (HX0.out.trans hC)) HG.out.dom HOK.out h1 h4).mono ?_
        rintro e wa hres
        have hr2 : OwnRes q w0 e wa := by rw [HQ.out]; exact OwnRes.from hres hC
        obtain ⟨A3, c3, b3, m3, f3, rfl, -, -, -, -, hxa⟩ := hres
        exact ⟨_, rfl, hxa, hr2⟩
      · intro V τ W hC hf ht h0
        have f4 : V 4 = .agg #[.slice Ad ds.length cd, .slice Ac cs.length cc] := hf 4 (by simp [RS.at_, RS.q, RS.ow])
        have f8 : OwnRes q w0 (.returned (V 8)) W := hf 8 (by simp [RS.at_, RS.q, RS.ow])
        have s9 := (ht 4 (by simp [RS.at_, RS.q, RS.ow]) 9 rfl).trans f4
        have s13 : τ 13 = V 8 := ht 8 (by simp [RS.at_, RS.q, RS.ow]) 13 rfl
        refine Does.call (w' := W) (f := 41) (args := #[.agg #[.slice Ad ds.length cd, .slice Ac cs.length cc], V 8]) (by go_simp; all_goals (first | exact rfl | (apply And.intro <;> exact rfl))) ?_
        refine (fixpointS_any _ _ ds q cs _ (hM0.out.ext (HX0.out.trans hC)) (f8.ints (fun i hi => by have := HGQ.out.2.1 i hi; unfold I64; omega)) (by rw [HGQ.out.1]; exact HGQ.out) (by have := HGQ.out.1; omega) (by have := HGQ.out.1; omega)).mono ?_
        rintro e wa hres
        have hr2 := OwnRes.from hres hC
        obtain ⟨A3, c3, b3, m3, f3, rfl, -, -, -, -, hxa⟩ := hres
        exact ⟨_, rfl, hxa, hr2⟩
      · intro V τ W hC hf ht h0
        have f9 : OwnRes (propL cs q) w0 (.returned (V 9)) W := hf 9 (by simp [RS.at_, RS.q, RS.ow])
        have s14 : τ 14 = V 9 := ht 9 (by simp [RS.at_, RS.q, RS.ow]) 14 rfl
        refine Does.call (w' := W) (f := 40) (args := #[V 9]) (by go_simp; all_goals (first | exact rfl | (apply And.intro <;> exact rfl))) ?_
        refine (hasEmpty_any _ (propL cs q) _ (f9.ints (fun i hi => by have := HGP.out.2.1 i hi; unfold I64; omega))).mono ?_
        rintro e wa ⟨rfl, rfl⟩
        exact ⟨_, rfl, Ext.refl _, rfl⟩
      · intro V τ W hC hf ht h0
        have f3 : V 3 = .bool true := hf 3 (by simp [RS.at_, RS.q, RS.ow])
        have f10 : V 10 = .bool (hasI (propL cs q) 0) := hf 10 (by simp [RS.at_, RS.q, RS.ow])
        have s8 := (ht 3 (by simp [RS.at_, RS.q, RS.ow]) 8 rfl).trans f3
        have s15 := (ht 10 (by simp [RS.at_, RS.q, RS.ow]) 15 rfl).trans f10
        refine Does.val (w' := W) (v := .bool (hasI (propL cs q) 0)) ?_ ⟨Ext.refl W, rfl⟩
        go_simp
    case ends =>
      intro V W hC hf
      have f0 : V 0 = .agg #[.slice Ad ds.length cd, .slice Ac cs.length cc] := hf 0 (by omega)
      have f1 : V 1 = .slice Al ls.length cl := hf 1 (by omega)
      have f2 : V 2 = .bool true := hf 2 (by omega)
      have f3 : V 3 = .bool true := hf 3 (by omega)
      have f4 : V 4 = .agg #[.slice Ad ds.length cd, .slice Ac cs.length cc] := hf 4 (by omega)
      have f5 : V 5 = .pointer (some ⟨w.heap.size, 0, none⟩) := hf 5 (by omega)
      have f6 : V 6 = .slice Ad ds.length cd := hf 6 (by omega)
      have f7 : V 7 = .slice Al ls.length cl := hf 7 (by omega)
      obtain ⟨A8, c8, f8⟩ := (show OwnRes q w0 (.returned (V 8)) W from hf 8 (by omega)).form
      obtain ⟨A9, c9, f9⟩ := (show OwnRes (propL cs q) w0 (.returned (V 9)) W from hf 9 (by omega)).form
      have f10 : V 10 = .bool (hasI (propL cs q) 0) := hf 10 (by omega)
      have f11 : V 11 = .bool (hasI (propL cs q) 0) := hf 11 (by omega)
      rw [hql] at f8
      rw [hpl] at f9
      clear hf
      simp only [List.take_succ_cons, List.take_zero, putAll, Act.put, List.setIfInBounds_toArray, List.set_cons_succ, List.set_cons_zero, Nat.reduceAdd, f0, f1, f2, f3, f4, f5, f6, f7, f8, f9, f10, f11]
      simp only [nths, nth1]
      clear f0 f1 f2 f3 f4 f5 f6 f7 f8 f9 f10 f11
      have HXE := hide (HX0.out.trans hC)
      clear hC
      go_wp2
      go_ret
      exact Ret.mk (ret_b HV.out) HXE.out
end Go.Proofs.YtfejhenbpnijhaaGreat
