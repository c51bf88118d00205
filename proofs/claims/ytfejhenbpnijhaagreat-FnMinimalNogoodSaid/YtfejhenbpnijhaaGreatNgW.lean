/- Literals under values, and IsNogood on both sides (cut out of SolW). -/
import Derived.Test.YtfejhenbpnijhaaGreatSolW
import Derived.Test.YtfejhenbpnijhaaGreatRstL
import Derived.Test.YtfejhenbpnijhaaGreatRfS
import Derived.Test.YtfejhenbpnijhaaGreatRfI
/- Literals under values: the reference's walk. -/
namespace Go.Proofs.YtfejhenbpnijhaaGreat
open Go.RowKit
attribute [local go_sem] evalOf

/-- Literal i is true under the values x. -/
def ltT (x : List Int) (ls : List Lt) (i : Nat) : Bool := !((at0 x (ltX ls i).toNat == ltV ls i) == ltN ls i)
def allT (x : List Int) (ls : List Lt) : Bool := !anyB (fun i => !ltT x ls i) ls.length
end Go.Proofs.YtfejhenbpnijhaaGreat
/- Literals under values: the program's walk. -/
namespace Go.Proofs.YtfejhenbpnijhaaGreat
open Go.RowKit
attribute [local go_sem] evalOf

theorem litD_has {l : Lt} (h0 : 0 ≤ l.v) (h5 : l.v ≤ 5) {u : Nat} (hu : u < 6) : hasB (litD l) u = !(((u : Int) == l.v) == l.n) := by
  obtain ⟨x, v, n⟩ := l
  obtain ⟨y, rfl⟩ : ∃ y : Nat, v = y := ⟨v.toNat, by simp only at h0; omega⟩
  have hy : y < 6 := by simp only at h5; omega
  have := fin_dv (p := fun d v => !decide (d < 6) || ((hasB (63 - 2 ^ v) d.toNat == (!((d == (v : Int)) == true))) && (hasB (2 ^ v) d.toNat == (!((d == (v : Int)) == false))))) (by decide +kernel) (d := (u : Int)) (by omega) (by omega) hy
  have hd : decide ((u : Int) < 6) = true := decide_eq_true (by omega)
  simp only [hd, Bool.not_true, Bool.false_or, Bool.and_eq_true, beq_iff_eq, Int.toNat_natCast] at this
  unfold litD
  cases n
  · simp only [Bool.false_eq_true, if_false, Int.toNat_natCast]; exact this.2
  · simp only [if_true, Int.toNat_natCast]; exact this.1
/-- f answers as p at the literals. -/
def OnLts (f : Nat) (caps : Array Value) (ls : List Lt) (p : Nat → Bool) (w : World) : Prop :=
  ∀ i, i < ls.length → ∀ W, Ext w W → Calls Tryz.prog f (#[.agg #[.int .i64 (ltX ls i), .int .i64 (ltV ls i), .bool (ltN ls i)]] ++ caps) W (Ret (.bool (p i)) W)
set_option maxHeartbeats 1000000 in
theorem IndexFuncT_any (v : Value) (ls : List Lt) (g : Nat) (caps : Array Value) (p : Nat → Bool) (w : World) (hS : SLt w v ls)
    (hg : ∀ args W, (callFunc g args).run Tryz.prog W = .ok (.enter g args) W) (hp : Hid (OnLts g caps ls p w)) :
    Calls Tryz.prog 87 #[v, .func (.func g) #[] caps] w (Ret (.int .i64 (fidx p ls.length)) w) := by
  have hS0 := hide hS
  obtain ⟨A, cp, rfl, hl, hlen⟩ := hS.form
  clear hS
  go_enter Tryz.func87, Tryz.ntmps87
  go_wp2
  go_loopw [8] (fun i wr => ∃ k : Nat, k ≤ ls.length ∧ i = .int .i64 k ∧ (∀ j, j < k → p j = false) ∧ Ext w wr) (fun i _ => ls.length - (intOf i).toNat)
  case atStart => exact ⟨0, Nat.zero_le _, rfl, fun j hj => absurd hj (by omega), Ext.refl w⟩
  case round =>
    obtain ⟨k, hk, rfl, hv, hx⟩ := hrel
    have Hv := hide hv; clear hv
    by_cases hlt : k < ls.length
    · obtain ⟨b, off, rfl, hbl, f1, f2, f3⟩ := (hS0.out.ext hx).at_ hlt
      by_cases hpk : p k = true
      · go_wp2_with fail
        refine (hp.out k hlt _ hx).mono ?_
        rintro e w2 ⟨rfl, hx2⟩
        go_wp2
        go_ret
        exact Ret.mk (ret_i (fidx_some hlt hpk Hv.out).symm) (hx.trans hx2)
      · have hpk' : p k = false := Bool.eq_false_iff.2 hpk
        clear hpk
        go_wp2_with fail
        refine (hp.out k hlt _ hx).mono ?_
        rintro e w2 ⟨rfl, hx2⟩
        go_wp2
        go_roundw
        case rel => exact ⟨k + 1, by omega, by go_num, upto_succ Hv.out hpk', hx.trans hx2⟩
        case measure => simp [intOf]; omega
    · have hkl : k = ls.length := by omega
      subst hkl
      go_wp2
      go_ret
      exact Ret.mk (ret_i (fidx_none Hv.out).symm) hx
theorem ContainsFuncT_any (v : Value) (ls : List Lt) (g : Nat) (caps : Array Value) (p : Nat → Bool) (w : World) (hS : SLt w v ls)
    (hg : ∀ args W, (callFunc g args).run Tryz.prog W = .ok (.enter g args) W) (hp : Hid (OnLts g caps ls p w)) :
    Calls Tryz.prog 52 #[v, .func (.func g) #[] caps] w (Ret (.bool (anyB p ls.length)) w) := by
  go_enter Tryz.func52, Tryz.ntmps52
  go_wp2_with fail
  refine (IndexFuncT_any v ls g caps p w hS hg hp).mono ?_
  rintro e w2 ⟨rfl, hx2⟩
  go_wp2
  go_ret
  exact Ret.mk (ret_b (fidx_any p _)) hx2
set_option maxRecDepth 100000 in
set_option maxHeartbeats 4000000 in
theorem allTrue1_any (vx : Value) (x : List Int) (ls : List Lt) (k bx : Nat) (w : World) (hk : k < ls.length) (hm : w.cell? ⟨bx, 0, none⟩ = some vx) (hbx : bx < w.heap.size) (hS : SInts w vx x) (hok : okCl ls x.length = true) (hv : ∀ j, j < x.length → 0 ≤ at0 x j ∧ at0 x j ≤ 5) :
    Calls Tryz.prog 53 #[.agg #[.int .i64 (ltX ls k), .int .i64 (ltV ls k), .bool (ltN ls k)], .pointer (some ⟨bx, 0, none⟩)] w (Ret (.bool (!ltT x ls k)) w) := by
  have hS0 := hide hS
  obtain ⟨Ax, cx, rfl, -, hlx⟩ := hS.form
  obtain ⟨u, hu, hun, hv0, hv5⟩ := lt_nat hok hk
  have huI : (u : Int) < x.length := by omega
  have hub := hv u hun
  obtain ⟨y, hy⟩ : ∃ y : Nat, at0 x u = y := ⟨(at0 x u).toNat, by omega⟩
  have hy5 : y ≤ 5 := by omega
  have HT := hide (show hasB (litD (lt0 ls k)) y = ltT x ls k by rw [litD_has hv0 hv5 (by omega), ltT, hu, Int.toNat_natCast, hy]; rfl)
  have hlb := litD_bd (l := lt0 ls k) (by omega)
  obtain ⟨z, hz⟩ : ∃ z, z = litD (lt0 ls k) := ⟨_, rfl⟩
  have HZ := hide hz
  rw [← hz] at HT hlb
  have HV := hide (And.intro hv0 hv5)
  have HY := hide hy
  obtain ⟨w0, hw0⟩ : ∃ w0, w0 = w.alloc (.cells #[.int .i64 u, .int .i64 (ltV ls k), .bool (ltN ls k)] 35) := ⟨_, rfl⟩
  have hx0 : Ext w w0 := by rw [hw0]; exact (Ext.refl w).alloc _
  have z0 : w0.cell? ⟨w.heap.size, 0, none⟩ = some (.int .i64 u) := by rw [hw0]; go_simp
  have z1 : w0.cell? ⟨w.heap.size, 1, none⟩ = some (.int .i64 (ltV ls k)) := by rw [hw0]; go_simp
  have z2 : w0.cell? ⟨w.heap.size, 2, none⟩ = some (.bool (ltN ls k)) := by rw [hw0]; go_simp
  have zs : w.heap.size < w0.heap.size := by rw [hw0]; simp
  have hm0 := (hx0.cells _ _ hbx).trans hm
  have hbx0 := Nat.lt_of_lt_of_le hbx hx0.size
  have HX0 := hide hx0
  obtain ⟨b, off, rfl, hbl, fx⟩ := (hS0.out.ext hx0).at_ hun
  rw [hy] at fx
  rw [hu]
  clear hS hok hv hub hy hz hv0 hv5 hx0 hm hu
  go_enter Tryz.func53, Tryz.ntmps53
  go_wp2_with fail
  rw [← hw0]
  clear hw0
  refine wp_region_ext (by kernel_rfl) (by kernel_rfl) ?_
  (apply quiet_val; (focus rfl); (focus (intro w' hw'; have hk' := hw'.cells; go_simp; all_goals exact rfl)); simp only [Act.put, List.setIfInBounds_toArray, List.set_cons_succ, List.set_cons_zero])
  apply quiet_call; (focus rfl); (focus (intro w' hw'; go_simp; all_goals (first | exact rfl | (apply And.intro <;> exact rfl))))
  · exact fun w' hw' => Ret.quiet ((trues_any ⟨u, ltV ls k, ltN ls k⟩ w' HV.out.1 HV.out.2).mono fun e w2 h => by rw [show litD ⟨u, ltV ls k, ltN ls k⟩ = z from HZ.out.symm] at h; exact h) hw'
  (simp only [Act.put, List.setIfInBounds_toArray, List.set_cons_succ, List.set_cons_zero])
  iterate 5 (apply quiet_val; (focus rfl); (focus (intro w' hw'; have hk' := hw'.cells; go_simp; all_goals exact rfl)); simp only [Act.put, List.setIfInBounds_toArray, List.set_cons_succ, List.set_cons_zero])
  apply quiet_call; (focus rfl); (focus (intro w' hw'; go_simp; all_goals (first | exact rfl | (apply And.intro <;> exact rfl))))
  · exact fun w' hw' => same_quiet (has_any z y w' hlb.1 (by omega) hy5) hw'
  (simp only [Act.put, List.setIfInBounds_toArray, List.set_cons_succ, List.set_cons_zero])
  iterate 2 (apply quiet_val; (focus rfl); (focus (intro w' hw'; have hk' := hw'.cells; go_simp; all_goals exact rfl)); simp only [Act.put, List.setIfInBounds_toArray, List.set_cons_succ, List.set_cons_zero])
  refine wpQuiet_nil ?_
  intro w2 hx2
  have HX2 := hide (HX0.out.trans hx2)
  clear hx2
  go_wp2
  go_ret
  exact Ret.mk (ret_b (by rw [HT.out])) HX2.out
theorem allTrueI_any (v vl : Value) (x : List Int) (ls : List Lt) (w : World) (hS : SInts w v x) (hL : SLt w vl ls) (hok : okCl ls x.length = true) (hv : ∀ j, j < x.length → 0 ≤ at0 x j ∧ at0 x j ≤ 5) :
    Calls Tryz.prog 25 #[vl, v] w (Ret (.bool (allT x ls)) w) := by
  have hS0 := hide hS
  have hL0 := hide hL
  have HOK := hide hok
  have HV := hide hv
  obtain ⟨Ax, cx, rfl, -, hlx⟩ := hS.form
  obtain ⟨Al, cl, rfl, -, hll⟩ := hL.form
  obtain ⟨w0, hw0⟩ : ∃ w0, w0 = w.alloc (.cells #[.slice Ax x.length cx] 23) := ⟨_, rfl⟩
  have HX0 := hide (show Ext w w0 by rw [hw0]; exact (Ext.refl w).alloc _)
  have K0 := hide (show w0.cell? ⟨w.heap.size, 0, none⟩ = some (.slice Ax x.length cx) by rw [hw0]; go_simp)
  have ks : w.heap.size < w0.heap.size := by rw [hw0]; simp
  clear hS hL hok hv
  go_enter Tryz.func25, Tryz.ntmps25
  go_wp2_with fail
  rw [← hw0]
  clear hw0
  refine (ContainsFuncT_any _ ls 53 #[.pointer (some ⟨w.heap.size, 0, none⟩)] (fun i => !ltT x ls i) _ (hL0.out.ext HX0.out) (callFunc_body Tryz.func53 (by decide) rfl)
    (hide fun i hi W hW => allTrue1_any _ x ls i w.heap.size W hi ((hW.cells _ _ ks).trans K0.out) (Nat.lt_of_lt_of_le ks hW.size) (hS0.out.ext (HX0.out.trans hW)) HOK.out HV.out)).mono ?_
  rintro e w3 ⟨rfl, hx3⟩
  have HX3 := hide (HX0.out.trans hx3)
  clear hx3
  go_wp2
  go_ret
  exact Ret.mk rfl HX3.out
end Go.Proofs.YtfejhenbpnijhaaGreat
namespace Go.Proofs.YtfejhenbpnijhaaGreat
open Go.RowKit

/-- No solution makes all literals true. -/
def ngB (cs : List Con) (ds : List Int) (ls : List Lt) : Bool := !anyB (fun i => allT (rw0 (solL cs ds) i) ls) (solL cs ds).length
def ngV (ds : List Int) (cs : List Con) (ls : List Lt) : Bool := (vMod ds cs && okCl ls ds.length) && ngB cs ds ls
theorem IsNogood1_any (v vl : Value) (x : List Int) (ls : List Lt) (bl : Nat) (w : World) (hS : SInts w v x) (hL : SLt w vl ls) (hm : w.cell? ⟨bl, 0, none⟩ = some vl) (hok : okCl ls x.length = true) (hv : ∀ j, j < x.length → 0 ≤ at0 x j ∧ at0 x j ≤ 5) :
    Calls Tryz.prog 24 #[v, .pointer (some ⟨bl, 0, none⟩)] w (Ret (.bool (allT x ls)) w) := by
  have hS0 := hide hS
  have hL0 := hide hL
  obtain ⟨Ax, cx, rfl, -, hlx⟩ := hS.form
  obtain ⟨Al, cl, rfl, -, hll⟩ := hL.form
  clear hS hL
  go_enter Tryz.func24, Tryz.ntmps24
  go_wp2_with fail
  refine (allTrueI_any _ _ x ls _ hS0.out hL0.out hok hv).mono ?_
  rintro e w2 ⟨rfl, hx2⟩
  have HX := hide hx2
  clear hx2
  go_wp2
  go_ret
  exact Ret.mk rfl HX.out
set_option maxRecDepth 100000 in
set_option maxHeartbeats 4000000 in
theorem IsNogoodI_any (v vl : Value) (ds : List Int) (cs : List Con) (ls : List Lt) (w : World) (hM : SMod w v ds cs) (hL : SLt w vl ls) :
    Calls Tryz.prog 10 #[v, vl] w (Ret (.bool (ngV ds cs ls)) w) := by
  have hM0 := hide hM
  have hL0 := hide hL
  obtain ⟨vd, vc, rfl, hD, hC⟩ := hM
  obtain ⟨Ad, cd, rfl, -, hld⟩ := hD.form
  obtain ⟨Ac, cc, rfl, -, hlc⟩ := hC.form
  obtain ⟨Al, cl, rfl, -, hll⟩ := hL.form
  obtain ⟨w0, hw0⟩ : ∃ w0, w0 = (w.alloc (.cells #[.slice Ad ds.length cd, .slice Ac cs.length cc] 26)).alloc (.cells #[.slice Al ls.length cl] 27) := ⟨_, rfl⟩
  have HX0 := hide (show Ext w w0 by rw [hw0]; exact ((Ext.refl w).alloc _).alloc _)
  have k0 : w0.cell? ⟨w.heap.size, 0, none⟩ = some (.slice Ad ds.length cd) := by rw [hw0]; go_simp
  have k1 : w0.cell? ⟨w.heap.size, 1, none⟩ = some (.slice Ac cs.length cc) := by rw [hw0]; go_simp
  have k2 : w0.cell? ⟨w.heap.size + 1, 0, none⟩ = some (.slice Al ls.length cl) := by rw [hw0]; go_simp
  have ks : w.heap.size + 1 < w0.heap.size := by rw [hw0]; simp
  have ks0 : w.heap.size < w0.heap.size := by omega
  clear hD hC hL
  go_enter Tryz.func10, Tryz.ntmps10
  go_wp2_with fail
  rw [← hw0]
  clear hw0
  refine (litsOk_any _ _ ds cs ls _ (hM0.out.ext HX0.out) (hL0.out.ext HX0.out) (fun i _ => fits_all (con0 cs i))).mono ?_
  rintro e w1 ⟨rfl, hx1⟩
  rw [show (vMod ds cs && (inR ds.length 1 4 && okCl ls ds.length)) = (vMod ds cs && okCl ls ds.length) by
    cases h : vMod ds cs
    · rfl
    · obtain ⟨-, g1, g4⟩ := vMod_good h
      rw [show inR (ds.length : Int) 1 4 = true by simp [inR]; omega, Bool.true_and]]
  have k0 := (hx1.cells _ _ ks0).trans k0
  have k1 := (hx1.cells _ _ ks0).trans k1
  have k2 := (hx1.cells _ _ ks).trans k2
  have ks := Nat.lt_of_lt_of_le ks hx1.size
  have HX1 := hide (HX0.out.trans hx1)
  clear hx1
  cases hq : vMod ds cs && okCl ls ds.length with
  | false =>
    have HV := hide (show ngV ds cs ls = false by rw [ngV, hq]; rfl)
    clear hq
    go_wp2
    go_ret
    exact Ret.mk (ret_b HV.out.symm) HX1.out
  | true =>
    have HV := hide (show ngV ds cs ls = ngB cs ds ls by rw [ngV, hq]; rfl)
    obtain ⟨hv, hok⟩ := Bool.and_eq_true_iff.1 hq
    obtain ⟨hG, h1, h4⟩ := vMod_good hv
    have HG := hide hG
    have HOK := hide hok
    clear hG hok hv hq
    go_wp2_with fail
    refine (solutions_any _ ds cs _ (hM0.out.ext HX1.out) HG.out h1 h4).mono ?_
    rintro e w2 ⟨A, c, rfl, hA, hx2⟩
    have HS := hide (sol_rows2 hA h4)
    have HX2 := hide (HX1.out.trans hx2)
    have k2 := (hx2.cells _ _ ks).trans k2
    have ks := Nat.lt_of_lt_of_le ks hx2.size
    have HK2 := hide k2
    have HNB := hide (show ngB cs ds ls = !anyB (fun i => allT (rw0 (solL cs ds) i) ls) (solL cs ds).length from rfl)
    clear hA hx2 k0 k1 k2
    go_wp2_with fail
    refine (ContainsFuncR_any _ (solL cs ds) 24 #[.pointer (some ⟨w.heap.size + 1, 0, none⟩)] (fun i => allT (rw0 (solL cs ds) i) ls) _ HS.out (callFunc_body Tryz.func24 (by decide) rfl)
      (hide fun i hi rv W hW hr => IsNogood1_any _ _ (rw0 (solL cs ds) i) ls _ W hr (hL0.out.ext (HX2.out.trans hW)) ((hW.cells _ _ ks).trans HK2.out) (by rw [(rw0_sol hi).1]; exact HOK.out) (rw0_sol hi).2)).mono ?_
    rintro e w3 ⟨rfl, hx3⟩
    have HX3 := hide (HX2.out.trans hx3)
    clear hx3
    go_wp2
    go_ret
    exact Ret.mk (ret_b (by rw [HV.out, HNB.out])) HX3.out
end Go.Proofs.YtfejhenbpnijhaaGreat
