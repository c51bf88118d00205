/- propagate of the program. -/
import Derived.Test.YtgeflejmdlipmaaFix
namespace Go.Proofs.Ytgeflejmdlipmaa
open Go.RowKit

/-- v is a model that reads as these domains and constraints. -/
def SMod (w : World) (v : Value) (ds : List Int) (cs : List Con) : Prop := ∃ vd vc, v = .agg #[vd, vc] ∧ SInts w vd ds ∧ SCons w vc cs
theorem SMod.ext {w w' : World} {v : Value} {ds : List Int} {cs : List Con} (h : SMod w v ds cs) (hx : Ext w w') : SMod w' v ds cs := by
  obtain ⟨vd, vc, h1, h2, h3⟩ := h
  exact ⟨vd, vc, h1, h2.ext hx, h3.ext hx⟩
set_option maxRecDepth 100000 in
set_option maxHeartbeats 4000000 in
theorem filtered_any (v vd : Value) (D ds : List Int) (cs : List Con) (w : World) (hM : SMod w v D cs) (hD : SInts w vd ds) (hG : GoodD cs ds.length ds) :
    Calls Try.prog 56 #[v, vd] w (OwnOr vd ds (stepL cs ds) w) := by
  obtain ⟨ve, vc, rfl, hE, hC⟩ := hM
  have hD0 := hide hD
  have HG := hide hG
  obtain ⟨Ae, ce, rfl, -, hle⟩ := hE.form
  obtain ⟨Ac, cc, rfl, -, hlc⟩ := hC.form
  obtain ⟨Ad, cd, rfl, -, hld⟩ := hD.form
  have hx0 := (Ext.refl w).alloc (.cells #[.slice Ae D.length ce, .slice Ac cs.length cc] 26)
  have HX0 := hide hx0
  have hC0 := hide (hC.ext hx0)
  have hDX := hide (hD.ext hx0)
  clear hE hC hD hG hx0
  go_enter Try.func56, Try.ntmps56
  go_wp2
  go_loopw [1, 10] (fun d i wr => ∃ k : Nat, i = .int .i64 k ∧ k ≤ cs.length ∧ Ext w wr ∧ Ext (w.alloc (.cells #[.slice Ae D.length ce, .slice Ac cs.length cc] 26)) wr ∧ SInts wr d (stepK cs ds k) ∧ ((k = 0 ∧ d = .slice Ad ds.length cd) ∨ OwnRes (stepK cs ds k) w (.returned d) wr)) (fun _ i _ => cs.length - (intOf i).toNat)
  case atStart => exact ⟨0, rfl, Nat.zero_le _, HX0.out, Ext.refl _, hDX.out, .inl ⟨rfl, rfl⟩⟩
  case round =>
    obtain ⟨k, rfl, hk, hx, hx1, hS, hO⟩ := hrel
    have HX := hide hx
    have HX1 := hide hx1
    have HS := hide hS
    obtain ⟨Gk, Sk⟩ := HG.out.stepK k hk
    have hkl : (stepK cs ds k).length = ds.length := Gk.1
    obtain ⟨A, c, rfl, -, hlk⟩ := hS.form
    have HO := hide hO
    have HGK := hide Gk
    have HKL := hide hkl
    clear hx hS hO Gk Sk
    by_cases hlt : k < cs.length
    · have hkI : (k : Int) < cs.length := by omega
      obtain ⟨b, off, rfl, hbl, vv, va, vr, f1, f2, f3, f4, f5, s1, s2, s3⟩ := (hC0.out.ext hx1).at_ hlt
      obtain ⟨Av, cv, rfl, -, -⟩ := s1.form
      obtain ⟨Aa, ca, rfl, -, -⟩ := s2.form
      obtain ⟨Ar, cr, rfl, -, -⟩ := s3.form
      have HC := hide (show SCon wr (.agg #[.int .i64 (con0 cs k).kk, .slice Av (con0 cs k).vars.length cv, .slice Aa (con0 cs k).args.length ca, .int .i64 (con0 cs k).bound, .slice Ar (con0 cs k).rows.length cr]) (con0 cs k) from ⟨_, _, _, rfl, s1, s2, s3⟩)
      have HV := hide (show vCon (con0 cs k) (stepK cs ds k).length = true by rw [HKL.out]; exact HG.out.2.2 k hlt)
      clear s1 s2 s3 hx1 hkl
      go_wp2_with fail
      have hxa := (Ext.refl wr).alloc (.cells #[.int .i64 (con0 cs k).kk, .slice Av (con0 cs k).vars.length cv, .slice Aa (con0 cs k).args.length ca, .int .i64 (con0 cs k).bound, .slice Ar (con0 cs k).rows.length cr] 54)
      refine (filter_any _ _ (con0 cs k) (stepK cs ds k) _ (HC.out.ext hxa) (HS.out.ext hxa) HV.out HGK.out.2.1).mono ?_
      rintro e w2 ⟨A2, c2, b2, m2, g2, rfl, hc2, hb2, hn2, ho2, hx2⟩
      have hxx := hxa.trans hx2
      have HXX := hide hxx
      obtain ⟨Gn, Sn⟩ := HGK.out.filt (i := k) hlt
      have HK1 := hide (show stepK cs ds (k + 1) = filtL (con0 cs k) (stepK cs ds k) from rfl)
      have HOR := hide (show OwnRes (stepK cs ds (k + 1)) w (.returned (.slice A2 (filtL (con0 cs k) (stepK cs ds k)).length c2)) w2 from ⟨A2, c2, b2, m2, g2, rfl, hc2, hb2, Nat.le_trans (HX.out.trans hxa).size hn2, ho2, HX.out.trans hxx⟩)
      have HSN := hide (show SInts w2 (.slice A2 (filtL (con0 cs k) (stepK cs ds k)).length c2) (stepK cs ds (k + 1)) from SInts.own hc2 hb2 ho2 (fun i hi => by have := Gn.2.1 i hi; unfold I64; omega))
      obtain ⟨L, hL⟩ : ∃ L, L = (filtL (con0 cs k) (stepK cs ds k)).length := ⟨_, rfl⟩
      rw [← hL] at HOR HSN ⊢
      clear hxa hx2 hxx ho2 hn2 hb2 hc2 Gn Sn hL
      go_wp2
      go_roundw
      case rel => exact ⟨k + 1, by go_num, by omega, HX.out.trans HXX.out, HX1.out.trans HXX.out, HSN.out, .inr HOR.out⟩
      case measure => simp [intOf]; omega
    · obtain rfl : k = cs.length := by omega
      have hkI : ¬ ((cs.length : Int) < cs.length) := by omega
      have HQ := hide (show OwnOr (.slice Ad ds.length cd) ds (stepL cs ds) w (.returned (.slice A (stepK cs ds cs.length).length c)) wr from by
        rcases HO.out with ⟨h0, h1⟩ | h1
        · refine .inr ⟨by rw [h1], ?_, HX.out⟩
          unfold stepL; rw [h0]; rfl
        · exact .inl h1)
      obtain ⟨L, hL⟩ : ∃ L, L = (stepK cs ds cs.length).length := ⟨_, rfl⟩
      rw [← hL] at HQ ⊢
      clear hL
      go_wp2
      go_ret
      exact HQ.out
set_option maxHeartbeats 4000000 in
theorem propagate_any (v vd : Value) (D ds : List Int) (cs : List Con) (w : World) (hM : SMod w v D cs) (hD : SInts w vd ds) (hG : GoodD cs ds.length ds) (h4 : ds.length ≤ 4) (h1 : 0 < ds.length) :
    Calls Try.prog 28 #[v, vd] w (OwnRes (propL cs ds) w) := by
  have hM0 := hide hM
  have hD0 := hide hD
  have HG := hide hG
  obtain ⟨ve, vc, rfl, hE, hC⟩ := hM
  obtain ⟨Ae, ce, rfl, -, hle⟩ := hE.form
  obtain ⟨Ac, cc, rfl, -, hlc⟩ := hC.form
  obtain ⟨Ad, cd, rfl, -, hld⟩ := hD.form
  have hx0 := (Ext.refl w).alloc (.cells #[.slice Ae D.length ce, .slice Ac cs.length cc] 26)
  have HX0 := hide hx0
  clear hE hC hD hG hx0
  go_enter Try.func28, Try.ntmps28
  go_wp2_with fail
  refine (fixpointB_any _ ds 56 (.agg #[.slice Ae D.length ce, .slice Ac cs.length cc]) (stepL cs) (GoodD cs ds.length) _ (hD0.out.ext HX0.out) HG.out (stepOK cs ds.length) h4 h1 (fun args W => callFunc_body Try.func56 (by kernel_rfl) (by kernel_rfl) args W)
    (hide fun now v' W hW hS hgn => filtered_any _ v' D now cs W (hM0.out.ext (HX0.out.trans hW)) hS (by have h := hgn; rw [← h.1] at h; exact h))).mono ?_
  rintro e w2 hres
  obtain ⟨A2, c2, b2, m2, g2, rfl, hc2, hb2, hn2, ho2, hx2⟩ := hres
  have HR := hide (show OwnRes (propL cs ds) w (.returned (.slice A2 (fixL (stepL cs) 300 ds).length c2)) w2 from ⟨A2, c2, b2, m2, g2, rfl, hc2, hb2, Nat.le_trans HX0.out.size hn2, ho2, HX0.out.trans hx2⟩)
  obtain ⟨L, hL⟩ : ∃ L, L = (fixL (stepL cs) 300 ds).length := ⟨_, rfl⟩
  rw [← hL] at HR ⊢
  clear hc2 hb2 hn2 ho2 hx2 hL
  go_wp2
  go_ret
  exact HR.out
end Go.Proofs.Ytgeflejmdlipmaa
