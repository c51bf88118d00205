/- The law's walk: FnBounds returns true. Printed by genlawbnf.py. -/
import Derived.Test.YtkjbefokgmiehaaGreatDoorDrwC
import Derived.Test.YtkjbefokgmiehaaGreatDoorLwD
import Derived.Test.YtkjbefokgmiehaaGreatDoorCsPl
import Derived.Deep.CutBlock
import Derived.Deep.DeepCutAuto
namespace Go.Proofs.YtkjbefokgmiehaaGreatDoor
open Go.RowKit

/-- What the law says. -/
theorem bounds_all {ds : List Int} {cs : List Con} (hv : vMod ds cs = true) : bndV ds cs = bndR cs ds ∧ prpV ds cs = propL cs ds ∧ GoodD cs ds.length (bndR cs ds) ∧ GoodD cs ds.length (propL cs ds) ∧ SubD (bndR cs ds) ds ∧ SubD (propL cs ds) (bndR cs ds) ∧ DomL ds ∧ 0 < ds.length ∧ ds.length ≤ 4 ∧
    (at0 (bndR cs ds) 0 = 0 ∨ (0 < at0 (bndR cs ds) 0 ∧ ∀ i, i < ds.length → (1 ≤ at0 (bndR cs ds) i ∧ at0 (bndR cs ds) i ≤ 63) ∧ ∀ k, k < cs.length → hasD (at0 (filtL (con0 cs k) (bndR cs ds)) i) (lowV (at0 (bndR cs ds) i) : Nat) = true ∧ hasD (at0 (filtL (con0 cs k) (bndR cs ds)) i) (topV (at0 (bndR cs ds) i) : Nat) = true)) := by
  obtain ⟨hG, hp, h4⟩ := vMod_good hv
  obtain ⟨hg, hs, hc⟩ := bndR_R hG h4
  refine ⟨by rw [bndV, if_pos hv], by rw [prpV, if_pos hv], hg, (propL_R hG h4).good, hs, prop_bnd hG h4, hG.2.1, hp, h4, ?_⟩
  rcases hc with hz | ⟨h0, he⟩
  · refine .inl ?_
    rw [hz]
    exact zer_at _ _
  · have hne : ∀ i, i < ds.length → 1 ≤ at0 (bndR cs ds) i ∧ at0 (bndR cs ds) i ≤ 63 := fun i hi => by
      have hil : i < (bndR cs ds).length := by rw [hg.1]; exact hi
      have h1 := hg.2.1 i hil
      have h2 : at0 (bndR cs ds) i ≠ 0 := fun e => by
        have := hasI_iff.2 ⟨i, hil, e⟩
        rw [h0] at this; cases this
      omega
    refine .inr ⟨by have := hne 0 hp; omega, fun i hi => ⟨hne i hi, fun k hk => ?_⟩⟩
    obtain ⟨q1, q2⟩ := bnd_supp hG h4 h0 hp hk hi
    obtain ⟨b0, b1⟩ := hg.2.1 i (by rw [hg.1]; exact hi)
    obtain ⟨v, v6, hv2⟩ := has_one9 b0 b1 (by have := hne i hi; omega)
    obtain ⟨l6, -, -⟩ := lowV_le b0 b1 v6 hv2
    obtain ⟨t6, -, -⟩ := topV_le b0 b1 v6 hv2
    have hf := (hg.filt hk).1
    obtain ⟨f0, f1⟩ := hf.2.1 i (by rw [hf.1]; exact hi)
    have hD : ∀ u : Nat, u < 6 → hasB (at0 (filtL (con0 cs k) (bndR cs ds)) i) u = true → hasD (at0 (filtL (con0 cs k) (bndR cs ds)) i) (u : Int) = true := fun u hu hh => by
      simp only [hasD, vDom, inR, Bool.and_eq_true, decide_eq_true_eq, Int.toNat_natCast]
      exact ⟨by omega, by omega, hh⟩
    exact ⟨hD _ l6 q1, hD _ t6 q2⟩
set_option maxRecDepth 100000 in
set_option maxHeartbeats 16000000 in
theorem lawBounds (v : Value) (n : Nat) (w : World) (hT : TzTab w) (hb : 1 < w.heap.size) (hB : SBytes w v n) (_hn : n ≤ 140737488351232) :
    Calls Tryz.prog 3 #[v] w (Ret (.bool true) w) := by
  have HB := hide hB
  have HT := hide hT
  clear hT
  obtain ⟨A, c, rfl, -⟩ := hB
  by_cases hl : (1048576 : Int) < n
  · go_enter Tryz.func3, Tryz.ntmps3
    go_wp2
    go_ret
    exact Ret.mk rfl (Ext.refl _)
  · go_enter Tryz.func3, Tryz.ntmps3
    go_wp2_with fail
    refine (DrawBoundsPropagate_any _ n _ HB.out).mono ?_
    rintro e wd ⟨vd, vc, ds, cs, rfl, hD, hC, hd1, hd4, hx1⟩
    obtain ⟨Ad, cd, rfl, -, hld⟩ := hD.form
    obtain ⟨Ac, cc, rfl, -, hlc⟩ := hC.form
    have HX1 := hide hx1
    have HD1 := hide hD
    have HC1 := hide hC
    clear hx1 hD hC
    go_upto_region 4 with fail
    obtain ⟨w0, hw0⟩ : ∃ w0, w0 = wd.alloc (.cells #[.slice Ad ds.length cd, .slice Ac cs.length cc] 26) := ⟨_, rfl⟩
    have hx0 : Ext wd w0 := by rw [hw0]; exact (Ext.refl wd).alloc _
    have k0 : w0.cell? ⟨wd.heap.size, 0, none⟩ = some (.slice Ad ds.length cd) := by rw [hw0]; go_simp
    have k1 : w0.cell? ⟨wd.heap.size, 1, none⟩ = some (.slice Ac cs.length cc) := by rw [hw0]; go_simp
    have ks_w0 : wd.heap.size < w0.heap.size := by rw [hw0]; simp
    rw [← hw0]
    clear hw0
    have HX0 := hide (HX1.out.trans hx0)
    have HD0 := hide (HD1.out.ext hx0)
    have HC0 := hide (HC1.out.ext hx0)
    have HM0 := hide (show SMod w0 (.agg #[.slice Ad ds.length cd, .slice Ac cs.length cc]) ds cs from ⟨_, _, rfl, HD1.out.ext hx0, HC1.out.ext hx0⟩)
    clear hx0 HX1 HD1 HC1
    have HX_w0 := hide (Ext.refl w0)
    obtain ⟨xs, hxs⟩ : ∃ xs, xs = bndV ds cs := ⟨_, rfl⟩
    have HI64 := hide (show ∀ j, j < xs.length → I64 (at0 xs j) by rw [hxs]; exact bndV_i64 ds cs)
    have HXS := hide hxs
    clear hxs
    go_wp2_with fail
    refine (BoundsPropagateI_any _ ds cs _ (HM0.out.ext HX_w0.out) (TzTab.ext HT.out hb (HX0.out.trans HX_w0.out)) (Nat.lt_of_lt_of_le hb (HX0.out.trans HX_w0.out).size)).mono ?_
    rintro e w1 hres
    rw [← HXS.out] at hres
    have hx : Ext w0 w1 := by obtain ⟨_, _, _, _, _, _, _, _, _, _, hx⟩ := hres; exact hx
    obtain ⟨A_d, c_d, he⟩ : ∃ A c, e = .returned (.slice A xs.length c) := by obtain ⟨A3, c3, _, _, _, h, _⟩ := hres; exact ⟨A3, c3, h⟩
    subst he
    have HS_d := hide (hres.ints HI64.out)
    have HX_w1 := hide (HX_w0.out.trans hx)
    have ks_w1 := Nat.lt_of_lt_of_le ks_w0 hx.size
    have k0 := (hx.cells _ _ ks_w0).trans k0
    have k1 := (hx.cells _ _ ks_w0).trans k1
    clear hres hx
    go_wp2_with fail
    refine (BoundsPropagateS_any _ ds cs _ (HM0.out.ext HX_w1.out)).mono ?_
    rintro e w2 hres
    rw [← HXS.out] at hres
    have hx : Ext w1 w2 := by obtain ⟨_, _, _, _, _, _, _, _, _, _, hx⟩ := hres; exact hx
    obtain ⟨A_e, c_e, he⟩ : ∃ A c, e = .returned (.slice A xs.length c) := by obtain ⟨A3, c3, _, _, _, h, _⟩ := hres; exact ⟨A3, c3, h⟩
    subst he
    have HS_e := hide (hres.ints HI64.out)
    have HX_w2 := hide (HX_w1.out.trans hx)
    have ks_w2 := Nat.lt_of_lt_of_le ks_w1 hx.size
    have k0 := (hx.cells _ _ ks_w1).trans k0
    have k1 := (hx.cells _ _ ks_w1).trans k1
    have HS_d := hide (HS_d.out.ext hx)
    clear hres hx
    go_wp2_with fail
    refine (equalInts_any _ _ xs xs _ HS_d.out HS_e.out).mono ?_
    rintro e w3 ⟨rfl, hx⟩
    rw [show decide (xs = xs) = true by simp]
    have HX_w3 := hide (HX_w2.out.trans hx)
    have ks_w3 := Nat.lt_of_lt_of_le ks_w2 hx.size
    have k0 := (hx.cells _ _ ks_w2).trans k0
    have k1 := (hx.cells _ _ ks_w2).trans k1
    have HS_d := hide (HS_d.out.ext hx)
    have HS_e := hide (HS_e.out.ext hx)
    clear hx
    by_cases hz : xs.length = 0
    · have hzb : ((xs.length : Int) == 0) = true := by simp [hz]
      have HZ := hide hz
      clear hz
      go_wp2_with fail
      refine (BoundsPropagateS_any _ ds cs _ (HM0.out.ext HX_w3.out)).mono ?_
      rintro e w4 hres
      rw [← HXS.out] at hres
      have hx : Ext w3 w4 := by obtain ⟨_, _, _, _, _, _, _, _, _, _, hx⟩ := hres; exact hx
      obtain ⟨A_f, c_f, he⟩ : ∃ A c, e = .returned (.slice A xs.length c) := by obtain ⟨A3, c3, _, _, _, h, _⟩ := hres; exact ⟨A3, c3, h⟩
      subst he
      have HS_f := hide (hres.ints HI64.out)
      have HX_w4 := hide (HX_w3.out.trans hx)
      have ks_w4 := Nat.lt_of_lt_of_le ks_w3 hx.size
      have k0 := (hx.cells _ _ ks_w3).trans k0
      have k1 := (hx.cells _ _ ks_w3).trans k1
      have HS_d := hide (HS_d.out.ext hx)
      have HS_e := hide (HS_e.out.ext hx)
      clear hres hx
      go_wp2_with fail
      refine (equalInts_any _ _ xs xs _ HS_d.out HS_f.out).mono ?_
      rintro e w5 ⟨rfl, hx⟩
      rw [show decide (xs = xs) = true by simp]
      have HX_w5 := hide (HX_w4.out.trans hx)
      have ks_w5 := Nat.lt_of_lt_of_le ks_w4 hx.size
      have k0 := (hx.cells _ _ ks_w4).trans k0
      have k1 := (hx.cells _ _ ks_w4).trans k1
      have HS_d := hide (HS_d.out.ext hx)
      have HS_e := hide (HS_e.out.ext hx)
      have HS_f := hide (HS_f.out.ext hx)
      clear hx
      go_wp2_with fail
      go_ret
      exact Ret.mk rfl (HX0.out.trans HX_w5.out)
    · have hzb : ((xs.length : Int) == 0) = false := by rw [beq_eq_false_iff_ne]; omega
      have hv : vMod ds cs = true := by
        cases h : vMod ds cs with
        | true => rfl
        | false => exact absurd (by rw [HXS.out, bndV, h]; rfl) hz
      obtain ⟨q1, q2, g1, g2, s1, s2, dd, hp, h4, q3⟩ := bounds_all hv
      rw [← HXS.out] at q1
      rw [← q1] at g1 s1 s2 q3
      obtain ⟨ps, hps⟩ : ∃ ps, ps = propL cs ds := ⟨_, rfl⟩
      rw [← hps] at q2 g2 s2
      have hxl : 0 < xs.length := by rw [g1.1]; exact hp
      have hxl4 : xs.length ≤ 4 := by rw [g1.1]; exact h4
      have Q2 := hide q2
      have Q3 := hide q3
      have G1 := hide g1
      have G2 := hide g2
      have S1 := hide s1
      have S2 := hide s2
      have DD := hide dd
      have HXN := hide g1.1
      clear hz hv q1 q2 q3 g1 g2 s1 s2 hps HXS dd
      obtain ⟨bd, od, had, hbd, fd⟩ := HS_d.out.at_ hxl
      subst had
      have fd : w3.cell? ⟨bd, od, none⟩ = some (.int .i64 (at0 xs 0)) := fd
      have FD := hide fd
      have hxI : (0 : Int) < xs.length := by omega
      have K0 := hide k0
      have K1 := hide k1
      clear k0 k1 fd
      obtain ⟨wb, hwb⟩ : ∃ wb, wb = w3 := ⟨w3, rfl⟩
      subst hwb
      go_wp2_with fail
      go_loopw [5] (fun i wr => ∃ k : Nat, i = .int .i64 k ∧ k ≤ cs.length ∧ Ext wb wr) (fun i _ => cs.length - (intOf i).toNat)
      case atStart => exact ⟨0, rfl, Nat.zero_le _, Ext.refl wb⟩
      case round =>
        obtain ⟨k, rfl, hk, hx⟩ := hrel
        have HX_wr := hide (HX_w3.out.trans hx)
        have ks_wr := Nat.lt_of_lt_of_le ks_w3 hx.size
        have k0 := (hx.cells _ _ ks_w3).trans K0.out
        have k1 := (hx.cells _ _ ks_w3).trans K1.out
        have fd := (hx.cells _ _ hbd).trans FD.out
        have HS_d := hide (HS_d.out.ext hx)
        have HXB := hide hx
        clear hx
        by_cases hkl : k < cs.length
        · have hkI : (k : Int) < cs.length := by omega
          rcases Q3.out with hz | ⟨hz, hall⟩
          · have hzd : ¬ (0 < at0 xs 0) := by omega
            clear hz
            go_wp2_with fail
            refine (contained_any _ _ xs ds _ HS_d.out (HD0.out.ext HX_wr.out) S1.out G1.out.2.1 DD.out).mono ?_
            rintro e w61 ⟨rfl, hx⟩
            have HX_w61 := hide (HX_wr.out.trans hx)
            have ks_w61 := Nat.lt_of_lt_of_le ks_wr hx.size
            have k0 := (hx.cells _ _ ks_wr).trans k0
            have k1 := (hx.cells _ _ ks_wr).trans k1
            have HS_d := hide (HS_d.out.ext hx)
            clear hx
            go_wp2_with fail
            refine (PropagateI_any _ ds cs _ (HM0.out.ext HX_w61.out)).mono ?_
            rintro e w62 hres
            rw [Q2.out] at hres
            have hx : Ext w61 w62 := by obtain ⟨_, _, _, _, _, _, _, _, _, _, hx⟩ := hres; exact hx
            obtain ⟨A_p, c_p, he⟩ : ∃ A c, e = .returned (.slice A ps.length c) := by obtain ⟨A3, c3, _, _, _, h, _⟩ := hres; exact ⟨A3, c3, h⟩
            subst he
            have HS_p := hide (hres.ints G2.out.i64)
            have HX_w62 := hide (HX_w61.out.trans hx)
            have ks_w62 := Nat.lt_of_lt_of_le ks_w61 hx.size
            have k0 := (hx.cells _ _ ks_w61).trans k0
            have k1 := (hx.cells _ _ ks_w61).trans k1
            have HS_d := hide (HS_d.out.ext hx)
            clear hres hx
            go_wp2_with fail
            refine (contained_any _ _ ps xs _ HS_p.out HS_d.out S2.out G2.out.2.1 G1.out.2.1).mono ?_
            rintro e w63 ⟨rfl, hx⟩
            have HX_w63 := hide (HX_w62.out.trans hx)
            have ks_w63 := Nat.lt_of_lt_of_le ks_w62 hx.size
            have k0 := (hx.cells _ _ ks_w62).trans k0
            have k1 := (hx.cells _ _ ks_w62).trans k1
            have HS_d := hide (HS_d.out.ext hx)
            have HS_p := hide (HS_p.out.ext hx)
            clear hx
            go_wp2_with fail
            go_ret
            exact Ret.mk rfl (HX0.out.trans HX_w63.out)
          · have HALL := hide hall
            clear hall
            obtain ⟨b, off, hae, hbl, vv, va, vr, f1, f2, f3, f4, f5, s1, s2, s3⟩ := (HC0.out.ext HX_wr.out).at_ hkl
            subst hae
            obtain ⟨Av, cv, rfl, -, -⟩ := s1.form
            obtain ⟨Aa, ca, rfl, -, -⟩ := s2.form
            obtain ⟨Ar, cr, rfl, -, -⟩ := s3.form
            have HC := hide (show SCon wr (.agg #[.int .i64 (con0 cs k).kk, .slice Av (con0 cs k).vars.length cv, .slice Aa (con0 cs k).args.length ca, .int .i64 (con0 cs k).bound, .slice Ar (con0 cs k).rows.length cr]) (con0 cs k) from ⟨_, _, _, rfl, s1, s2, s3⟩)
            clear s1 s2 s3
            go_wp2_with fail
            refine (FilterI_any _ _ (con0 cs k) xs _ HC.out HS_d.out (by omega) hxl4 (by rw [HXN.out]; exact G1.out.2.2 k hkl) G1.out.2.1).mono ?_
            rintro e w4 hres
            obtain ⟨fs, hfs⟩ : ∃ fs, fs = filtL (con0 cs k) xs := ⟨_, rfl⟩
            rw [← hfs] at hres
            have hfg := (G1.out.filt hkl).1
            rw [← hfs] at hfg
            have FG := hide hfg
            have HFS := hide hfs
            have hx : Ext wr w4 := by obtain ⟨_, _, _, _, _, _, _, _, _, _, hx⟩ := hres; exact hx
            obtain ⟨A_f, c_f, he⟩ : ∃ A c, e = .returned (.slice A fs.length c) := by obtain ⟨A3, c3, _, _, _, h, _⟩ := hres; exact ⟨A3, c3, h⟩
            subst he
            have HS_f := hide (hres.ints FG.out.i64)
            have hfl : fs.length = xs.length := by rw [HXN.out]; exact FG.out.1
            have HFL := hide hfl
            have HX_w4 := hide (HX_wr.out.trans hx)
            have HXB4 := hide (HXB.out.trans hx)
            have ks_w4 := Nat.lt_of_lt_of_le ks_wr hx.size
            have HS_d := hide (HS_d.out.ext hx)
            clear hx hres hfs hfg hfl f1 f2 f3 f4 f5 k0 k1 fd
            go_wp2_with fail
            go_loopw [7] (fun i wz => ∃ v : Nat, i = .int .i64 v ∧ v ≤ xs.length ∧ Ext w4 wz) (fun i _ => xs.length - (intOf i).toNat)
            case atStart => exact ⟨0, rfl, Nat.zero_le _, Ext.refl w4⟩
            case round =>
              rename_i wq
              obtain ⟨v, rfl, hv, hx⟩ := hrel
              by_cases hvl : v < xs.length
              · have hvI : (v : Int) < xs.length := by omega
                have hvf : v < fs.length := by have := HFL.out; omega
                have hvfI : (v : Int) < fs.length := by omega
                obtain ⟨b', off', hae', hbl', e1⟩ := (HS_d.out.ext hx).at_ hvl
                injection hae' with hae'
                injection hae' with hb1 hb2
                subst hb1 hb2
                obtain ⟨b2, off2, hae2, hbl2, e2⟩ := (HS_f.out.ext hx).at_ hvf
                subst hae2
                obtain ⟨hb63, hsup⟩ := HALL.out v (by rw [← HXN.out]; exact hvl)
                obtain ⟨h1, h2⟩ := hsup k hkl
                rw [← HFS.out] at h1 h2
                obtain ⟨d, hd⟩ : ∃ d : Nat, at0 xs v = d := ⟨(at0 xs v).toNat, by omega⟩
                rw [hd] at e1 hb63 h1 h2
                have H1 := hide h1
                have H2 := hide h2
                have HTW := hide (TzTab.ext HT.out hb (HX0.out.trans (HX_w4.out.trans hx)))
                clear h1 h2 hd hsup
                go_wp2_with fail
                refine (DomainBoundsI_any d (by omega) (by omega) _ HTW.out).mono ?_
                rintro e w9 ⟨rfl, rfl⟩
                go_wp2_with fail
                refine (DomainHasI_any _ _ _).mono ?_
                rintro e w9 ⟨rfl, rfl⟩
                rw [H1.out]
                go_wp2_with fail
                refine (DomainHasI_any _ _ _).mono ?_
                rintro e w9 ⟨rfl, rfl⟩
                rw [H2.out]
                go_wp2_with fail
                go_roundw
                case rel => exact ⟨v + 1, by go_num, by omega, hx⟩
                case measure => simp [intOf]; omega
              · obtain rfl : v = xs.length := by omega
                have hvI : ¬ ((xs.length : Int) < xs.length) := by omega
                have HXE := hide (HXB4.out.trans hx)
                clear hx
                go_wp2_with fail
                go_roundw
                case rel => exact ⟨k + 1, by go_num, by omega, HXE.out⟩
                case measure => simp [intOf]; omega
        · obtain rfl : k = cs.length := by omega
          have hkI : ¬ ((cs.length : Int) < cs.length) := by omega
          go_wp2_with fail
          refine (contained_any _ _ xs ds _ HS_d.out (HD0.out.ext HX_wr.out) S1.out G1.out.2.1 DD.out).mono ?_
          rintro e w61 ⟨rfl, hx⟩
          have HX_w61 := hide (HX_wr.out.trans hx)
          have ks_w61 := Nat.lt_of_lt_of_le ks_wr hx.size
          have k0 := (hx.cells _ _ ks_wr).trans k0
          have k1 := (hx.cells _ _ ks_wr).trans k1
          have HS_d := hide (HS_d.out.ext hx)
          clear hx
          go_wp2_with fail
          refine (PropagateI_any _ ds cs _ (HM0.out.ext HX_w61.out)).mono ?_
          rintro e w62 hres
          rw [Q2.out] at hres
          have hx : Ext w61 w62 := by obtain ⟨_, _, _, _, _, _, _, _, _, _, hx⟩ := hres; exact hx
          obtain ⟨A_p, c_p, he⟩ : ∃ A c, e = .returned (.slice A ps.length c) := by obtain ⟨A3, c3, _, _, _, h, _⟩ := hres; exact ⟨A3, c3, h⟩
          subst he
          have HS_p := hide (hres.ints G2.out.i64)
          have HX_w62 := hide (HX_w61.out.trans hx)
          have ks_w62 := Nat.lt_of_lt_of_le ks_w61 hx.size
          have k0 := (hx.cells _ _ ks_w61).trans k0
          have k1 := (hx.cells _ _ ks_w61).trans k1
          have HS_d := hide (HS_d.out.ext hx)
          clear hres hx
          go_wp2_with fail
          refine (contained_any _ _ ps xs _ HS_p.out HS_d.out S2.out G2.out.2.1 G1.out.2.1).mono ?_
          rintro e w63 ⟨rfl, hx⟩
          have HX_w63 := hide (HX_w62.out.trans hx)
          have ks_w63 := Nat.lt_of_lt_of_le ks_w62 hx.size
          have k0 := (hx.cells _ _ ks_w62).trans k0
          have k1 := (hx.cells _ _ ks_w62).trans k1
          have HS_d := hide (HS_d.out.ext hx)
          have HS_p := hide (HS_p.out.ext hx)
          clear hx
          go_wp2_with fail
          go_ret
          exact Ret.mk rfl (HX0.out.trans HX_w63.out)
end Go.Proofs.YtkjbefokgmiehaaGreatDoor
