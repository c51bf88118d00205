/- The law's walk: FnSingleton returns true. Printed by genlawsgf.py. -/
import Derived.Test.YtgeflejmdlipmaaDrw24
import Derived.Test.YtgeflejmdlipmaaLwC
import Derived.Test.YtgeflejmdlipmaaSng
import Derived.Test.YtgeflejmdlipmaaShvI
import Derived.Test.YtgeflejmdlipmaaQ0
import Derived.Deep.CutBlock
import Derived.Deep.DeepCutAuto
import Derived.Test.YtgeflejmdlipmaaOpnA
import Derived.ShutString
import Derived.ChangeOld
namespace Go.Proofs.Ytgeflejmdlipmaa
open Go.RowKit

theorem vMod_re {ds r : List Int} {cs : List Con} (h : vMod ds cs = true) (hg : GoodD cs ds.length r) : vMod r cs = true := by
  simp only [vMod, Bool.and_eq_true, Bool.not_eq_true', decide_eq_true_eq] at h ⊢
  obtain ⟨⟨h1, h2⟩, h3, h4⟩ := h
  rw [hg.1]
  refine ⟨⟨h1, allR_of fun j hj => ?_⟩, h3, h4⟩
  obtain ⟨d0, d1⟩ := hg.2.1 j hj
  simp only [inR, Bool.and_eq_true, decide_eq_true_eq]
  omega
theorem stepK_fix {cs : List Con} {n : Nat} {ds : List Int} (h : GoodD cs n ds) (he : stepL cs ds = ds) : ∀ i, i < cs.length → filtL (con0 cs i) ds = ds := by
  have hsub : ∀ m k, k + m ≤ cs.length → SubD (stepK cs ds (k + m)) (stepK cs ds k) := by
    intro m
    induction m with
    | zero => intro k _; exact SubD.refl _
    | succ m ih =>
      intro k hk
      exact SubD.trans (((h.stepK (k + m) (by omega)).1.filt (i := k + m) (by omega)).2) (ih k (by omega))
  have hall : ∀ k, k ≤ cs.length → stepK cs ds k = ds := fun k hk => by
    obtain ⟨g1, g2⟩ := h.stepK k hk
    have h3 := hsub (cs.length - k) k (by omega)
    rw [show k + (cs.length - k) = cs.length by omega, show stepK cs ds cs.length = ds from he] at h3
    exact SubD.antisymm g1.2.1 h.2.1 g2 h3
  intro i hi
  have := hall (i + 1) (by omega)
  rw [stepK, hall i (by omega)] at this
  exact this
/-- What the law says. -/
theorem sing_all {ds : List Int} {cs : List Con} (hv : vMod ds cs = true) : shvV ds cs = shaveL cs ds ∧ GoodD cs ds.length (shaveL cs ds) ∧ 0 < ds.length ∧ ds.length ≤ 4 ∧
    ((at0 (shaveL cs ds) 0 = 0) ∨ (0 < at0 (shaveL cs ds) 0 ∧ sngB (shaveL cs ds) cs = true)) ∧ (sngB ds cs = true → shaveL cs ds = ds ∧ iscV ds cs = true) := by
  obtain ⟨hG, hp, h4⟩ := vMod_good hv
  obtain ⟨hg, -, hc⟩ := shave_R hG h4
  refine ⟨by rw [shvV, if_pos hv], hg, hp, h4, ?_, fun hs => ?_⟩
  · rcases hc with hz | ⟨h0, he⟩
    · refine .inl ?_
      rw [hz]
      exact zer_at _ _
    · refine .inr ⟨?_, ?_⟩
      · have h1 := hg.2.1 0 (by rw [hg.1]; exact hp)
        have h2 : at0 (shaveL cs ds) 0 ≠ 0 := fun e => by
          have := hasI_iff.2 ⟨0, by rw [hg.1]; exact hp, e⟩
          rw [h0] at this; cases this
        omega
      · have := sing_of_fix hg h4 h0 he
        rw [sngB, vMod_re hv hg]
        exact this
  · have hs2 : singB cs ds = true := by
      rw [sngB, hv] at hs
      exact hs
    obtain ⟨-, h2, h3⟩ := fix_of_sing hG h4 hp hs2
    refine ⟨h3, ?_⟩
    have h0 : hasI ds 0 = false := by
      simp only [singB, Bool.and_eq_true, Bool.not_eq_true'] at hs2
      exact hs2.1
    rw [iscV, hv, h0, anyB_false.2 fun i hi => by rw [stepK_fix hG h2 i hi]; simp]
    rfl
set_option maxRecDepth 100000 in
set_option maxHeartbeats 16000000 in
theorem lawSingleton (v : Value) (n : Nat) (w : World) (hB : SBytes w v n) (_hn : n ≤ 140737488351232) :
    Calls Try.prog 4 #[v] w (Ret (.bool true) w) := by
  have HB := hide hB
  obtain ⟨A, c, rfl, -⟩ := hB
  by_cases hl : (1048576 : Int) < n
  · go_enter Try.func4, Try.ntmps4
    go_wp2
    go_ret
    exact Ret.mk rfl (Ext.refl _)
  · go_enter Try.func4, Try.ntmps4
    go_wp2_with fail
    refine (DrawIsSingletonConsistent_any _ n _ HB.out).mono ?_
    rintro e wd ⟨vd, vc, ds, cs, rfl, hD, hC, hd1, hd4, hx1⟩
    obtain ⟨Ad, cd, rfl, -, hld⟩ := hD.form
    obtain ⟨Ac, cc, rfl, -, hlc⟩ := hC.form
    have HX1 := hide hx1
    have HD1 := hide hD
    have HC1 := hide hC
    clear hx1 hD hC
    go_upto_region 4 with fail
    obtain ⟨w0, hw0⟩ : ∃ w0, w0 = wd.alloc (.cells #[.slice Ad ds.length cd, .slice Ac cs.length cc] 26) := ⟨_, rfl⟩
    have hx0 : Ext wd w0 := by rw [hw0]; exact (Ext.refl wd).alloc _
    have k0 : w0.cell? ⟨wd.heap.size, 0, none⟩ = some (.slice Ad ds.length cd) := by rw [hw0]; go_simp
    have k1 : w0.cell? ⟨wd.heap.size, 1, none⟩ = some (.slice Ac cs.length cc) := by rw [hw0]; go_simp
    have ks_w0 : wd.heap.size < w0.heap.size := by rw [hw0]; simp
    rw [← hw0]
    clear hw0
    have HX0 := hide (HX1.out.trans hx0)
    have HD0 := hide (HD1.out.ext hx0)
    have HC0 := hide (HC1.out.ext hx0)
    have HM0 := hide (show SMod w0 (.agg #[.slice Ad ds.length cd, .slice Ac cs.length cc]) ds cs from ⟨_, _, rfl, HD1.out.ext hx0, HC1.out.ext hx0⟩)
    clear hx0 HX1 HD1 HC1
    have HX_w0 := hide (Ext.refl w0)
    obtain ⟨b, hb⟩ : ∃ b, b = sngB ds cs := ⟨_, rfl⟩
    have HB := hide hb
    clear hb
    go_wp2_with fail
    refine (IsSingletonConsistentI_any _ ds cs _ (HM0.out.ext HX_w0.out)).mono ?_
    rintro e w1 ⟨rfl, hx⟩
    rw [← HB.out]
    have HX_w1 := hide (HX_w0.out.trans hx)
    have ks_w1 := Nat.lt_of_lt_of_le ks_w0 hx.size
    have k0 := (hx.cells _ _ ks_w0).trans k0
    have k1 := (hx.cells _ _ ks_w0).trans k1
    clear hx
    go_wp2_with fail
    refine (IsSingletonConsistentS_any _ ds cs _ (HM0.out.ext HX_w1.out)).mono ?_
    rintro e w2 ⟨rfl, hx⟩
    rw [← HB.out]
    have HX_w2 := hide (HX_w1.out.trans hx)
    have ks_w2 := Nat.lt_of_lt_of_le ks_w1 hx.size
    have k0 := (hx.cells _ _ ks_w1).trans k0
    have k1 := (hx.cells _ _ ks_w1).trans k1
    clear hx
    have hbb : (b != b) = false := by simp
    have hbe : (b == b) = true := by simp
    go_wp2_with fail
    refine (ValidModelI_any _ _ ds cs _ (HD0.out.ext HX_w2.out) (HC0.out.ext HX_w2.out) (fun i _ => fits_all (con0 cs i))).mono ?_
    rintro e w3 ⟨rfl, hx⟩
    have HX_w3 := hide (HX_w2.out.trans hx)
    have ks_w3 := Nat.lt_of_lt_of_le ks_w2 hx.size
    have k0 := (hx.cells _ _ ks_w2).trans k0
    have k1 := (hx.cells _ _ ks_w2).trans k1
    clear hx
    cases hv : vMod ds cs with
    | false =>
      clear hv
      go_wp2_with fail
      refine (IsSingletonConsistentS_any _ ds cs _ (HM0.out.ext HX_w3.out)).mono ?_
      rintro e w4 ⟨rfl, hx⟩
      rw [← HB.out]
      have HX_w4 := hide (HX_w3.out.trans hx)
      have ks_w4 := Nat.lt_of_lt_of_le ks_w3 hx.size
      have k0 := (hx.cells _ _ ks_w3).trans k0
      have k1 := (hx.cells _ _ ks_w3).trans k1
      clear hx
      go_wp2_with fail
      go_ret
      exact Ret.mk rfl (HX0.out.trans HX_w4.out)
    | true =>
      obtain ⟨q1, g1, hp, h4, q2, q3⟩ := sing_all hv
      obtain ⟨xs, hxs⟩ : ∃ xs, xs = shaveL cs ds := ⟨_, rfl⟩
      rw [← hxs] at q1 g1 q2 q3
      have Q1 := hide q1
      have G1 := hide g1
      have Q2 := hide q2
      have Q3 := hide q3
      have hxl : 0 < xs.length := by rw [g1.1]; exact hp
      clear hv q1 g1 q2 q3 hxs
      go_wp2_with fail
      refine (ShaveI_any _ ds cs _ (HM0.out.ext HX_w3.out)).mono ?_
      rintro e w21 hres
      rw [Q1.out] at hres
      have hx : Ext w3 w21 := by obtain ⟨_, _, _, _, _, _, _, _, _, _, hx⟩ := hres; exact hx
      obtain ⟨A_d, c_d, he⟩ : ∃ A c, e = .returned (.slice A xs.length c) := by obtain ⟨A3, c3, _, _, _, h, _⟩ := hres; exact ⟨A3, c3, h⟩
      subst he
      have HS_d := hide (hres.ints G1.out.i64)
      have HX_w21 := hide (HX_w3.out.trans hx)
      have ks_w21 := Nat.lt_of_lt_of_le ks_w3 hx.size
      have k0 := (hx.cells _ _ ks_w3).trans k0
      have k1 := (hx.cells _ _ ks_w3).trans k1
      clear hres hx
      obtain ⟨bd, od, had, hbd, fd⟩ := HS_d.out.at_ hxl
      subst had
      have fd : w21.cell? ⟨bd, od, none⟩ = some (.int .i64 (at0 xs 0)) := fd
      have hxI : (0 : Int) < xs.length := by omega
      rcases Q2.out with hz | ⟨hz, hsg⟩
      · have hzd : ¬ (0 < at0 xs 0) := by omega
        clear hz
        cases hq : b with
        | false =>
          go_wp2_with fail
          go_ret
          exact Ret.mk rfl (HX0.out.trans HX_w21.out)
        | true =>
          obtain ⟨he, hi⟩ := Q3.out (by rw [← HB.out]; exact hq)
          have HE := hide he
          have HI := hide hi
          clear he hi hq
          go_wp2_with fail
          refine (equalInts_any _ _ xs ds _ HS_d.out (HD0.out.ext HX_w21.out)).mono ?_
          rintro e w52 ⟨rfl, hx⟩
          rw [show decide (xs = ds) = true by rw [HE.out]; simp]
          have HX_w52 := hide (HX_w21.out.trans hx)
          have ks_w52 := Nat.lt_of_lt_of_le ks_w21 hx.size
          have k0 := (hx.cells _ _ ks_w21).trans k0
          have k1 := (hx.cells _ _ ks_w21).trans k1
          have HS_d := hide (HS_d.out.ext hx)
          clear hx
          go_wp2_with fail
          refine (IsConsistentI_any _ ds cs _ (HM0.out.ext HX_w52.out)).mono ?_
          rintro e w53 ⟨rfl, hx⟩
          rw [HI.out]
          have HX_w53 := hide (HX_w52.out.trans hx)
          have ks_w53 := Nat.lt_of_lt_of_le ks_w52 hx.size
          have k0 := (hx.cells _ _ ks_w52).trans k0
          have k1 := (hx.cells _ _ ks_w52).trans k1
          have HS_d := hide (HS_d.out.ext hx)
          clear hx
          go_wp2_with fail
          go_ret
          exact Ret.mk rfl (HX0.out.trans HX_w53.out)
      · have HSG := hide hsg
        clear hsg
        go_wp2_with fail
        refine (withDomains_any _ _ ds xs cs _ (HM0.out.ext HX_w21.out) HS_d.out hxl (by have := G1.out.1; omega) G1.out.i64).mono ?_
        rintro e wm ⟨vm, rfl, hm, hx⟩
        obtain ⟨vd', vc', rfl, hd', hc'⟩ := hm
        have HM1 := hide (show SMod wm (.agg #[vd', vc']) xs cs from ⟨_, _, rfl, hd', hc'⟩)
        have HX_wm := hide (HX_w21.out.trans hx)
        have ks_wm := Nat.lt_of_lt_of_le ks_w21 hx.size
        have k0 := (hx.cells _ _ ks_w21).trans k0
        have k1 := (hx.cells _ _ ks_w21).trans k1
        have HS_d := hide (HS_d.out.ext hx)
        clear hx hd' hc'
        go_wp2_with fail
        refine (IsSingletonConsistentI_any _ xs cs _ HM1.out).mono ?_
        rintro e w32 ⟨rfl, hx⟩
        rw [HSG.out]
        have HX_w32 := hide (HX_wm.out.trans hx)
        have ks_w32 := Nat.lt_of_lt_of_le ks_wm hx.size
        have k0 := (hx.cells _ _ ks_wm).trans k0
        have k1 := (hx.cells _ _ ks_wm).trans k1
        have HS_d := hide (HS_d.out.ext hx)
        clear hx
        cases hq : b with
        | false =>
          go_wp2_with fail
          go_ret
          exact Ret.mk rfl (HX0.out.trans HX_w32.out)
        | true =>
          obtain ⟨he, hi⟩ := Q3.out (by rw [← HB.out]; exact hq)
          have HE := hide he
          have HI := hide hi
          clear he hi hq
          go_wp2_with fail
          refine (equalInts_any _ _ xs ds _ HS_d.out (HD0.out.ext HX_w32.out)).mono ?_
          rintro e w63 ⟨rfl, hx⟩
          rw [show decide (xs = ds) = true by rw [HE.out]; simp]
          have HX_w63 := hide (HX_w32.out.trans hx)
          have ks_w63 := Nat.lt_of_lt_of_le ks_w32 hx.size
          have k0 := (hx.cells _ _ ks_w32).trans k0
          have k1 := (hx.cells _ _ ks_w32).trans k1
          have HS_d := hide (HS_d.out.ext hx)
          clear hx
          go_wp2_with fail
          refine (IsConsistentI_any _ ds cs _ (HM0.out.ext HX_w63.out)).mono ?_
          rintro e w64 ⟨rfl, hx⟩
          rw [HI.out]
          have HX_w64 := hide (HX_w63.out.trans hx)
          have ks_w64 := Nat.lt_of_lt_of_le ks_w63 hx.size
          have k0 := (hx.cells _ _ ks_w63).trans k0
          have k1 := (hx.cells _ _ ks_w63).trans k1
          have HS_d := hide (HS_d.out.ext hx)
          clear hx
          go_wp2_with fail
          go_ret
          exact Ret.mk rfl (HX0.out.trans HX_w64.out)
end Go.Proofs.Ytgeflejmdlipmaa
/- FnSingleton returns true for all bytes. No condition. -/
namespace Go.Proofs.Ytgeflejmdlipmaa
open Go.ChangeShapes Go.WideShapes Go.ChangeAt Go.RowKit

theorem Try.ownFnSingleton : ownKnob Try.prog.godebug = none := by kernel_rfl
theorem Try.laidOutFnSingleton : laidOutB Try.prog = true := by kernel_rfl

set_option maxRecDepth 100000 in
theorem fnSingleton_lifted (os : Os) (started : os.Started) (H : Type) (enc : TypeId × Value → H) :
    ReturnsInHanded {} Try.checked os 4 .any (Rows.fnSingletonSpec.pre6 enc Try.prog Try.f4 Rows.fnSingletonRow.domain false) (Rows.fnSingletonSpec.post enc Try.prog Try.f4 false true false false) := by
  refine returnsInHanded_of_change_sized (C := Try.checked) Try.ownFnSingleton started (by kernel_rfl) Try.func4
    (ChangeSpec.witness6 (enc := enc) (C := Try.checked) false ⟨#[], #[.slice none 0 0], []⟩ 8 (by kernel_rfl) (by kernel_rfl) (by kernel_rfl) (by kernel_rfl)) ?_
  intro W base args ds gs before hval0 hW hcnd hsz0 _
  have hval : ∀ (j : Nat) t v, Try.f4.params[j]? = some t → args[j]? = some v → Value.okWide Try.prog W .any base t v := hval0
  have hsz : (DataW.weightsEach Try.prog (Try.f4.params.toList ++ Rows.fnSingletonSpec.plain.varTypes Try.prog) (ds ++ gs)).all (· ≤ reachBytes) = true := hsz0
  have hW' := hW
  obtain ⟨p, q, hA0, hV, rfl, hfz, hnd⟩ := hW
  have hA : DataW.TrodAll enc Try.prog W 0 (fun _ => true) true Try.f4.params.toList args.toList ds p := hA0
  rw [Try.params4] at hA hval hsz
  obtain ⟨v0, vs0, d0, ds0, p0, q0, hargs, rfl, rfl, h0, r0⟩ := trodAll_cons hA
  obtain ⟨rfl, rfl, rfl⟩ := trodAll_nil r0
  obtain rfl : args = #[v0] := by cases args; simp_all
  obtain ⟨rfl, rfl⟩ := trodVars_none hV
  have k0 := h0
  have lt0 : ∀ x ∈ p0, x.block < W.heap.size := by obtain ⟨m, hm⟩ := k0; exact DataW.trod_lt m _ _ _ hm
  obtain ⟨x0, hB0, hn0⟩ := bytes_of_trod Try.underlying22 Try.underlying5 (by kernel_rfl) (by kernel_rfl) (hval 0 22 v0 rfl rfl) h0
    (fun elems spare hd => sized_slice hsz (j := 0) (t := 22) (e := 5) rfl (by simp [hd]) Try.underlying22)
  clear hA0 hval0 hsz0
  refine (lawSingleton v0 x0 W hB0 hn0).mono fun e W' ⟨he, bel⟩ => ?_
  subst he
  exact ⟨_, rfl, _, _, _, [], _, [], hW', trodAll_mk1 (shut_bool Try.underlying4 _), (trodAll_cons_mk (Below.trod Try.laidOutFnSingleton (by kernel_rfl) (of_decide_eq_true (by kernel_rfl)) k0 bel lt0) trodAll_mk0), rfl, Below.frame bel _, fun h => by cases h⟩

theorem fnSingleton_holds : Rows.FnSingletonSaid :=
  OpenClaim.holds_of_wide 4 Try.f4 rfl rfl rfl rfl rfl rfl rfl ⟨rfl, rfl, rfl, rfl, rfl⟩ rfl rfl rfl rfl rfl (by kernel_rfl) Try.func4 (by kernel_rfl)
    (of_decide_eq_true (by kernel_rfl)) (by unfold Func.isWrapper; first | (rw [if_pos (by decide +kernel)]; kernel_rfl) | (rw [if_neg (by decide +kernel)]; exact ⟨rfl, rfl⟩))
    (fun os started H enc _ => fnSingleton_lifted os started H enc)
#print axioms fnSingleton_holds
end Go.Proofs.Ytgeflejmdlipmaa
