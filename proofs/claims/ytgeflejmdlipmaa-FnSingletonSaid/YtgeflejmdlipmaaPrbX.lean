/- Probe: the program's, and the reference's. -/
import Derived.Test.YtgeflejmdlipmaaPrb
import Derived.Test.YtgeflejmdlipmaaSpD
namespace Go.Proofs.Ytgeflejmdlipmaa
open Go.RowKit

def prbOk (ds : List Int) (cs : List Con) (i a : Int) : Bool := vMod ds cs && (inR i 0 (ds.length - 1) && inR a 0 5)
def prbV (ds : List Int) (cs : List Con) (i a : Int) : List Int := if prbOk ds cs i a = true then probL cs ds i.toNat a.toNat else []
theorem prbOk_of {ds : List Int} {cs : List Con} {i a : Int} (h : prbOk ds cs i a = true) : ∃ n m : Nat, i = n ∧ a = m ∧ n < ds.length ∧ m < 6 ∧ GoodD cs ds.length ds ∧ ds.length ≤ 4 ∧ prbV ds cs i a = probL cs ds n m := by
  have h0 := h
  simp only [prbOk, Bool.and_eq_true, inR, decide_eq_true_eq] at h
  obtain ⟨h1, ⟨h2, h3⟩, h4, h5⟩ := h
  obtain ⟨hG, hp, h6⟩ := vMod_good h1
  refine ⟨i.toNat, a.toNat, by omega, by omega, by omega, by omega, hG, h6, ?_⟩
  rw [prbV, if_pos h0]
theorem prbV_no {ds : List Int} {cs : List Con} {i a : Int} (h : prbOk ds cs i a = false) : prbV ds cs i a = [] := by rw [prbV, h]; rfl
theorem prbV_i64 (ds : List Int) (cs : List Con) (i a : Int) : ∀ j, j < (prbV ds cs i a).length → I64 (at0 (prbV ds cs i a) j) := by
  intro j hj
  cases h : prbOk ds cs i a with
  | false => rw [prbV_no h] at hj; simp at hj
  | true =>
    obtain ⟨n, m, rfl, rfl, hn, hm, hG, h4, e⟩ := prbOk_of h
    rw [e] at hj ⊢
    exact (propL_R (hG.prob hn hm) h4).good.i64 j hj
theorem prbV_len (ds : List Int) (cs : List Con) (i a : Int) : (prbV ds cs i a).length ≤ 4 := by
  cases h : prbOk ds cs i a with
  | false => rw [prbV_no h]; simp
  | true =>
    obtain ⟨n, m, rfl, rfl, hn, hm, hG, h4, e⟩ := prbOk_of h
    rw [e, show (probL cs ds n m).length = ds.length from (propL_R (hG.prob hn hm) h4).good.1]
    exact h4
set_option maxRecDepth 100000 in
set_option maxHeartbeats 4000000 in
theorem ProbeS_any (v : Value) (ds : List Int) (cs : List Con) (i a : Int) (w : World) (hM : SMod w v ds cs) :
    Calls Try.prog 8 #[v, .int .i64 i, .int .i64 a] w (OwnRes (prbV ds cs i a) w) := by
  have hM0 := hide hM
  obtain ⟨ve, vc, rfl, hE, hC⟩ := hM
  obtain ⟨Ae, ce, rfl, -, hle⟩ := hE.form
  obtain ⟨Ac, cc, rfl, -, hlc⟩ := hC.form
  obtain ⟨w0, hw0⟩ : ∃ w0, w0 = w.alloc (.cells #[.slice Ae ds.length ce, .slice Ac cs.length cc] 26) := ⟨_, rfl⟩
  have hx0 : Ext w w0 := by rw [hw0]; exact (Ext.refl w).alloc _
  have k0 : w0.cell? ⟨w.heap.size, 0, none⟩ = some (.slice Ae ds.length ce) := by rw [hw0]; go_simp
  have k1 : w0.cell? ⟨w.heap.size, 1, none⟩ = some (.slice Ac cs.length cc) := by rw [hw0]; go_simp
  have ks : w.heap.size < w0.heap.size := by rw [hw0]; simp
  have HX0 := hide hx0
  have hE0 := hide (hE.ext hx0)
  clear hE hC hx0
  go_enter Try.func8, Try.ntmps8
  go_wp2_with fail
  rw [← hw0]
  clear hw0
  refine (validModelS_any _ ds cs _ (hM0.out.ext HX0.out)).mono ?_
  rintro e w1 ⟨rfl, hx1⟩
  have HX1 := hide (HX0.out.trans hx1)
  have HXE := hide hx1
  have k0 := (hx1.cells _ _ ks).trans k0
  have k1 := (hx1.cells _ _ ks).trans k1
  clear hx1
  cases hv : vMod ds cs with
  | false =>
    have HV := hide (prbV_no (show prbOk ds cs i a = false by rw [prbOk, hv]; rfl))
    clear hv
    go_wp2
    go_ret
    rw [HV.out]
    exact OwnRes.nil_ rfl HX1.out
  | true =>
    cases h1 : inR i 0 (ds.length - 1) with
    | false =>
      have HV := hide (prbV_no (show prbOk ds cs i a = false by rw [prbOk, hv, h1]; rfl))
      have H1 := hide h1
      clear hv h1
      go_wp2_with (go_at_call 26; refine (inRange_any _ _ _ _).mono ?_; rintro e w' ⟨rfl, rfl⟩; rw [H1.out])
      go_ret
      rw [HV.out]
      exact OwnRes.nil_ rfl HX1.out
    | true =>
      cases h2 : inR a 0 5 with
      | false =>
        have HV := hide (prbV_no (show prbOk ds cs i a = false by rw [prbOk, hv, h1, h2]; rfl))
        have H1 := hide h1
        have H2 := hide h2
        clear hv h1 h2
        go_wp2_with fail
        refine (inRange_any _ _ _ _).mono ?_
        rintro e w' ⟨rfl, rfl⟩
        rw [H1.out]
        go_wp2_with fail
        refine (inRange_any _ _ _ _).mono ?_
        rintro e w' ⟨rfl, rfl⟩
        rw [H2.out]
        go_wp2
        go_ret
        rw [HV.out]
        exact OwnRes.nil_ rfl HX1.out
      | true =>
        obtain ⟨n, m, rfl, rfl, hn, hm, hG, h4, e⟩ := prbOk_of (show prbOk ds cs i a = true by rw [prbOk, hv, h1, h2]; rfl)
        have HE := hide e
        have H1 := hide h1
        have H2 := hide h2
        have HG := hide hG
        clear hv h1 h2 e hG
        go_wp2_with fail
        refine (inRange_any _ _ _ _).mono ?_
        rintro e w' ⟨rfl, rfl⟩
        rw [H1.out]
        go_wp2_with fail
        refine (inRange_any _ _ _ _).mono ?_
        rintro e w' ⟨rfl, rfl⟩
        rw [H2.out]
        go_wp2_with fail
        refine (probeS_any _ _ ds ds cs n m _ (hM0.out.ext HX1.out) (hE0.out.ext HXE.out) HG.out hn hm h4).mono ?_
        rintro e w3 hres
        have HRES := hide (show OwnRes (prbV ds cs n m) w e w3 by rw [HE.out]; exact OwnRes.from hres HX1.out)
        obtain ⟨A3, c3, b3, m3, f3, rfl, -⟩ := hres
        obtain ⟨L, hL⟩ : ∃ L, L = (probL cs ds n m).length := ⟨_, rfl⟩
        rw [← hL] at HRES ⊢
        clear hL
        go_wp2
        go_ret
        exact HRES.out
set_option maxRecDepth 100000 in
set_option maxHeartbeats 4000000 in
theorem varsIn_any (v vs : Value) (ds xs : List Int) (cs : List Con) (w : World) (hM : SMod w v ds cs) (hS : SInts w vs xs) :
    Calls Try.prog 22 #[v, vs] w (Ret (.bool (vMod ds cs && allR xs 0 (ds.length - 1))) w) := by
  obtain ⟨ve, vc, rfl, hE, hC⟩ := hM
  obtain ⟨Ae, ce, rfl, -, hle⟩ := hE.form
  obtain ⟨Ac, cc, rfl, -, hlc⟩ := hC.form
  obtain ⟨Ax, cx, rfl, -, hlx⟩ := hS.form
  obtain ⟨w0, hw0⟩ : ∃ w0, w0 = w.alloc (.cells #[.slice Ae ds.length ce, .slice Ac cs.length cc] 26) := ⟨_, rfl⟩
  have hx0 : Ext w w0 := by rw [hw0]; exact (Ext.refl w).alloc _
  have k0 : w0.cell? ⟨w.heap.size, 0, none⟩ = some (.slice Ae ds.length ce) := by rw [hw0]; go_simp
  have k1 : w0.cell? ⟨w.heap.size, 1, none⟩ = some (.slice Ac cs.length cc) := by rw [hw0]; go_simp
  have ks : w.heap.size < w0.heap.size := by rw [hw0]; simp
  have HX0 := hide hx0
  have hE0 := hide (hE.ext hx0)
  have hC0 := hide (hC.ext hx0)
  have hS0 := hide (hS.ext hx0)
  clear hE hC hx0 hS
  go_enter Try.func22, Try.ntmps22
  go_wp2_with fail
  rw [← hw0]
  clear hw0
  refine (ValidModelI_any _ _ ds cs _ hE0.out hC0.out (fun i _ => fits_all _)).mono ?_
  rintro e w1 ⟨rfl, hx1⟩
  have HX1 := hide hx1
  have k0 := (hx1.cells _ _ ks).trans k0
  clear hx1
  cases hv : vMod ds cs with
  | false =>
    have HV := hide (show (vMod ds cs && allR xs 0 ((ds.length : Int) - 1)) = false by rw [hv]; rfl)
    clear hv
    go_wp2
    go_ret
    exact Ret.mk (ret_b HV.out.symm) (HX0.out.trans HX1.out)
  | true =>
    have HV := hide (show (vMod ds cs && allR xs 0 ((ds.length : Int) - 1)) = allR xs 0 (ds.length - 1) by rw [hv]; rfl)
    clear hv
    go_wp2_with fail
    refine (allIn_any _ xs 0 (ds.length - 1) _ (hS0.out.ext HX1.out)).mono ?_
    rintro e w2 ⟨rfl, hx2⟩
    have HX2 := hide ((HX0.out.trans HX1.out).trans hx2)
    clear hx2
    go_wp2
    go_ret
    exact Ret.mk (ret_b HV.out.symm) HX2.out
theorem valueOk_any (a : Int) (w : World) :
    Calls Try.prog 23 #[.int .i64 a] w fun e w' => e = .returned (.bool (inR a 0 5)) ∧ w = w' := by
  go_enter Try.func23, Try.ntmps23
  go_wp2_with fail
  refine (within_any _ _ _ _).mono ?_
  rintro e w' ⟨rfl, rfl⟩
  go_wp2
  go_ret
  exact ⟨rfl, rfl⟩
set_option maxRecDepth 100000 in
set_option maxHeartbeats 4000000 in
theorem ProbeI_any (v : Value) (ds : List Int) (cs : List Con) (i a : Int) (w : World) (hM : SMod w v ds cs) (hI : I64 i) :
    Calls Try.prog 6 #[v, .int .i64 i, .int .i64 a] w (OwnRes (prbV ds cs i a) w) := by
  have hM0 := hide hM
  obtain ⟨ve, vc, rfl, hE, hC⟩ := hM
  obtain ⟨Ae, ce, rfl, -, hle⟩ := hE.form
  obtain ⟨Ac, cc, rfl, -, hlc⟩ := hC.form
  obtain ⟨w0, hw0⟩ : ∃ w0, w0 = w.alloc (.cells #[.slice Ae ds.length ce, .slice Ac cs.length cc] 26) := ⟨_, rfl⟩
  have hx0 : Ext w w0 := by rw [hw0]; exact (Ext.refl w).alloc _
  have k0 : w0.cell? ⟨w.heap.size, 0, none⟩ = some (.slice Ae ds.length ce) := by rw [hw0]; go_simp
  have k1 : w0.cell? ⟨w.heap.size, 1, none⟩ = some (.slice Ac cs.length cc) := by rw [hw0]; go_simp
  have ks : w.heap.size < w0.heap.size := by rw [hw0]; simp
  have hs0 : w0.heap.size = w.heap.size + 1 := by rw [hw0]; simp
  have HX0 := hide hx0
  have hE0 := hide (hE.ext hx0)
  clear hE hC hx0
  go_enter Try.func6, Try.ntmps6
  go_wp2_with fail
  rw [← hw0]
  clear hw0
  obtain ⟨u, hu⟩ : ∃ u, u = w0.alloc (.cells #[.int .i64 i] 3) := ⟨_, rfl⟩
  have hxu : Ext w0 u := by rw [hu]; exact (Ext.refl w0).alloc _
  have hui : u.cell? ⟨w.heap.size + 1, 0, none⟩ = some (.int .i64 i) := by rw [hu, ← hs0]; go_simp
  have hus : w.heap.size + 1 < u.heap.size := by rw [hu, World.size_alloc, hs0]; omega
  have HSV := hide (show SInts u (.slice (some ⟨w.heap.size + 1, 0, none⟩) 1 1) [i] from ⟨_, _, rfl, Nat.le_refl _, by simp, fun j hj => by
    obtain rfl : j = 0 := by simpa using hj
    exact hI, fun _ => ⟨w.heap.size + 1, 0, rfl, hus, fun j hj => by
    obtain rfl : j = 0 := by simpa using hj
    exact hui⟩⟩)
  have HU := hide (HX0.out.trans hxu)
  have HXU := hide hxu
  have k0 := (hxu.cells _ _ ks).trans k0
  have k1 := (hxu.cells _ _ ks).trans k1
  have ks := Nat.lt_of_lt_of_le ks hxu.size
  rw [← hu]
  clear hu hxu hui hus hs0
  refine (varsIn_any _ _ ds [i] cs _ (hM0.out.ext HU.out) HSV.out).mono ?_
  rintro e w1 ⟨rfl, hx1⟩
  have HX1 := hide (HU.out.trans hx1)
  have HXE := hide (HXU.out.trans hx1)
  have k0 := (hx1.cells _ _ ks).trans k0
  have k1 := (hx1.cells _ _ ks).trans k1
  have HA := hide (show allR [i] 0 ((ds.length : Int) - 1) = inR i 0 (ds.length - 1) by simp [allR])
  clear hx1
  rw [HA.out]
  cases h1 : (vMod ds cs && inR i 0 (ds.length - 1)) with
  | false =>
    have HV := hide (prbV_no (show prbOk ds cs i a = false by rw [prbOk, ← Bool.and_assoc, h1]; rfl))
    clear h1
    go_wp2
    go_ret
    rw [HV.out]
    exact OwnRes.nil_ rfl HX1.out
  | true =>
    cases h2 : inR a 0 5 with
    | false =>
      have HV := hide (prbV_no (show prbOk ds cs i a = false by rw [prbOk, ← Bool.and_assoc, h1, h2]; rfl))
      have H2 := hide h2
      clear h1 h2
      go_wp2_with (go_at_call 23; refine (valueOk_any _ _).mono ?_; rintro e w' ⟨rfl, rfl⟩; rw [H2.out])
      go_ret
      rw [HV.out]
      exact OwnRes.nil_ rfl HX1.out
    | true =>
      obtain ⟨n, m, rfl, rfl, hn, hm, hG, h4, e⟩ := prbOk_of (show prbOk ds cs i a = true by rw [prbOk, ← Bool.and_assoc, h1, h2]; rfl)
      have HE := hide e
      have H2 := hide h2
      have HG := hide hG
      clear h1 h2 e hG
      go_wp2_with fail
      refine (valueOk_any _ _).mono ?_
      rintro e w' ⟨rfl, rfl⟩
      rw [H2.out]
      go_wp2_with fail
      refine (probeI_any _ _ ds ds cs n m _ (hM0.out.ext HX1.out) (hE0.out.ext HXE.out) HG.out hn hm h4).mono ?_
      rintro e w3 hres
      have HRES := hide (show OwnRes (prbV ds cs n m) w e w3 by rw [HE.out]; exact OwnRes.from hres HX1.out)
      obtain ⟨A3, c3, b3, m3, f3, rfl, -⟩ := hres
      obtain ⟨L, hL⟩ : ∃ L, L = (probL cs ds n m).length := ⟨_, rfl⟩
      rw [← hL] at HRES ⊢
      clear hL
      go_wp2
      go_ret
      exact HRES.out
end Go.Proofs.Ytgeflejmdlipmaa
