/- What the laws call: Filter, DomainBounds, DomainSize of the program; total. -/
import Derived.Test.YtkjbefokgmiehaaGreatDoorLwX
import Derived.Test.YtkjbefokgmiehaaGreatDoorBndZ
import Derived.Test.YtkjbefokgmiehaaGreatDoorBbW
namespace Go.Proofs.YtkjbefokgmiehaaGreatDoor
open Go.RowKit

/-- The value of Filter. -/
def fltV (c : Con) (ds : List Int) : List Int := if ((inR ds.length 1 4 && allR ds 0 63) && vCon c ds.length) = true then filtL c ds else []
set_option maxRecDepth 100000 in
set_option maxHeartbeats 4000000 in
/-- Filter on good domains and a good constraint. -/
theorem FilterI_any (v vd : Value) (c : Con) (ds : List Int) (w : World) (hC : SCon w v c) (hD : SInts w vd ds) (h1 : 1 ≤ ds.length) (h4 : ds.length ≤ 4) (hv : vCon c ds.length = true) (hd : DomL ds) :
    Calls Tryz.prog 9 #[v, vd] w (OwnRes (filtL c ds) w) := by
  have HV := hide hv
  have HDL := hide hd
  have HOK := hide (show (inR ds.length 1 4 && allR ds 0 63) = true by
    rw [Bool.and_eq_true]
    refine ⟨by simp only [inR, Bool.and_eq_true, decide_eq_true_eq]; omega, allR_of fun j hj => ?_⟩
    obtain ⟨d0, d1⟩ := hd j hj
    simp only [inR, Bool.and_eq_true, decide_eq_true_eq]; omega)
  have hC0 := hide hC
  have hD0 := hide hD
  obtain ⟨vv, va, vr, rfl, hV, hA, hR⟩ := hC
  obtain ⟨Av, cv, rfl, -, -⟩ := hV.form
  obtain ⟨Aa, ca, rfl, -, -⟩ := hA.form
  obtain ⟨Ar, cr, rfl, -, -⟩ := hR.form
  obtain ⟨Ad, cd, rfl, -, hld⟩ := hD.form
  obtain ⟨w0, hw0⟩ : ∃ w0, w0 = w.alloc (.cells #[.int .i64 c.kk, .slice Av c.vars.length cv, .slice Aa c.args.length ca, .int .i64 c.bound, .slice Ar c.rows.length cr] 33) := ⟨_, rfl⟩
  have hx0 : Ext w w0 := by rw [hw0]; exact (Ext.refl w).alloc _
  have ks : w.heap.size < w0.heap.size := by rw [hw0]; simp
  have c0 : w0.cell? ⟨w.heap.size, 0, none⟩ = some (.int .i64 c.kk) := by rw [hw0]; exact World.cell?_alloc_at _ _ _ _ rfl
  have c1 : w0.cell? ⟨w.heap.size, 1, none⟩ = some (.slice Av c.vars.length cv) := by rw [hw0]; exact World.cell?_alloc_at _ _ _ _ rfl
  have c2 : w0.cell? ⟨w.heap.size, 2, none⟩ = some (.slice Aa c.args.length ca) := by rw [hw0]; exact World.cell?_alloc_at _ _ _ _ rfl
  have c3 : w0.cell? ⟨w.heap.size, 3, none⟩ = some (.int .i64 c.bound) := by rw [hw0]; exact World.cell?_alloc_at _ _ _ _ rfl
  have c4 : w0.cell? ⟨w.heap.size, 4, none⟩ = some (.slice Ar c.rows.length cr) := by rw [hw0]; exact World.cell?_alloc_at _ _ _ _ rfl
  have HX0 := hide hx0
  have H3 := hide (And.intro (hV.ext hx0) (And.intro (hA.ext hx0) (hR.ext hx0)))
  clear hV hA hR hD hx0 hv hd
  go_enter Tryz.func9, Tryz.ntmps9
  go_wp2_with fail
  rw [← hw0]
  clear hw0
  refine (domainsOk_any _ ds _ (hD0.out.ext HX0.out)).mono ?_
  rintro e w1 ⟨rfl, hx1⟩
  rw [HOK.out]
  have HX1 := hide (HX0.out.trans hx1)
  have c0 := (hx1.cells _ _ ks).trans c0
  have c1 := (hx1.cells _ _ ks).trans c1
  have c2 := (hx1.cells _ _ ks).trans c2
  have c3 := (hx1.cells _ _ ks).trans c3
  have c4 := (hx1.cells _ _ ks).trans c4
  have ks := Nat.lt_of_lt_of_le ks hx1.size
  have H3 := hide (And.intro (H3.out.1.ext hx1) (And.intro (H3.out.2.1.ext hx1) (H3.out.2.2.ext hx1)))
  clear hx1
  go_wp2_with fail
  refine (ValidConstraintI_any c _ _ _ _ _ (fits_all c) H3.out.1 H3.out.2.1 H3.out.2.2).mono ?_
  rintro e w2 ⟨rfl, hx2⟩
  rw [HV.out]
  have HX2 := hide (HX1.out.trans hx2)
  have c0 := (hx2.cells _ _ ks).trans c0
  have c1 := (hx2.cells _ _ ks).trans c1
  have c2 := (hx2.cells _ _ ks).trans c2
  have c3 := (hx2.cells _ _ ks).trans c3
  have c4 := (hx2.cells _ _ ks).trans c4
  clear hx2
  go_wp2_with fail
  refine (filter_any _ _ c ds _ (hC0.out.ext HX2.out) (hD0.out.ext HX2.out) HV.out HDL.out).mono ?_
  rintro e w3 hres
  have HRES := hide (OwnRes.from hres HX2.out)
  obtain ⟨A3, c3, b3, m3, f3, rfl, -⟩ := hres
  generalize (filtL c ds).length = L at *
  go_wp2
  go_ret
  exact HRES.out
theorem lowB_V {d : Nat} (h1 : 1 ≤ d) (h2 : d ≤ 63) : lowB d = lowV d ∧ topB d = topV d := by
  have key : ((List.range 64).all fun i => decide (i = 0) || (decide (lowB i = lowV (i : Int)) && decide (topB i = topV (i : Int)))) = true := by decide +kernel
  rw [List.all_eq_true] at key
  have := key d (List.mem_range.2 (by omega))
  simp only [Bool.or_eq_true, Bool.and_eq_true, decide_eq_true_eq] at this
  omega
set_option maxHeartbeats 2000000 in
theorem DomainBoundsI_any (d : Nat) (h1 : 1 ≤ d) (h2 : d ≤ 63) (w : World) (hT : TzTab w) :
    Calls Tryz.prog 10 #[.int .i64 d] w fun e w' => e = .returned (.tuple #[.int .i64 (lowV d : Nat), .int .i64 (topV d : Nat)]) ∧ w = w' := by
  have HT := hide hT; clear hT
  obtain ⟨e1, e2⟩ := lowB_V h1 h2
  have hd0 : ((d : Int) == 0) = false := by rw [beq_eq_false_iff_ne]; omega
  have HD := hide (show vDom d = true by simp only [vDom, inR, Bool.and_eq_true, decide_eq_true_eq]; omega)
  have E1 := hide e1
  have E2 := hide e2
  clear e1 e2
  go_enter Tryz.func10, Tryz.ntmps10
  go_wp2_with (first | (go_at_call 29; refine (ValidDomain_any _ _).mono ?_; rintro e w' ⟨rfl, rfl⟩; rw [HD.out]) | (go_at_call 30; refine (least_any d h1 h2 _ HT.out).mono ?_; rintro e w' ⟨rfl, rfl⟩; rw [E1.out]) | (go_at_call 31; refine (most_any d h1 h2 _).mono ?_; rintro e w' ⟨rfl, rfl⟩; rw [E2.out]))
  go_ret2
  exact ⟨rfl, rfl⟩
set_option maxHeartbeats 2000000 in
theorem DomainSizeI_any (d : Nat) (h2 : d ≤ 63) (w : World) :
    Calls Tryz.prog 42 #[.int .i64 d] w fun e w' => e = .returned (.int .i64 ((domL d).length : Nat)) ∧ w = w' := by
  have HD := hide (show vDom d = true by simp only [vDom, inR, Bool.and_eq_true, decide_eq_true_eq]; omega)
  go_enter Tryz.func42, Tryz.ntmps42
  go_wp2_with (first | (go_at_call 29; refine (ValidDomain_any _ _).mono ?_; rintro e w' ⟨rfl, rfl⟩; rw [HD.out]) | (go_at_call 37; refine (size_any d h2 _).mono ?_; rintro e w' ⟨rfl, rfl⟩))
  go_ret
  exact ⟨rfl, rfl⟩
set_option maxRecDepth 100000 in
set_option maxHeartbeats 4000000 in
theorem total_any (v : Value) (ds : List Int) (w : World) (hS : SInts w v ds) (hd : DomL ds) (hl : ds.length ≤ 100) : Calls Tryz.prog 17 #[v] w (Ret (.int .i64 (tsK ds ds.length)) w) := by
  have hS0 := hide hS
  have HDL := hide hd
  obtain ⟨A, c, rfl, -, hln⟩ := hS.form
  clear hS hd
  go_enter Tryz.func17, Tryz.ntmps17
  go_wp2
  go_loopw [3, 4] (fun s i wr => ∃ k : Nat, i = .int .i64 k ∧ k ≤ ds.length ∧ s = .int .i64 (tsK ds k) ∧ Ext w wr) (fun _ i _ => ds.length - (intOf i).toNat)
  case atStart => exact ⟨0, rfl, Nat.zero_le _, rfl, Ext.refl w⟩
  case round =>
    obtain ⟨k, rfl, hk, rfl, hx⟩ := hrel
    have HX := hide hx
    by_cases hlt : k < ds.length
    · have hkI : (k : Int) < ds.length := by omega
      obtain ⟨b, off, rfl, hbl, f1⟩ := (hS0.out.ext hx).at_ hlt
      have hb := HDL.out k hlt
      obtain ⟨d, hd⟩ : ∃ d : Nat, at0 ds k = d := ⟨(at0 ds k).toNat, by omega⟩
      rw [hd] at f1 hb
      have ht := tsK_bd ds k
      have hl6 := domL_len (d : Int)
      have hw : IntKind.i64.wrap (tsK ds k + ((domL (d : Int)).length : Nat)) = tsK ds (k + 1) := by
        rw [IntWalk.i64_in _ (by omega), tsK, hd]
      clear hd hx ht hl6
      go_wp2_with (go_at_call 42; refine (DomainSizeI_any d (by omega) _).mono ?_; rintro e w' ⟨rfl, rfl⟩)
      go_roundw
      case rel => exact ⟨k + 1, by go_num, by omega, rfl, HX.out⟩
      case measure => simp [intOf]; omega
    · obtain rfl : k = ds.length := by omega
      have hkI : ¬ ((ds.length : Int) < ds.length) := by omega
      go_wp2
      go_ret
      exact Ret.mk rfl HX.out
end Go.Proofs.YtkjbefokgmiehaaGreatDoor
