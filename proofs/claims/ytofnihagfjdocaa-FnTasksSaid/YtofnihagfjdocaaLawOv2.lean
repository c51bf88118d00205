/- The walk of the law FnOverload: it returns true, and memory only grows. -/
import Derived.Test.YtofnihagfjdocaaPlnS
import Derived.Test.YtofnihagfjdocaaDrw6
import Derived.Test.YtofnihagfjdocaaLawRE
namespace Go.Proofs.Ytofnihagfjdocaa
open Go.RowKit

/-- Tasks and a capacity came; memory only grew. -/
def DrawnTC (w : World) (e : Ending) (w' : World) : Prop :=
  ∃ (v : Value) (ts : List Tk) (c : Int), e = .returned (.tuple #[v, .int .i64 c]) ∧ 1 ≤ ts.length ∧ ts.length ≤ 8 ∧ -1 ≤ c ∧ c ≤ 100 ∧ STasks w' v ts ∧ Ext w w'
theorem TasksGot.to {w0 w W W' : World} {br N : Nat} {e : Ending} (h : TasksGot w0 br N W e W') (hx : Ext w W) (hb : w.heap.size ≤ br) : DrawnTC w e W' := by
  obtain ⟨v, n, c, h1, h2, h3, h4, h5, h6, -, h8⟩ := h
  obtain ⟨ts, e1, e2⟩ := h6.tasks (by omega) (by omega) (by omega)
  exact ⟨v, ts, c, h1, by omega, by omega, h4, h5, e2, Below.trans hx (h8.below hx.size (fun k hk => by omega))⟩
set_option maxHeartbeats 1000000 in
theorem DrawOverload_any (v : Value) (n : Nat) (w : World) (hB : SBytes w v n) : Calls Try.prog 31 #[v] w (DrawnTC w) := by
  have HB := hide hB
  obtain ⟨A, c, rfl, -⟩ := hB
  go_enter Try.func31, Try.ntmps31
  go_wp2_with fail
  refine (newReader_any w w _ n HB.out (Ext.refl w)).mono ?_
  rintro e w1 ⟨br, rfl, hR, hx1, hbr⟩
  have HX := hide hx1
  clear hx1
  go_wp2_with fail
  refine (anyTasks_any w br 0 _ (by omega) hR).mono ?_
  intro e w2 h
  have hd := TasksGot.to h HX.out hbr
  obtain ⟨v2, ts, c2, rfl, q⟩ := hd
  have HE := hide (show DrawnTC w (.returned (.tuple #[v2, .int .i64 c2])) w2 from ⟨v2, ts, c2, rfl, q⟩)
  clear h q
  go_wp2
  go_ret2
  exact HE.out
set_option maxRecDepth 100000 in
set_option maxHeartbeats 4000000 in
theorem lawOverloadP (v : Value) (n : Nat) (w : World) (hB : SBytes w v n) (_hn : n ≤ 140737488351232) :
    Calls Try.prog 7 #[v] w (Ret (.bool true) w) := by
  have HB := hide hB
  obtain ⟨A, c, rfl, -⟩ := hB
  by_cases hl : (1048576 : Int) < n
  · go_enter Try.func7, Try.ntmps7
    go_wp2
    go_ret
    exact Ret.mk rfl (Ext.refl _)
  · go_enter Try.func7, Try.ntmps7
    go_wp2_with fail
    refine (DrawOverload_any _ n _ HB.out).mono ?_
    rintro e w1 ⟨v1, ts, cc, rfl, l1, l8, c0, c1, hT, hx1⟩
    have hT0 := hide hT
    obtain ⟨A1, cp1, rfl, -⟩ := hT.form
    clear hT
    go_wp2_with fail
    refine (OverloadI_any _ ts cc _ hT0.out).mono ?_
    rintro e w2 ⟨x, y, ok, rfl, hv, hx2⟩
    have HV := hide hv
    have HX2 := hide hx2
    clear hx2
    go_wp2_with fail
    refine (OverloadS_any _ ts cc _ (hT0.out.ext HX2.out)).mono ?_
    rintro e w3 ⟨x', y', ok', rfl, hv', hx3⟩
    obtain ⟨rfl, rfl, rfl⟩ := hv.uniq hv'
    have HX3 := hide (hx1.trans (HX2.out.trans hx3))
    have hT3 := hide (hT0.out.ext (HX2.out.trans hx3))
    clear hv hv' hx3 hx1
    cases ok with
    | false =>
      go_wp2_with fail
      go_ret
      exact Ret.mk rfl HX3.out
    | true =>
      rcases HV.out with ⟨hvi, -, a, b, rfl, rfl, hab, hb11, hbad, -⟩ | ⟨-, -, -, hf⟩
      · have hvv := hvi
        rw [Bool.and_eq_true] at hvv
        have hcc : 0 ≤ cc ∧ cc ≤ 9 := by simpa [inR] using hvv.2
        have HN := hide (show schX ts cc = none by rw [schX, if_pos hvi]; exact over_none hvv.1 hab hb11 hbad)
        have HE := hide (show enR ts a b = en ts a b ts.length by
          rw [enR, if_pos]
          simp only [hvv.1, inR, Bool.true_and, Bool.and_eq_true, decide_eq_true_eq, Bool.not_eq_true', decide_eq_false_iff_not]
          omega)
        have m0 := Int.mul_nonneg hcc.1 (show 0 ≤ (b : Int) - a by omega)
        have m1 := Int.mul_le_mul hcc.2 (show (b : Int) - a ≤ 11 by omega) (by omega) (by omega : (0 : Int) ≤ 9)
        have hbad' : cc * ((b : Int) - a) < en ts a b ts.length := hbad
        have HBAD := hide hbad'
        have habI : (a : Int) < b := by omega
        obtain ⟨E, hE⟩ : ∃ E, E = en ts a b ts.length := ⟨_, rfl⟩
        rw [← hE] at hbad'
        have HEE := hide hE
        clear hvi hvv hbad hE HV
        go_wp2_with fail
        refine (ScheduleI_any _ ts cc _ hT3.out).mono ?_
        rw [HN.out]
        rintro e w4 ⟨v4, rfl, A4, c4, b4, mm4, f4, hv4, -, -, -, -, hx4⟩
        injection hv4 with hv4
        subst hv4
        have HX4 := hide hx4
        clear hx4
        go_wp2_with fail
        refine (RequiredEnergyI_any _ ts a b _ (hT3.out.ext HX4.out)).mono ?_
        rw [HE.out, ← HEE.out]
        rintro e w5 ⟨rfl, hx5⟩
        have hx := hide (HX3.out.trans (HX4.out.trans hx5))
        clear hx5
        go_wp2
        go_ret
        exact Ret.mk (ret_b (by simp)) hx.out
      · cases hf
end Go.Proofs.Ytofnihagfjdocaa
