/- Constraints of the program: whether the numbers are those of the kind. -/
import Derived.Test.YtpnlambndbfenaaCons
import Derived.Test.YtpnlambndbfenaaStarts
namespace Go.Proofs.Ytpnlambndbfenaa
open Go.RowKit

def argsB (args : List Int) (m lo hi : Int) : Bool := ((args.length : Int) == m) && allR args lo hi
set_option maxHeartbeats 1000000 in
theorem args_any (va : Value) (args : List Int) (m lo hi : Int) (bc : Nat) (w : World) (h2 : w.cell? ⟨bc, 2, none⟩ = some va) (hS : SInts w va args) :
    Calls Try.prog 125 #[.int .i64 m, .int .i64 lo, .int .i64 hi, .pointer (some ⟨bc, 0, none⟩)] w (Ret (.bool (argsB args m lo hi)) w) := by
  have hS0 := hide hS
  obtain ⟨A, c, rfl, -, hln⟩ := hS.form
  clear hS
  by_cases hm : ((args.length : Int) == m) = true
  · have HM := hide (show argsB args m lo hi = allR args lo hi by rw [argsB, hm]; rfl)
    have HE := hide hm
    clear hm
    have hm2 : m = args.length := by have := HE.out; simp at this; omega
    subst hm2
    go_enter Try.func125, Try.ntmps125
    go_wp2_with fail
    refine (allIn_any _ args lo hi _ hS0.out).mono ?_
    rintro e w2 ⟨rfl, hx⟩
    rw [← HM.out]
    have HX := hide hx
    clear hx
    go_wp2
    go_ret
    exact Ret.mk rfl HX.out
  · have hm' : ((args.length : Int) == m) = false := Bool.eq_false_iff.2 hm
    have HM := hide (show argsB args m lo hi = false by rw [argsB, hm']; rfl)
    clear hm
    go_enter Try.func125, Try.ntmps125
    go_wp2
    go_ret
    exact Ret.mk (ret_b HM.out.symm) (Ext.refl _)
/-- The numbers of a constraint are those of its kind. -/
def fitB (kk : Int) (vars args : List Int) (b : Int) (rows : List (List Int)) : Bool :=
  if kk = 1 then argsB args vars.length (-9) 9 && (inR b (-999) 999 && ((rows.length : Int) == 0))
  else if kk = 2 then ((vars.length : Int) == 2) && (argsB args 1 (-9) 9 && ((b == 0) && ((rows.length : Int) == 0)))
  else if kk = 3 ∨ kk = 9 then ((args.length : Int) == 0) && ((b == 0) && ((rows.length : Int) == 0))
  else if kk = 4 then ((vars.length : Int) == 2) && (inR args.length 1 6 && (allR args 0 5 && ((b == 0) && ((rows.length : Int) == 0))))
  else if kk = 5 then ((args.length : Int) == 0) && ((b == 0) && vRows rows vars.length 0 5)
  else if kk = 6 then argsB args 1 0 5 && (inR b 0 4 && ((rows.length : Int) == 0))
  else if kk = 7 then argsB args (2 * vars.length) 0 9 && (inR b 0 9 && ((rows.length : Int) == 0))
  else if kk = 8 then vRows rows 6 (-1) (rows.length - 1) && (dst args && (allR args 0 (rows.length - 1) && (b == 0)))
  else false
set_option maxRecDepth 100000 in
set_option maxHeartbeats 4000000 in
theorem fits_7 (vv va vr : Value) (vars args : List Int) (b : Int) (rows : List (List Int)) (w : World) (hV : SInts w vv vars) (hA : SInts w va args) (hR : SRows w vr rows) (hl : vars.length ≤ 1000) :
    Calls Try.prog 94 #[.agg #[.int .i64 7, vv, va, .int .i64 b, vr]] w (Ret (.bool (fitB 7 vars args b rows)) w) := by
  have hV0 := hide hV
  have hA0 := hide hA
  have hR0 := hide hR
  obtain ⟨Av, cv, rfl, -, hlv⟩ := hV.form
  obtain ⟨Aa, ca, rfl, -, hla⟩ := hA.form
  obtain ⟨Ar, cr, rfl, -, hlr⟩ := hR.form
  have HF := hide (show fitB 7 vars args b rows = (argsB args (2 * vars.length) 0 9 && (inR b 0 9 && ((rows.length : Int) == 0))) from rfl)
  clear hV hA hR
  go_enter Try.func94, Try.ntmps94
  go_wp2_with fail
  have hx0 := (Ext.refl w).alloc (.cells #[.int .i64 7, .slice Av vars.length cv, .slice Aa args.length ca, .int .i64 b, .slice Ar rows.length cr] 32)
  have hz0 : w.heap.size < (w.alloc (.cells #[.int .i64 7, .slice Av vars.length cv, .slice Aa args.length ca, .int .i64 b, .slice Ar rows.length cr] 32)).heap.size := by simp
  refine wp_region_ext (by kernel_rfl) (by kernel_rfl) ?_
  iterate 9 (apply quiet_val; (focus rfl); (focus (intro w' hw'; have hk' := hw'.cells; go_simp; all_goals exact rfl)); simp only [Act.put, List.setIfInBounds_toArray, List.set_cons_succ, List.set_cons_zero])
  refine wpQuiet_nil ?_
  intro w2 hx2
  have b0 : w2.cell? ⟨w.heap.size, 0, none⟩ = some (.int .i64 7) := (hx2.cells _ _ hz0).trans (by go_simp)
  have b2 : w2.cell? ⟨w.heap.size, 2, none⟩ = some (.slice Aa args.length ca) := (hx2.cells _ _ hz0).trans (by go_simp)
  have b3 : w2.cell? ⟨w.heap.size, 3, none⟩ = some (.int .i64 b) := (hx2.cells _ _ hz0).trans (by go_simp)
  have hz2 := Nat.lt_of_lt_of_le hz0 hx2.size
  have HX2 := hide (hx0.trans hx2)
  clear hx0 hx2 hz0
  go_wp2_with fail
  refine (args_any _ args (2 * vars.length) 0 9 w.heap.size _ b2 (hA0.out.ext HX2.out)).mono ?_
  rintro e w3 ⟨rfl, hx3⟩
  have b3 := (hx3.cells _ _ hz2).trans b3
  have HX3 := hide (HX2.out.trans hx3)
  clear hx3
  cases hq : argsB args (2 * vars.length) 0 9 with
  | false =>
    have HQ := hide (show fitB 7 vars args b rows = false by rw [HF.out, hq]; rfl)
    clear hq
    go_wp2_with fail
    go_ret
    exact Ret.mk (ret_b HQ.out.symm) HX3.out
  | true =>
    have HQ := hide (show fitB 7 vars args b rows = (inR b 0 9 && ((rows.length : Int) == 0)) by rw [HF.out, hq]; rfl)
    clear hq
    go_wp2_with fail
    refine (within_any _ _ _ _).mono ?_
    rintro e w' ⟨rfl, rfl⟩
    cases hq : inR b 0 9 with
    | false =>
      have HQ2 := hide (show fitB 7 vars args b rows = false by rw [HQ.out, hq]; rfl)
      clear hq
      go_wp2_with fail
      go_ret
      exact Ret.mk (ret_b HQ2.out.symm) HX3.out
    | true =>
      have HQ2 := hide (show fitB 7 vars args b rows = ((rows.length : Int) == 0) by rw [HQ.out, hq]; rfl)
      clear hq
      go_wp2_with fail
      go_ret
      exact Ret.mk (ret_b HQ2.out.symm) HX3.out
end Go.Proofs.Ytpnlambndbfenaa
