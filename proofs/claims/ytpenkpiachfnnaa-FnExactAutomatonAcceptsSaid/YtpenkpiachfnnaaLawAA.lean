/- The law's walk: FnExactAutomatonAccepts returns true. -/
import Derived.Test.YtpenkpiachfnnaaAutC
import Derived.Test.YtpenkpiachfnnaaAutD
namespace Go.Proofs.Ytpenkpiachfnnaa
open Go.RowKit

set_option maxHeartbeats 2000000 in
theorem lawAutomatonAccepts (vn vf v : Value) (a : Au) (xs : List Int) (w : World) (hN : SRows w vn a.next) (hF : SInts w vf a.final) (hS : SInts w v xs) :
    Calls Try.prog 4 #[.agg #[vn, vf], v] w (Ret (.bool true) w) := by
  have hNo := hide hN.ok
  have hFb := hF.bytes
  have hFi := hide (fun i (hi : i < a.final.length) => hF.i64 hi)
  have hSb := hS.bytes
  have hSi := hide (fun i (hi : i < xs.length) => hS.i64 hi)
  have hN0 := hide hN
  have hF0 := hide hF
  have hS0 := hide hS
  obtain ⟨A, c, rfl, -, hln⟩ := hN.form
  obtain ⟨A', c', rfl, -, hlf⟩ := hF.form
  obtain ⟨A2, c2, rfl, -, hlx⟩ := hS.form
  clear hN hF hS
  have hx0 := (Ext.refl w).alloc (.cells #[.slice A a.next.length c, .slice A' a.final.length c'] 25)
  by_cases hle : (xs.length : Int) ≤ 1048576
  · go_enter Try.func4, Try.ntmps4
    go_wp2_with fail
    refine (szAutomaton_any _ _ a _ _ (hN0.out.ext hx0) (hF0.out.ext hx0) (by omega) (by omega)).mono ?_
    rintro e w1 ⟨r, rfl, hr, hx1⟩
    have hx := hx0.trans hx1
    have c0 : w1.cell? ⟨w.heap.size, 0, none⟩ = some (.slice A a.next.length c) := (hx1.cells _ _ (by simp)).trans (by go_simp)
    have c1 : w1.cell? ⟨w.heap.size, 1, none⟩ = some (.slice A' a.final.length c') := (hx1.cells _ _ (by simp)).trans (by go_simp)
    have hsw : w.heap.size < w1.heap.size := Nat.lt_of_lt_of_le (by simp) hx1.size
    rcases hr with rfl | ⟨hr0, -, -, -, -⟩
    · go_wp2_with fail
      go_ret
      exact Ret.mk rfl hx
    · go_wp2_with fail
      refine (toAutomaton_any _ _ a _ (hN0.out.ext hx) (hF0.out.ext hx)).mono ?_
      rintro e w2 ⟨b2, b2', -, -, rfl, hk2, hr2, hx2⟩
      have N2 := hide (hk2.rows hNo.out.1 hNo.out.2.1 hNo.out.2.2)
      have F2 := hide (SInts.of_row hr2 hFb hFi.out)
      clear hk2 hr2
      have c0 := (hx2.cells _ _ hsw).trans c0
      have c1 := (hx2.cells _ _ hsw).trans c1
      have hsw := Nat.lt_of_lt_of_le hsw hx2.size
      have hx' := hx.trans hx2
      go_wp2_with fail
      refine (toIntS_any _ xs _ (hS0.out.ext hx')).mono ?_
      rintro e w3 ⟨b3, -, rfl, hr3, hx3⟩
      have S3 := hide (SInts.of_row hr3 hSb hSi.out)
      clear hr3
      have c0 := (hx3.cells _ _ hsw).trans c0
      have c1 := (hx3.cells _ _ hsw).trans c1
      have hsw := Nat.lt_of_lt_of_le hsw hx3.size
      go_wp2_with fail
      refine (AutomatonAcceptsS_any _ _ _ a xs _ (N2.out.ext hx3) (F2.out.ext hx3) S3.out).mono ?_
      rintro e w4 ⟨rfl, hx4⟩
      have hx04 := (hx'.trans hx3).trans hx4
      have c0 := (hx4.cells _ _ hsw).trans c0
      have c1 := (hx4.cells _ _ hsw).trans c1
      have hsw := Nat.lt_of_lt_of_le hsw hx4.size
      have c0 : w4.cell? ⟨w.heap.size, 0, none⟩ = some (.slice A a.next.length c) := c0
      clear N2 F2 S3
      go_wp2_with fail
      refine (toAutomaton_any _ _ a _ (hN0.out.ext hx04) (hF0.out.ext hx04)).mono ?_
      rintro e w5 ⟨b5, b5', -, -, rfl, hk5, hr5, hx5⟩
      have N5 := hide (hk5.rows hNo.out.1 hNo.out.2.1 hNo.out.2.2)
      have F5 := hide (SInts.of_row hr5 hFb hFi.out)
      clear hk5 hr5
      have hx05 := hx04.trans hx5
      have c0 := (hx5.cells _ _ hsw).trans c0
      have c1 := (hx5.cells _ _ hsw).trans c1
      have hsw := Nat.lt_of_lt_of_le hsw hx5.size
      have hx5a := (Ext.refl w5).alloc (.cells #[.slice (some ⟨b5, 0, none⟩) a.next.length a.next.length, .slice (some ⟨b5', 0, none⟩) a.final.length a.final.length] 28)
      have hx5s := hx05.trans hx5a
      clear hx04 hx' hx hx0 hx1 hx2 hx3 hx4 hx5
      go_wp2_with fail
      refine (toIntS_any _ xs _ (hS0.out.ext hx5s)).mono ?_
      rintro e w6 ⟨b6, -, rfl, hr6, hx6⟩
      have S6 := hide (SInts.of_row hr6 hSb hSi.out)
      clear hr6
      have c0 := ((hx5a.trans hx6).cells _ _ hsw).trans c0
      have c1 := ((hx5a.trans hx6).cells _ _ hsw).trans c1
      have hsw := Nat.lt_of_lt_of_le hsw (hx5a.trans hx6).size
      have d0 : w6.cell? ⟨w5.heap.size, 0, none⟩ = some (.slice (some ⟨b5, 0, none⟩) a.next.length a.next.length) := (hx6.cells _ _ (by simp)).trans (by go_simp)
      have d1 : w6.cell? ⟨w5.heap.size, 1, none⟩ = some (.slice (some ⟨b5', 0, none⟩) a.final.length a.final.length) := (hx6.cells _ _ (by simp)).trans (by go_simp)
      have hsw5 : w5.heap.size < w6.heap.size := Nat.lt_of_lt_of_le (by simp) hx6.size
      have N6 := hide (N5.out.ext (hx5a.trans hx6))
      have F6 := hide (F5.out.ext (hx5a.trans hx6))
      have hx06 := hx5s.trans hx6
      clear N5 F5 hx5a hx5s hx6 hx05
      go_wp2_with fail
      refine (AutomatonAcceptsI_any _ _ _ a xs _ N6.out F6.out S6.out).mono ?_
      rintro e w7 ⟨rfl, hx7⟩
      have hx07 := hx06.trans hx7
      have c0 := (hx7.cells _ _ hsw).trans c0
      have c1 := (hx7.cells _ _ hsw).trans c1
      have d0 := (hx7.cells _ _ hsw5).trans d0
      have d1 := (hx7.cells _ _ hsw5).trans d1
      have hsw := Nat.lt_of_lt_of_le hsw hx7.size
      have hsw5 := Nat.lt_of_lt_of_le hsw5 hx7.size
      have N7 := hide (N6.out.ext hx7)
      have F7 := hide (F6.out.ext hx7)
      have S7 := hide (S6.out.ext hx7)
      have Hx07 := hide hx07
      clear hx06 hx7 hx07 N6 F6 S6
      go_wp2_with fail
      go_region_held3 (fun W => Ext w7 W ∧ W.cell? ⟨w.heap.size, 0, none⟩ = some (.slice A a.next.length c) ∧ W.cell? ⟨w.heap.size, 1, none⟩ = some (.slice A' a.final.length c') ∧ W.cell? ⟨w5.heap.size, 0, none⟩ = some (.slice (some ⟨b5, 0, none⟩) a.next.length a.next.length) ∧ W.cell? ⟨w5.heap.size, 1, none⟩ = some (.slice (some ⟨b5', 0, none⟩) a.final.length a.final.length))
        (first | (exact ⟨(Ext.refl w7).drew, c0, c1, d0, d1⟩) | (exact held_keep ‹_› hx8 hsw hsw hsw5 hsw5) | (exact held_keep ‹_› hx9 hsw hsw hsw5 hsw5))
        (first
          | (go_at_call 11; refine (toAutomaton_any _ _ a _ (hN0.out.ext (Hx07.out.trans (And.left ‹_›))) (hF0.out.ext (Hx07.out.trans (And.left ‹_›)))).mono ?_; rintro e w8 ⟨b8, b8', -, -, rfl, hk8, hr8, hx8⟩)
          | (go_at_call 13; refine (eqAutomaton_same _ _ _ _ a _ (N7.out.ext ((And.left ‹_›))) (F7.out.ext ((And.left ‹_›))) (hk8.rows hNo.out.1 hNo.out.2.1 hNo.out.2.2) (SInts.of_row hr8 hFb hFi.out)).mono ?_; rintro e w9 ⟨rfl, hx9⟩))
      rename_i hS9
      have hx9' := hS9.1
      clear hS9
      go_wp2_with fail
      refine (toIntS_any _ xs _ (hS0.out.ext (Hx07.out.trans hx9'))).mono ?_
      rintro e w10 ⟨b10, -, rfl, hr10, hx10⟩
      have S10 := hide (SInts.of_row hr10 hSb hSi.out)
      clear hr10
      go_wp2_with fail
      refine (eqIntS_same _ _ xs _ (S7.out.ext (hx9'.trans hx10)) S10.out).mono ?_
      rintro e w11 ⟨rfl, hx11⟩
      go_wp2
      go_ret
      exact Ret.mk rfl (((Hx07.out.trans hx9').trans hx10).trans hx11)
  · go_enter Try.func4, Try.ntmps4
    go_wp2_with fail
    go_ret
    exact Ret.mk rfl hx0
end Go.Proofs.Ytpenkpiachfnnaa
