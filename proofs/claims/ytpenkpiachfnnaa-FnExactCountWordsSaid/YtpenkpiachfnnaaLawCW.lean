/- The law's walk: FnExactCountWords returns true. -/
import Derived.Test.YtpenkpiachfnnaaCntI
namespace Go.Proofs.Ytpenkpiachfnnaa
open Go.RowKit

set_option maxHeartbeats 2000000 in
theorem lawCountWords (vn vf : Value) (n : Int) (a : Au) (w : World) (hN : SRows w vn a.next) (hF : SInts w vf a.final) (hn : I64 n) :
    Calls Try.prog 5 #[.agg #[vn, vf], .int .i64 n] w (Ret (.bool true) w) := by
  have hNo := hide hN.ok
  have hFb := hF.bytes
  have hFi := hide (fun i (hi : i < a.final.length) => hF.i64 hi)
  have hN0 := hide hN
  have hF0 := hide hF
  obtain ⟨A, c, rfl, -, hln⟩ := hN.form
  obtain ⟨A', c', rfl, -, hlf⟩ := hF.form
  clear hN hF
  have hx0 := (Ext.refl w).alloc (.cells #[.slice A a.next.length c, .slice A' a.final.length c'] 25)
  have HNI := hide hn; clear hn
  go_enter Try.func5, Try.ntmps5
  go_wp2_with fail
  refine (szAutomaton_any _ _ a _ _ (hN0.out.ext hx0) (hF0.out.ext hx0) (by omega) (by omega)).mono ?_
  rintro e w1 ⟨r, rfl, hr, hx1⟩
  have hx := hx0.trans hx1
  have c0 : w1.cell? ⟨w.heap.size, 0, none⟩ = some (.slice A a.next.length c) := (hx1.cells _ _ (by simp)).trans (by go_simp)
  have c1 : w1.cell? ⟨w.heap.size, 1, none⟩ = some (.slice A' a.final.length c') := (hx1.cells _ _ (by simp)).trans (by go_simp)
  have hsw : w.heap.size < w1.heap.size := Nat.lt_of_lt_of_le (by simp) hx1.size
  rcases hr with rfl | ⟨hr0, -, -, -, -⟩
  · go_wp2_with fail
    go_ret
    exact Ret.mk rfl hx
  · go_wp2_with fail
    refine (toAutomaton_any _ _ a _ (hN0.out.ext hx) (hF0.out.ext hx)).mono ?_
    rintro e w2 ⟨b2, b2', -, -, rfl, hk2, hr2, hx2⟩
    have N2 := hide (hk2.rows hNo.out.1 hNo.out.2.1 hNo.out.2.2)
    have F2 := hide (SInts.of_row hr2 hFb hFi.out)
    clear hk2 hr2
    have c0 := (hx2.cells _ _ hsw).trans c0
    have c1 := (hx2.cells _ _ hsw).trans c1
    have hsw := Nat.lt_of_lt_of_le hsw hx2.size
    have hx' := hx.trans hx2
    go_wp2_with fail
    refine (CountWordsS_any _ _ a n _ N2.out F2.out HNI.out).mono ?_
    rintro e w4 ⟨rfl, hx4⟩
    have hx04 := hx'.trans hx4
    have c0 := (hx4.cells _ _ hsw).trans c0
    have c1 := (hx4.cells _ _ hsw).trans c1
    have hsw := Nat.lt_of_lt_of_le hsw hx4.size
    have c0 : w4.cell? ⟨w.heap.size, 0, none⟩ = some (.slice A a.next.length c) := c0
    clear N2 F2
    go_wp2_with fail
    refine (toAutomaton_any _ _ a _ (hN0.out.ext hx04) (hF0.out.ext hx04)).mono ?_
    rintro e w5 ⟨b5, b5', -, -, rfl, hk5, hr5, hx5⟩
    have N5 := hide (hk5.rows hNo.out.1 hNo.out.2.1 hNo.out.2.2)
    have F5 := hide (SInts.of_row hr5 hFb hFi.out)
    clear hk5 hr5
    have hx05 := hx04.trans hx5
    have c0 := (hx5.cells _ _ hsw).trans c0
    have c1 := (hx5.cells _ _ hsw).trans c1
    have hsw := Nat.lt_of_lt_of_le hsw hx5.size
    have hx5a := (Ext.refl w5).alloc (.cells #[.slice (some ⟨b5, 0, none⟩) a.next.length a.next.length, .slice (some ⟨b5', 0, none⟩) a.final.length a.final.length] 28)
    clear hx04 hx' hx hx0 hx1 hx2 hx4 hx5
    go_wp2_with fail
    refine (CountWordsI_any _ _ a n _ (N5.out.ext hx5a) (F5.out.ext hx5a) HNI.out).mono ?_
    rintro e w7 ⟨rfl, hx7⟩
    have hx07 := (hx05.trans hx5a).trans hx7
    have c0 := ((hx5a.trans hx7).cells _ _ hsw).trans c0
    have c1 := ((hx5a.trans hx7).cells _ _ hsw).trans c1
    have hsw := Nat.lt_of_lt_of_le hsw (hx5a.trans hx7).size
    have d0 : w7.cell? ⟨w5.heap.size, 0, none⟩ = some (.slice (some ⟨b5, 0, none⟩) a.next.length a.next.length) := (hx7.cells _ _ (by simp)).trans (by go_simp)
    have d1 : w7.cell? ⟨w5.heap.size, 1, none⟩ = some (.slice (some ⟨b5', 0, none⟩) a.final.length a.final.length) := (hx7.cells _ _ (by simp)).trans (by go_simp)
    have hsw5 : w5.heap.size < w7.heap.size := Nat.lt_of_lt_of_le (by simp) hx7.size
    have N7 := hide (N5.out.ext (hx5a.trans hx7))
    have F7 := hide (F5.out.ext (hx5a.trans hx7))
    have Hx07 := hide hx07
    clear hx05 hx5a hx7 hx07 N5 F5
    go_wp2_with fail
    go_region_held3 (fun W => Ext w7 W ∧ W.cell? ⟨w.heap.size, 0, none⟩ = some (.slice A a.next.length c) ∧ W.cell? ⟨w.heap.size, 1, none⟩ = some (.slice A' a.final.length c') ∧ W.cell? ⟨w5.heap.size, 0, none⟩ = some (.slice (some ⟨b5, 0, none⟩) a.next.length a.next.length) ∧ W.cell? ⟨w5.heap.size, 1, none⟩ = some (.slice (some ⟨b5', 0, none⟩) a.final.length a.final.length))
      (first | (exact ⟨(Ext.refl w7).drew, c0, c1, d0, d1⟩) | (exact held_keep ‹_› hx8 hsw hsw hsw5 hsw5) | (exact held_keep ‹_› hx9 hsw hsw hsw5 hsw5))
      (first
        | (go_at_call 11; refine (toAutomaton_any _ _ a _ (hN0.out.ext (Hx07.out.trans (And.left ‹_›))) (hF0.out.ext (Hx07.out.trans (And.left ‹_›)))).mono ?_; rintro e w8 ⟨b8, b8', -, -, rfl, hk8, hr8, hx8⟩)
        | (go_at_call 13; refine (eqAutomaton_same _ _ _ _ a _ (N7.out.ext ((And.left ‹_›))) (F7.out.ext ((And.left ‹_›))) (hk8.rows hNo.out.1 hNo.out.2.1 hNo.out.2.2) (SInts.of_row hr8 hFb hFi.out)).mono ?_; rintro e w9 ⟨rfl, hx9⟩))
    go_wp2
    go_ret
    exact Ret.mk rfl (Hx07.out.trans (And.left ‹_›))
end Go.Proofs.Ytpenkpiachfnnaa
