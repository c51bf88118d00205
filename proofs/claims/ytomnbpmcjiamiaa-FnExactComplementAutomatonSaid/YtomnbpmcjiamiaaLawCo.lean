/- The walk of the law FnExactComplementAutomaton: it returns true. -/
import Derived.Test.YtomnbpmcjiamiaaLawMark
import Derived.Test.YtomnbpmcjiamiaaMcO
namespace Go.Proofs.Ytomnbpmcjiamiaa
open Go.RowKit

set_option maxRecDepth 100000 in
set_option maxHeartbeats 16000000 in
theorem lawComplementAutomaton (vn vf : Value) (a : Au) (w : World) (hN : SRows w vn a.next) (hF : SInts w vf a.final) :
    Calls Try.prog 4 #[.agg #[vn, vf]] w (Ret (.bool true) w) := by
  have hNo := hide hN.ok
  have hFb := hF.bytes
  have hFi := hide (fun i (hi : i < a.final.length) => hF.i64 hi)
  have hN0 := hide hN
  have hF0 := hide hF
  obtain ⟨A, c, rfl, -, hln⟩ := hN.form
  obtain ⟨A', c', rfl, -, hlf⟩ := hF.form
  clear hN hF
  have hx0 := (Ext.refl w).alloc (.cells #[.slice A a.next.length c, .slice A' a.final.length c'] 25)
  go_enter Try.func4, Try.ntmps4
  go_wp2_with fail
  refine (szAutomaton2_any _ _ a _ _ (hN0.out.ext hx0) (hF0.out.ext hx0) (by omega) (by omega)).mono ?_
  rintro e w1 ⟨r, rfl, hr, hx1⟩
  have hx := hx0.trans hx1
  have c0 : w1.cell? ⟨w.heap.size, 0, none⟩ = some (.slice A a.next.length c) := (hx1.cells _ _ (by simp)).trans (by go_simp)
  have c1 : w1.cell? ⟨w.heap.size, 1, none⟩ = some (.slice A' a.final.length c') := (hx1.cells _ _ (by simp)).trans (by go_simp)
  have hsw : w.heap.size < w1.heap.size := Nat.lt_of_lt_of_le (by simp) hx1.size
  rcases hr with rfl | ⟨hr0, hz1, hz2, hz3⟩
  · go_wp2_with fail
    go_ret
    exact Ret.mk rfl hx
  · have hrn : ¬ (r < 0) := by omega
    go_wp2_with fail
    refine (toAutomaton_any _ _ a _ (hN0.out.ext hx) (hF0.out.ext hx)).mono ?_
    rintro e w2 ⟨b2, b2', -, -, rfl, hk2, hr2, hx2⟩
    have N2 := hide (hk2.rows hNo.out.1 hNo.out.2.1 hNo.out.2.2)
    have F2 := hide (SInts.of_row hr2 hFb hFi.out)
    have c0 := (hx2.cells _ _ hsw).trans c0
    have c1 := (hx2.cells _ _ hsw).trans c1
    have hsw := Nat.lt_of_lt_of_le hsw hx2.size
    have hx := hx.trans hx2
    clear hk2 hr2 hx2 hx1 hx0
    go_wp2_with fail
    refine (ComplementS_any _ _ a _ N2.out F2.out).mono ?_
    rintro e w3 ⟨ok, rows, fins, hV, vn3, vf3, rfl, hS3, hI3, hx3⟩
    have HV := hide hV
    have OKA := hide hV.ok
    have hszr := hV.ok.sz
    have hlr := hV.ok.len
    have hlfi := hV.ok.fl
    obtain ⟨A3, cc3, rfl, -⟩ := hS3.form
    obtain ⟨A3', cc3', rfl, -⟩ := hI3.form
    have c0 := (hx3.cells _ _ hsw).trans c0
    have c1 := (hx3.cells _ _ hsw).trans c1
    have hsw := Nat.lt_of_lt_of_le hsw hx3.size
    have hx := hx.trans hx3
    have hxa := (Ext.refl w3).alloc (.cells #[.slice A3 rows.length cc3, .slice A3' fins.length cc3'] 27)
    have C0 := hide ((hxa.cells _ _ hsw).trans c0)
    have C1 := hide ((hxa.cells _ _ hsw).trans c1)
    have D0 := hide (show (w3.alloc (.cells #[.slice A3 rows.length cc3, .slice A3' fins.length cc3'] 27)).cell? ⟨w3.heap.size, 0, none⟩ = some (.slice A3 rows.length cc3) by go_simp)
    have D1 := hide (show (w3.alloc (.cells #[.slice A3 rows.length cc3, .slice A3' fins.length cc3'] 27)).cell? ⟨w3.heap.size, 1, none⟩ = some (.slice A3' fins.length cc3') by go_simp)
    have HSW := hide (Nat.lt_of_lt_of_le hsw hxa.size)
    have HSW3 := hide (show w3.heap.size < (w3.alloc (.cells #[.slice A3 rows.length cc3, .slice A3' fins.length cc3'] 27)).heap.size by simp)
    have HX4 := hide (hx.trans hxa)
    have SN := hide (hS3.ext hxa)
    have SF := hide (hI3.ext hxa)
    have AN := hide (hN0.out.ext HX4.out)
    have AF := hide (hF0.out.ext HX4.out)
    clear N2 F2 hS3 hI3 hV hx3 hx hxa
    go_wp2_with fail
    generalize hw4 : w3.alloc (.cells #[.slice A3 rows.length cc3, .slice A3' fins.length cc3'] 27) = w4 at *
    clear hw4 c0 c1 hsw
    have hsw := HSW.out
    have hsw3 := HSW3.out
    refine (toAutomaton_any _ _ a _ AN.out AF.out).mono ?_
    rintro e w5 ⟨b5, b5', hb5, hb5', rfl, hk5, hr5, hx5⟩
    have N5 := hide (hk5.rows hNo.out.1 hNo.out.2.1 hNo.out.2.2)
    have F5 := hide (SInts.of_row hr5 hFb hFi.out)
    obtain ⟨kb5, hA5⟩ := (Apt.nil_ (Ext.refl w4)).newX hb5 hb5' hk5 hr5 hx5
    have H5 := hide (hA5.newC [.slice (some ⟨b5, 0, none⟩) a.next.length a.next.length, .slice (some ⟨b5', 0, none⟩) a.final.length a.final.length] 27 rfl)
    clear hk5 hr5 hx5 hA5 hb5 hb5'
    go_wp2_with fail
    have hx5a := (Ext.refl w5).alloc (.cells #[.slice (some ⟨b5, 0, none⟩) a.next.length a.next.length, .slice (some ⟨b5', 0, none⟩) a.final.length a.final.length] 27)
    refine (ComplementI_any _ _ a _ (N5.out.ext hx5a) (F5.out.ext hx5a)).mono ?_
    rintro e w7 ⟨ok', rows', fins', hV', A7, c7, A7', c7', rfl, hO⟩
    obtain ⟨rfl, rfl, rfl⟩ := HV.out.uniq hV'
    obtain ⟨hc7, hc7', hx7, kb7, b7, m7, f7, hA7⟩ := H5.out.newG hO
    have H7 := hide (hA7.newC [.slice A7 rows.length c7, .slice A7' fins.length c7'] 27 rfl)
    have N7 := hide ((N5.out.ext hx5a).ext (hx7.alloc (.cells #[.slice A7 rows.length c7, .slice A7' fins.length c7'] 27)))
    have F7 := hide ((F5.out.ext hx5a).ext (hx7.alloc (.cells #[.slice A7 rows.length c7, .slice A7' fins.length c7'] 27)))
    have x0 := (hA7.cellC 1 rfl 0 rfl).1
    have x1 := (hA7.cellC 1 rfl 1 rfl).1
    have d0 := ((hide hA7).out.ext.cells _ _ hsw3).trans D0.out
    have d1 := ((hide hA7).out.ext.cells _ _ hsw3).trans D1.out
    have w5w7 : w5.heap.size < w7.heap.size := (hA7.d 1 _ rfl w5.heap.size rfl).2
    have w3w7 : w3.heap.size < w7.heap.size := Nat.lt_of_lt_of_le hsw3 hA7.ext.size
    have hoo : (ok != ok) = false := by simp
    clear hO hx5a hx7 hA7 hV'
    go_wp2_with fail
    have hG7 := (show OutW _ _ A7 rows kb7 ∧ OwnC _ A7' b7 m7 f7 fins ∧ _ from H7.out.p 1 _ rfl)
    refine (eqAutomaton_same _ _ _ _ ⟨rows, fins⟩ _ (OutW.srows (fins := fins) OKA.out hG7.1 hc7) (SInts.own hc7' (show fins.length * 8 ≤ 140737488355328 by omega) hG7.2.1 OKA.out.i64) (SN.out.ext H7.out.ext) (SF.out.ext H7.out.ext)).mono ?_
    rintro e w9 ⟨rfl, hx9⟩
    have H9 := hide (H7.out.grow hx9)
    have N9 := hide (N7.out.ext hx9)
    have F9 := hide (F7.out.ext hx9)
    have w5w9 : w5.heap.size < w9.heap.size := (H9.out.d 2 _ rfl w5.heap.size rfl).2
    have w3w9 : w.heap.size < w9.heap.size := Nat.lt_of_lt_of_le hsw H9.out.ext.size
    clear x0 x1 d0 d1 hG7 hx9
    have c0 := (H9.out.ext.cells _ _ hsw).trans C0.out
    have c1 := (H9.out.ext.cells _ _ hsw).trans C1.out
    have x0 := (H9.out.cellC 2 rfl 0 rfl).1
    have x1 := (H9.out.cellC 2 rfl 1 rfl).1
    go_wp2_with fail
    apply wp_mergeW (fun W => Ext w9 W)
    case h =>
      go_region_held3 (fun W => Ext w9 W ∧ W.cell? ⟨w.heap.size, 0, none⟩ = some (.slice A a.next.length c) ∧ W.cell? ⟨w.heap.size, 1, none⟩ = some (.slice A' a.final.length c') ∧ W.cell? ⟨w5.heap.size, 0, none⟩ = some (.slice (some ⟨b5, 0, none⟩) a.next.length a.next.length) ∧ W.cell? ⟨w5.heap.size, 1, none⟩ = some (.slice (some ⟨b5', 0, none⟩) a.final.length a.final.length))
        (first | (exact ⟨(Ext.refl w9).drew, c0, c1, x0, x1⟩) | (exact held4 ‹_› hx10 w3w9 w5w9) | (exact held4 ‹_› hx11 w3w9 w5w9))
        (first
          | (go_at_call 9; refine (toAutomaton_any _ _ a _ (AN.out.ext (H9.out.ext.trans (And.left ‹_›))) (AF.out.ext (H9.out.ext.trans (And.left ‹_›)))).mono ?_; rintro e w10 ⟨b10, b10', -, -, rfl, hk10, hr10, hx10⟩)
          | (go_at_call 11; refine (eqAutomaton_same _ _ _ _ a _ (N9.out.ext ((And.left ‹_›))) (F9.out.ext ((And.left ‹_›))) (hk10.rows hNo.out.1 hNo.out.2.1 hNo.out.2.2) (SInts.of_row hr10 hFb hFi.out)).mono ?_; rintro e w11 ⟨rfl, hx11⟩))
      all_goals exact ⟨rfl, b10, b10', And.left ‹_›, rfl⟩
    intro b10 b10' w11 hx11
    have H11 := hide (H9.out.grow hx11)
    have hMX := (show MkW w11 _ a.next kb5 ∧ MkF w11 _ b5' a.final.length from H11.out.p 3 _ rfl)
    have HKB := hide (fun i (hi : i < a.next.length) => (H11.out.d 3 _ rfl (kb5 i) (.inl ⟨i, hi, rfl⟩)).2)
    have HKB' := hide (fun (hp : 0 < a.final.length) => (H11.out.d 3 _ rfl b5' (.inr (.inr ⟨hp, rfl⟩))).2)
    have HM1 := hide hMX.1
    have HM2 := hide hMX.2
    clear c0 c1 x0 x1 hx11 hMX w5w9 w3w9
    have x0 := (H11.out.cellC 2 rfl 0 rfl).1
    have x1 := (H11.out.cellC 2 rfl 1 rfl).1
    go_wp2_with fail
    refine (markAutomaton_any _ _ _ _ a.next a.final.length kb5 b5' 1 _ HM1.out HM2.out (by omega) (by omega) (by omega) (by omega) (by omega) HKB.out HKB'.out).mono ?_
    rintro e w12 hmk
    obtain rfl := hmk.1
    have H12 := hide (H11.out.markX (n := 3) rfl hmk)
    clear hmk x0 x1
    have d0 := (H12.out.ext.cells _ _ hsw3).trans D0.out
    have d1 := (H12.out.ext.cells _ _ hsw3).trans D1.out
    have g0 := (H12.out.cellC 0 rfl 0 rfl).1
    have g1 := (H12.out.cellC 0 rfl 1 rfl).1
    have hkn : ¬ (1 + (szR a.next a.next.length : Int) + (a.final.length : Int) < 0) := by omega
    go_wp2_with fail
    have hG12 := (show OutW _ w12 A7 rows kb7 ∧ OwnC w12 A7' b7 m7 f7 fins ∧ _ from H12.out.p 1 _ rfl)
    refine (eqAutomaton_same _ _ _ _ ⟨rows, fins⟩ _ (OutW.srows (fins := fins) OKA.out hG12.1 hc7) (SInts.own hc7' (show fins.length * 8 ≤ 140737488355328 by omega) hG12.2.1 OKA.out.i64) (SN.out.ext H12.out.ext) (SF.out.ext H12.out.ext)).mono ?_
    rintro e w13 ⟨rfl, hx13⟩
    have H13 := hide (H12.out.grow hx13)
    clear g0 g1 d0 d1 hG12 hx13
    have g0 := (H13.out.cellC 0 rfl 0 rfl).1
    have g1 := (H13.out.cellC 0 rfl 1 rfl).1
    have hG13 := (show OutW _ w13 A7 rows kb7 ∧ OwnC w13 A7' b7 m7 f7 fins ∧ _ from H13.out.p 1 _ rfl)
    have HM3 := hide hG13.1.mk_
    have HM4 := hide (show MkF w13 A7' b7 fins.length from fun hp => ⟨(hG13.2.1 hp).1, _, _, (hG13.2.1 hp).2.2.1, (hG13.2.1 hp).2.1⟩)
    have HKC := hide (fun i (hi : i < rows.length) => (H13.out.d 1 _ rfl (kb7 i) (.inl ⟨i, hi, rfl⟩)).2)
    have HKC' := hide (fun (hp : 0 < fins.length) => (H13.out.d 1 _ rfl b7 (.inr (.inr ⟨hp, rfl⟩))).2)
    clear hG13
    go_wp2_with fail
    refine (markAutomaton_any _ _ _ _ rows fins.length kb7 b7 1 _ HM3.out HM4.out (by omega) (by omega) (by omega) (by omega) (by omega) HKC.out HKC'.out).mono ?_
    rintro e w14 hmk
    obtain rfl := hmk.1
    have H14 := hide (H13.out.markG (n := 1) rfl hmk)
    clear hmk g0 g1
    have g0 := (H14.out.cellC 0 rfl 0 rfl).1
    have g1 := (H14.out.cellC 0 rfl 1 rfl).1
    have hqn : ¬ (1 + (szR rows rows.length : Int) + (fins.length : Int) < 0) := by omega
    have hqq : (1 + (szR rows rows.length : Int) + (fins.length : Int) != 1 + (szR rows rows.length : Int) + (fins.length : Int)) = false := by simp
    have hh14 := (show MkW w14 A7 rows kb7 ∧ (0 < fins.length → A7' = some ⟨b7, 0, none⟩) ∧ HeldW w14 rows kb7 1 rows.length ∧ HeldF w14 b7 fins.length (1 + szR rows rows.length) from H14.out.p 1 _ rfl)
    have HH14 := hide hh14
    clear hh14
    go_wp2_with fail
    refine (heldAutomaton_any _ _ _ _ rows fins.length kb7 b7 1 _ HH14.out.1 HH14.out.2.1 HH14.out.2.2.1 HH14.out.2.2.2 (by omega) (by omega) (by omega) (by omega) (by omega)).mono ?_
    rintro e w15 ⟨rfl, hx15⟩
    have H15 := hide (H14.out.grow hx15)
    clear g0 g1 hx15
    have c0 := (H15.out.ext.cells _ _ hsw).trans C0.out
    have c1 := (H15.out.ext.cells _ _ hsw).trans C1.out
    go_wp2_with fail
    refine (toAutomaton_any _ _ a _ (AN.out.ext H15.out.ext) (AF.out.ext H15.out.ext)).mono ?_
    rintro e w16 ⟨b16, b16', -, -, rfl, hk16, hr16, hx16⟩
    have N16 := hide (hk16.rows hNo.out.1 hNo.out.2.1 hNo.out.2.2)
    have F16 := hide (SInts.of_row hr16 hFb hFi.out)
    have H16 := hide (H15.out.grow hx16)
    clear hk16 hr16 hx16 c0 c1
    go_wp2_with fail
    refine (ComplementI_any _ _ a _ N16.out F16.out).mono ?_
    rintro e w17 ⟨ok', rows', fins', hV', A8, c8, A8', c8', rfl, hO⟩
    obtain ⟨rfl, rfl, rfl⟩ := HV.out.uniq hV'
    obtain ⟨hc8, hc8', hx17, kb8, b8, m8, f8, hA8⟩ := H16.out.newG hO
    have H17 := hide (hA8.newC [.slice A8 rows.length c8, .slice A8' fins.length c8'] 27 rfl)
    have w3w17 : w3.heap.size < w17.heap.size := Nat.lt_of_lt_of_le hsw3 hA8.ext.size
    have d0 := ((hide hA8).out.ext.cells _ _ hsw3).trans D0.out
    have d1 := ((hide hA8).out.ext.cells _ _ hsw3).trans D1.out
    clear hO hx17 hA8 hV'
    go_wp2_with fail
    have hG17 := (show OutW _ _ A8 rows kb8 ∧ OwnC _ A8' b8 m8 f8 fins ∧ _ from H17.out.p 1 _ rfl)
    refine (eqAutomaton_same _ _ _ _ ⟨rows, fins⟩ _ (OutW.srows (fins := fins) OKA.out hG17.1 hc8) (SInts.own hc8' (show fins.length * 8 ≤ 140737488355328 by omega) hG17.2.1 OKA.out.i64) (SN.out.ext H17.out.ext) (SF.out.ext H17.out.ext)).mono ?_
    rintro e w18 ⟨rfl, hx18⟩
    have H18 := hide (H17.out.grow hx18)
    clear hG17 hx18 d0 d1
    have g0 := (H18.out.cellC 2 rfl 0 rfl).1
    have g1 := (H18.out.cellC 2 rfl 1 rfl).1
    have hh18 := (show MkW w18 A7 rows kb7 ∧ (0 < fins.length → A7' = some ⟨b7, 0, none⟩) ∧ HeldW w18 rows kb7 1 rows.length ∧ HeldF w18 b7 fins.length (1 + szR rows rows.length) from H18.out.p 3 _ rfl)
    have HH18 := hide hh18
    clear hh18
    go_wp2_with fail
    refine (heldAutomaton_any _ _ _ _ rows fins.length kb7 b7 1 _ HH18.out.1 HH18.out.2.1 HH18.out.2.2.1 HH18.out.2.2.2 (by omega) (by omega) (by omega) (by omega) (by omega)).mono ?_
    rintro e w19 ⟨rfl, hx19⟩
    have HX19 := hide (HX4.out.trans (H18.out.ext.trans hx19))
    clear hx19 g0 g1
    go_wp2
    go_ret
    exact Ret.mk rfl HX19.out
end Go.Proofs.Ytomnbpmcjiamiaa
