/- MinimizeAutomaton, in the reference and in the program. -/
import Derived.Test.YtdiedghaoleblaaQ27
namespace Go.Proofs.Ytdiedghaoleblaa
open Go.RowKit

set_option maxHeartbeats 4000000 in
theorem MinimizeS_any (vn vf : Value) (a : Au) (w : World) (hN : SRows w vn a.next) (hF : SInts w vf a.final) :
    Calls Try.prog 11 #[.agg #[vn, vf]] w fun e w' => ∃ ok rows fins, MinV a ok rows fins ∧ SpT ok rows fins w e w' := by
  have hN0 := hide hN
  have hF0 := hide hF
  obtain ⟨A, c, rfl, -, hln⟩ := hN.form
  obtain ⟨A', c', rfl, -, hlf⟩ := hF.form
  clear hN hF
  have h0 := ((Apt.nil_ (Ext.refl w)).newC [.slice A a.next.length c, .slice A' a.final.length c'] 26 rfl).newC [.slice none 0 0, .slice none 0 0] 26 rfl
  simp only [World.size_alloc] at h0
  have H0 := hide h0
  clear h0
  go_enter Try.func11, Try.ntmps11
  go_wp2_with fail
  refine (validAutomaton_any _ _ a _ (hN0.out.ext H0.out.ext) (hF0.out.ext H0.out.ext)).mono ?_
  rintro e w1 ⟨rfl, hx1⟩
  have H1 := hide (H0.out.grow hx1)
  have a0 := (H1.out.cellC 1 rfl 0 rfl).1
  have a1 := (H1.out.cellC 1 rfl 1 rfl).1
  clear hx1
  cases hv : vAut a with
  | false =>
    obtain ⟨r0, y0⟩ := H1.out.cellC 0 rfl 0 rfl
    obtain ⟨r1, y1⟩ := H1.out.cellC 0 rfl 1 rfl
    have HV := hide hv
    clear hv
    go_wp2
    refine bodyPost_ret (v := .tuple #[.agg #[.slice none 0 0, .slice none 0 0], .bool false]) ?res rfl ?_
    case res =>
      unfold results
      simp only [Try.f11]
      go_simp
    refine ⟨false, [], [], ?_, _, _, rfl, SRows.nil0 _, SInts.nil0 _, ((H1.out.set 0 (w.heap.size + 1) _ rfl 0 (.slice none 0 0) (by simp)).set 0 (w.heap.size + 1) _ rfl 1 (.slice none 0 0) (by simp)).ext⟩
    unfold MinV
    rw [if_neg (by rw [HV.out]; simp)]
    exact ⟨rfl, rfl, rfl⟩
  | true =>
    have HV := hide hv
    clear hv
    go_wp2_with fail
    refine (total_any _ _ a _ (hN0.out.ext H1.out.ext) (hF0.out.ext H1.out.ext) HV.out).mono ?_
    rintro e w2 ⟨vn2, vf2, rfl, hM2, hx2⟩
    have H2 := hide (H1.out.grow hx2)
    have HM2 := hide hM2
    obtain ⟨q1, q2, q3, q4, q5, q6, rfl, rfl, -⟩ := hM2
    clear hx2 a0 a1
    go_wp2_with fail
    refine (minimalS_any _ _ _ _ HM2.out).mono ?_
    rintro e w3 ⟨L, hL, vn3, vf3, kb, rfl, hA3⟩
    have HA3 := hide hA3
    have HL := hide hL
    have H3 := hide (H2.out.grow hA3.ext)
    obtain ⟨r0, y0⟩ := H3.out.cellC 0 rfl 0 rfl
    obtain ⟨r1, y1⟩ := H3.out.cellC 0 rfl 1 rfl
    have hres : w.heap.size + 1 < w2.heap.size := (H2.out.d 0 _ rfl (w.heap.size + 1) rfl).2
    obtain ⟨A3, c3, rfl, -⟩ := (show OwnW w2.heap.size w3 vn3 _ kb from hA3.p 0 _ rfl).form
    obtain ⟨A4, c4, rfl, -⟩ := (show AppI w2.heap.size w3 vf3 _ from hA3.p 1 _ rfl).form
    obtain ⟨rows, hrows⟩ : ∃ rows, rows = (mEnd (totM a) L (clF (totM a))).rows := ⟨_, rfl⟩
    obtain ⟨fins, hfins⟩ : ∃ fins, fins = (mEnd (totM a) L (clF (totM a))).fins := ⟨_, rfl⟩
    rw [← hrows, ← hfins] at HA3 ⊢
    have HI := hide (show IsMin (totM a) rows fins from ⟨L, HL.out, hrows, hfins⟩)
    clear hA3 hL hrows hfins
    go_wp2
    refine bodyPost_ret (v := .tuple #[.agg #[.slice A3 rows.length c3, .slice A4 fins.length c4], .bool true]) ?res rfl ?_
    case res =>
      unfold results
      simp only [Try.f11]
      go_simp
    have hok := HI.out.ok (totM_ok HV.out)
    refine ⟨true, rows, fins, ?_, _, _, rfl, ?_, ?_, ((H3.out.set 0 (w.heap.size + 1) _ rfl 0 _ (by simp)).set 0 (w.heap.size + 1) _ rfl 1 _ (by simp)).ext⟩
    · unfold MinV
      rw [if_pos HV.out]
      exact ⟨HI.out, rfl⟩
    · exact (show OwnW w2.heap.size _ _ rows kb from HA3.out.far (i := 0) rfl hres _ _).rows hok.rows.1 hok.rows.2.1 hok.rows.2.2
    · exact (show AppI w2.heap.size _ _ fins from HA3.out.far (i := 1) rfl hres _ _).sints (by have := hok.fl; omega) hok.i64
set_option maxHeartbeats 4000000 in
theorem MinimizeI_any (vn vf : Value) (a : Au) (w : World) (hN : SRows w vn a.next) (hF : SInts w vf a.final) :
    Calls Try.prog 10 #[.agg #[vn, vf]] w fun e w' => ∃ ok rows fins, MinV a ok rows fins ∧ OutT ok rows fins w e w' := by
  have hN0 := hide hN
  have hF0 := hide hF
  obtain ⟨A, c, rfl, -, hln⟩ := hN.form
  obtain ⟨A', c', rfl, -, hlf⟩ := hF.form
  clear hN hF
  have h0 := ((Apt.nil_ (Ext.refl w)).newC [.slice A a.next.length c, .slice A' a.final.length c'] 26 rfl).newC [.slice none 0 0, .slice none 0 0] 26 rfl
  simp only [World.size_alloc] at h0
  have H0 := hide h0
  clear h0
  go_enter Try.func10, Try.ntmps10
  go_wp2_with fail
  refine (ValidAutomatonI_any _ _ a _ (hN0.out.ext H0.out.ext) (hF0.out.ext H0.out.ext)).mono ?_
  rintro e w1 ⟨rfl, hx1⟩
  have H1 := hide (H0.out.grow hx1)
  have a0 := (H1.out.cellC 1 rfl 0 rfl).1
  have a1 := (H1.out.cellC 1 rfl 1 rfl).1
  clear hx1
  cases hv : vAut a with
  | false =>
    obtain ⟨r0, y0⟩ := H1.out.cellC 0 rfl 0 rfl
    obtain ⟨r1, y1⟩ := H1.out.cellC 0 rfl 1 rfl
    have HV := hide hv
    clear hv
    go_wp2
    refine bodyPost_ret (v := .tuple #[.agg #[.slice none 0 0, .slice none 0 0], .bool false]) ?res rfl ?_
    case res =>
      unfold results
      simp only [Try.f10]
      go_simp
    refine ⟨false, [], [], ?_, none, 0, none, 0, rfl, OutP.nil_ ((H1.out.set 0 (w.heap.size + 1) _ rfl 0 (.slice none 0 0) (by simp)).set 0 (w.heap.size + 1) _ rfl 1 (.slice none 0 0) (by simp)).ext⟩
    unfold MinV
    rw [if_neg (by rw [HV.out]; simp)]
    exact ⟨rfl, rfl, rfl⟩
  | true =>
    have HV := hide hv
    clear hv
    go_wp2_with fail
    refine (machineOf_any _ _ a _ (hN0.out.ext H1.out.ext) (hF0.out.ext H1.out.ext) HV.out).mono ?_
    intro e w2 hnm
    obtain ⟨vn2, vf2, rfl, hM2, hx2⟩ := RdM.mach HV.out hnm
    have H2 := hide (H1.out.grow hx2)
    have HM2 := hide hM2
    obtain ⟨q1, q2, q3, q4, q5, q6, rfl, rfl, -⟩ := hM2
    clear hx2 a0 a1 hnm
    go_wp2_with fail
    refine (minimalI_any _ _ _ _ HM2.out).mono ?_
    rintro e w3 ⟨L, hL, hmi⟩
    obtain ⟨rows, hrows⟩ : ∃ rows, rows = (mEnd (totM a) L (clF (totM a))).rows := ⟨_, rfl⟩
    obtain ⟨fins, hfins⟩ : ∃ fins, fins = (mEnd (totM a) L (clF (totM a))).fins := ⟨_, rfl⟩
    rw [← hrows, ← hfins] at hmi
    have HI := hide (show IsMin (totM a) rows fins from ⟨L, hL, hrows, hfins⟩)
    rw [MinI, if_pos (tot_small HV.out HI.out)] at hmi
    obtain ⟨A3, c3, A4, c4, rfl, hO⟩ := hmi
    have HO := hide hO
    have hx3 : Ext w2 w3 := by obtain ⟨-, -, -, -, -, -, -, -, -, hx⟩ := hO; exact hx
    have H3 := hide (H2.out.grow hx3)
    obtain ⟨r0, y0⟩ := H3.out.cellC 0 rfl 0 rfl
    obtain ⟨r1, y1⟩ := H3.out.cellC 0 rfl 1 rfl
    have hres : w.heap.size + 1 < w2.heap.size := (H2.out.d 0 _ rfl (w.heap.size + 1) rfl).2
    clear hL hrows hfins hO hx3
    go_wp2
    refine bodyPost_ret (v := .tuple #[.agg #[.slice A3 rows.length c3, .slice A4 fins.length c4], .bool true]) ?res rfl ?_
    case res =>
      unfold results
      simp only [Try.f10]
      go_simp
    refine ⟨true, rows, fins, ?_, A3, c3, A4, c4, rfl, HO.out.far H2.out.ext (by omega) hres _ _⟩
    unfold MinV
    rw [if_pos HV.out]
    exact ⟨HI.out, rfl⟩
end Go.Proofs.Ytdiedghaoleblaa
