/- ComplementAutomaton of the reference. -/
import Derived.Test.YtomnbpmcjiamiaaMcN
namespace Go.Proofs.Ytomnbpmcjiamiaa
open Go.RowKit
set_option maxRecDepth 100000 in
set_option maxHeartbeats 8000000 in
theorem ComplementS_any (vn vf : Value) (a : Au) (w : World) (hN : SRows w vn a.next) (hF : SInts w vf a.final) :
    Calls Try.prog 14 #[.agg #[vn, vf]] w fun e w' => ∃ ok rows fins, CmpV a ok rows fins ∧ SpT ok rows fins w e w' := by
  have hN0 := hide hN
  have hF0 := hide hF
  obtain ⟨A, c, rfl, -, hln⟩ := hN.form
  obtain ⟨A', c', rfl, -, hlf⟩ := hF.form
  clear hN hF
  have h0 := ((Apt.nil_ (Ext.refl w)).newC [.slice A a.next.length c, .slice A' a.final.length c'] 27 rfl).newC [.slice none 0 0, .slice none 0 0] 27 rfl
  simp only [World.size_alloc] at h0
  have H0 := hide h0
  clear h0
  go_enter Try.func14, Try.ntmps14
  go_wp2_with fail
  refine (validAutomaton_any _ _ a _ (hN0.out.ext H0.out.ext) (hF0.out.ext H0.out.ext)).mono ?_
  rintro e w1 ⟨rfl, hx1⟩
  have H1 := hide (H0.out.grow hx1)
  have a0 := (H1.out.cellC 1 rfl 0 rfl).1
  have a1 := (H1.out.cellC 1 rfl 1 rfl).1
  clear hx1
  cases hv : vAut a with
  | false =>
    obtain ⟨r0, y0⟩ := H1.out.cellC 0 rfl 0 rfl
    obtain ⟨r1, y1⟩ := H1.out.cellC 0 rfl 1 rfl
    have HV := hide hv
    clear hv
    go_wp2
    refine bodyPost_ret (v := .tuple #[.agg #[.slice none 0 0, .slice none 0 0], .bool false]) ?res rfl ?_
    case res =>
      unfold results
      simp only [Try.f14]
      go_simp
    refine ⟨false, [], [], ?_, _, _, rfl, SRows.nil0 _, SInts.nil0 _, ((H1.out.set 0 (w.heap.size + 1) _ rfl 0 (.slice none 0 0) (by simp)).set 0 (w.heap.size + 1) _ rfl 1 (.slice none 0 0) (by simp)).ext⟩
    unfold CmpV
    rw [if_neg (by rw [HV.out]; simp)]
    exact ⟨rfl, rfl, rfl⟩
  | true =>
    have HV := hide hv
    have HM := hide (totM_ok hv)
    clear hv
    go_wp2_with fail
    refine (total2_any _ _ a _ (hN0.out.ext H1.out.ext) (hF0.out.ext H1.out.ext) HV.out).mono ?_
    rintro e w2 ⟨vn2, vf2, kb, rfl, hA2⟩
    generalize htm : totM a = m at *
    have HTM := hide htm
    clear htm
    have hn := HM.out.le
    have HFL := hide HM.out.fl
    have hfb : m.fin.length ≤ 100 := by have := HFL.out; omega
    have hpos := HM.out.pos
    obtain ⟨An, cn, rfl, hcn⟩ := (show OwnW w1.heap.size w2 vn2 m.nx kb from hA2.p 1 _ rfl).form
    have hB2 := (show AppB w1.heap.size w2 vf2 m.fin from hA2.p 0 _ rfl)
    obtain ⟨Af, cf, rfl, hcf⟩ := hB2.form
    obtain ⟨g, rfl, -, hRB⟩ := RdB.ofApp hB2 (by have := HFL.out; omega)
    have H2 := hide (H1.out.grow hA2.ext)
    have hA2' := hA2.upd 0 _ (iL g m.fin.length cf (mF m)) rfl (Keep.refl _ _) hRB (fun k hk => by have e : k = g := hk; subst e; exact ⟨.inl rfl, (hA2.d 0 _ rfl k rfl).2⟩) (iL_st _ _ _ _)
    have HA2 := hide ((show Apt w1 w2 [iL g m.fin.length cf (mF m), iW w1.heap.size (.slice An m.nx.length cn) m.nx kb] from hA2').newC [.slice An m.nx.length cn, .slice (some ⟨g, 0, none⟩) m.fin.length cf] 45 rfl)
    have HMN := hide (negM_ok HM.out)
    clear hA2 hB2 hRB hA2' a0 a1
    go_wp2
    go_loopw [5] (fun i wr => ∃ k : Nat, i = .int .i64 k ∧ k ≤ m.fin.length ∧ Apt w1 wr [iC w2.heap.size [.slice An m.nx.length cn, .slice (some ⟨g, 0, none⟩) m.fin.length cf], iL g m.fin.length cf (negF (mF m) k), iW w1.heap.size (.slice An m.nx.length cn) m.nx kb]) (fun i _ => m.fin.length - (intOf i).toNat)
    case atStart => exact ⟨0, rfl, by omega, HA2.out⟩
    case round =>
      obtain ⟨k, rfl, hk, hA⟩ := hrel
      have HA := hide hA
      have m0 := (hA.cellC 0 rfl 0 rfl).1
      have m1 := (hA.cellC 0 rfl 1 rfl).1
      have hmW : w2.heap.size < wr.heap.size := (hA.d 0 _ rfl w2.heap.size rfl).2
      by_cases hlt : k < m.fin.length
      · have hkI : (k : Int) < m.fin.length := by omega
        obtain ⟨c0, z0, hgW⟩ := (show RdB wr g m.fin.length cf _ from hA.p 1 _ rfl).cell hlt
        rw [show negF (mF m) k k = mF m k by unfold negF; rw [if_neg (by omega)]] at c0
        clear hA
        go_wp2
        refine wp_region_any (by kernel_rfl) ?_
        change wpAny _ _ _ _ _ _ _ (World.drew _)
        refine wpAny_ix ((Ext.refl _).drew) 10 [0,1,2,3,4,5,6,7,8,9] [10] (by kernel_rfl) rfl ?_; simp only [nths, nth1]
        iterate 10 (apply quiet_val; (focus rfl); (focus (intro w' hw'; have hk' := hw'.cells; go_simp; all_goals exact rfl)); simp only [Act.put, List.setIfInBounds_toArray, List.set_cons_succ, List.set_cons_zero])
        refine wpQuiet_nil ?_
        intro w5 hx5
        have H5 := hide (HA.out.grow hx5)
        obtain ⟨c0, z0, hgW⟩ := (show RdB w5 g m.fin.length cf _ from H5.out.p 1 _ rfl).cell hlt
        clear m0 m1 hmW hx5
        go_wp2
        go_roundw
        case rel => exact ⟨k + 1, by go_num, by omega, H5.out.setL 1 rfl k (!mF m k) (fun j _ => negF_step _ _ _)⟩
        case measure => simp [intOf]; omega
      · obtain rfl : k = m.fin.length := by omega
        have hRM : RdM wr (.slice An m.nx.length cn) (.slice (some ⟨g, 0, none⟩) m.fin.length cf) (negM m) := by
          have hrb := (show RdB wr g m.fin.length cf _ from hA.p 1 _ rfl)
          have q := HMN.out.okRows
          have := RdM.of (c := cf) (off := 0) (b := g) HMN.out ((show OwnW w1.heap.size wr _ m.nx kb from hA.p 2 _ rfl).rows q.1 q.2.1 q.2.2) (by show m.nx.length ≤ _; have := HFL.out; omega) (hA.d 1 _ rfl g rfl).2 (fun s hs => by
            have hs' : s < m.nx.length := hs
            rw [Nat.zero_add, (hrb.cell (i := s) (by have := HFL.out; omega)).1, negM_fin HM.out hs', negF, if_pos (by have := HFL.out; omega)])
          rw [HFL.out]
          exact this
        have HRM := hide hRM
        have H3 := hide (H1.out.grow hA.ext)
        clear hA hRM
        go_wp2_with fail
        refine (minimalS_any _ _ _ _ HRM.out).mono ?_
        rintro e w3 ⟨L, hL, vn3, vf3, kb3, rfl, hA3⟩
        have H3 := hide (H3.out.grow hA3.ext)
        have hres : w.heap.size + 1 < wr.heap.size := by have := hA3.ext; exact (by have := (H1.out.d 0 _ rfl (w.heap.size + 1) rfl).2; have := HA.out.ext.size; omega)
        have hOW := (show OwnW wr.heap.size w3 vn3 _ kb3 from hA3.p 0 _ rfl)
        obtain ⟨A3, c3, rfl, -⟩ := hOW.form
        have hOI := (show AppI wr.heap.size w3 vf3 _ from hA3.p 1 _ rfl)
        obtain ⟨A4, c4, rfl, -⟩ := hOI.form
        obtain ⟨rows, hrows⟩ : ∃ rows, rows = (mEnd (negM m) L (clF (negM m))).rows := ⟨_, rfl⟩
        obtain ⟨fins, hfins⟩ : ∃ fins, fins = (mEnd (negM m) L (clF (negM m))).fins := ⟨_, rfl⟩
        rw [← hrows, ← hfins] at hA3 ⊢
        have HA3 := hide hA3
        have HI := hide (show IsMin (negM m) rows fins from ⟨L, hL, hrows, hfins⟩)
        clear hA3 hL hrows hfins hOW hOI
        go_wp2_with fail
        refine (limited_any A3 A4 rows.length c3 fins.length c4 _).mono ?_
        rintro e w4 ⟨hx4, rfl⟩
        have H4 := hide (H3.out.grow hx4)
        have HA4 := hide (HA3.out.grow hx4)
        obtain ⟨r0, y0⟩ := H4.out.cellC 0 rfl 0 rfl
        obtain ⟨r1, y1⟩ := H4.out.cellC 0 rfl 1 rfl
        have hok := HI.out.ok HMN.out
        have HOK := hide hok
        clear hx4 hok m0 m1
        by_cases h8 : rows.length ≤ 8
        · have HC := hide (show CmpV a true rows fins by unfold CmpV; rw [if_pos HV.out, HTM.out]; exact ⟨rows, fins, HI.out, by rw [if_pos h8]; exact ⟨rfl, rfl, rfl⟩⟩)
          rw [limA_yes h8]
          clear h8
          go_wp2
          refine bodyPost_ret (v := .tuple #[.agg #[.slice A3 rows.length c3, .slice A4 fins.length c4], .bool true]) ?res rfl ?_
          case res =>
            unfold results
            simp only [Try.f14]
            go_simp
          refine ⟨true, rows, fins, HC.out, _, _, rfl, ?_, ?_, ((H4.out.set 0 (w.heap.size + 1) _ rfl 0 _ (by simp)).set 0 (w.heap.size + 1) _ rfl 1 _ (by simp)).ext⟩
          · exact (show OwnW wr.heap.size _ _ rows kb3 from HA4.out.far (i := 0) rfl hres _ _).rows HOK.out.rows.1 HOK.out.rows.2.1 HOK.out.rows.2.2
          · exact (show AppI wr.heap.size _ _ fins from HA4.out.far (i := 1) rfl hres _ _).sints (by have := HOK.out.fl; omega) HOK.out.i64
        · have HC := hide (show CmpV a false [] [] by unfold CmpV; rw [if_pos HV.out, HTM.out]; exact ⟨rows, fins, HI.out, by rw [if_neg h8]; exact ⟨rfl, rfl, rfl⟩⟩)
          rw [limA_no h8]
          clear h8
          go_wp2
          refine bodyPost_ret (v := .tuple #[.agg #[.slice none 0 0, .slice none 0 0], .bool false]) ?res rfl ?_
          case res =>
            unfold results
            simp only [Try.f14]
            go_simp
          exact ⟨false, [], [], HC.out, _, _, rfl, SRows.nil0 _, SInts.nil0 _, ((H4.out.set 0 (w.heap.size + 1) _ rfl 0 (.slice none 0 0) (by simp)).set 0 (w.heap.size + 1) _ rfl 1 (.slice none 0 0) (by simp)).ext⟩
end Go.Proofs.Ytomnbpmcjiamiaa
