/- ComplementAutomaton of the program. -/
import Derived.Test.YtomnbpmcjiamiaaMcN2
namespace Go.Proofs.Ytomnbpmcjiamiaa
open Go.RowKit

/-- All blocks from B on that W0 has, but one: they are as in W0. -/
def iZ (B g : Nat) (W0 : World) : Itm := ⟨fun k => B ≤ k ∧ k < W0.heap.size ∧ k ≠ g, fun W => ∀ k, B ≤ k → k < W0.heap.size → k ≠ g → W.heap[k]? = W0.heap[k]?⟩
theorem iZ_st (B g : Nat) (W0 : World) : (iZ B g W0).St := by
  intro W W' h hk k h1 h2 h3
  have h4 := h k h1 h2 h3
  have h5 : k < W.heap.size := by
    rw [Array.getElem?_eq_getElem h2] at h4
    exact (Array.getElem?_eq_some_iff.1 h4).1
  exact (hk.block k h5 ⟨h1, h2, h3⟩).trans h4
theorem RowV.keepZ {B g : Nat} {W0 W : World} {v : Value} {xs : List Int} {n : Nat} {f : Nat → Value} (h : RowV B W0 v xs) (hr : W0.rowIs g 4 n f) (hz : ∀ k, B ≤ k → k < W0.heap.size → k ≠ g → W.heap[k]? = W0.heap[k]?) : RowV B W v xs := by
  obtain ⟨g1, cap, f1, h1, h2, h3, ⟨c, h4, h5⟩, h6⟩ := h
  obtain ⟨c2, hb2, -⟩ := hr
  have hne : g1 ≠ g := by
    rintro rfl
    rw [hb2] at h4
    injection h4 with h4
    injection h4 with _ h4
    exact absurd h4 (by decide)
  exact ⟨g1, cap, f1, h1, h2, h3, ⟨c, (hz g1 h2 (Array.getElem?_eq_some_iff.1 h4).1 hne).trans h4, h5⟩, h6⟩
theorem AppR.keepZ {B g : Nat} {W0 W : World} {v : Value} {rs : List (List Int)} {n : Nat} {f : Nat → Value} (h : AppR B W0 v rs) (hr : W0.rowIs g 4 n f) (hz : ∀ k, B ≤ k → k < W0.heap.size → k ≠ g → W.heap[k]? = W0.heap[k]?) : AppR B W v rs := by
  obtain ⟨cells, h1, h2⟩ := h
  refine ⟨cells, ⟨h1.1, ?_⟩, fun i hi => ?_⟩
  · rcases h1.2 with hn | ⟨g1, cap, cur, e, hb, hgg, rest⟩
    · exact .inl hn
    · have hne : g1 ≠ g := by
        rintro rfl
        obtain ⟨c2, hb2, -⟩ := hr
        rw [hb2] at hgg
        injection hgg with hgg
        injection hgg with _ hgg
        exact absurd hgg (by decide)
      exact .inr ⟨g1, cap, cur, e, hb, (hz g1 hb (Array.getElem?_eq_some_iff.1 hgg).1 hne).trans hgg, rest⟩
  · obtain ⟨cv, h3, h4⟩ := h2 i hi
    exact ⟨cv, h3, h4.keepZ hr hz⟩
/-- The program's machine: its row of bools may be written. -/
theorem NewMach.to {a : Au} {w w' : World} {e : Ending} (hv : vAut a = true) (h : NewMach a w e w') :
    ∃ A n c g, e = .returned (.agg #[.slice A n c, .slice (some ⟨g, 0, none⟩) n n]) ∧ n = (totM a).nx.length ∧ Apt w w' [iL g n n (mF (totM a)), iZ w.heap.size g w'] ∧
      ∀ W, (iZ w.heap.size g w').P W → SRows W (.slice A n c) (totM a).nx := by
  obtain ⟨vn, b, he, hA, hb, hr, hx⟩ := h
  have hm := totM_ok hv
  obtain ⟨q1, q2, q3⟩ := hm.okRows
  obtain ⟨A, c, rfl, hc⟩ := hA.form
  rw [mRows_len] at he hc
  refine ⟨A, a.next.length + 1, c, b, he, (totM_len a).symm, ⟨fun i x hi => ?_, fun i x hi k hk => ?_, fun i x hi => ?_, fun i j x y hi hj hij k hx hy => ?_, hx⟩, fun W hW => ?_⟩
  · match i, hi with
    | 0, hi =>
      injection hi with hi; subst hi
      exact ⟨Nat.le_refl _, _, hr, fun i hi => by rw [mFin, List.take_length, totM_fin a hi]⟩
    | 1, hi => injection hi with hi; subst hi; exact fun k _ _ _ => rfl
  · match i, hi with
    | 0, hi =>
      injection hi with hi; subst hi
      have e : k = b := hk
      subst e
      exact ⟨hb, hr.lt⟩
    | 1, hi => injection hi with hi; subst hi; exact ⟨hk.1, hk.2.1⟩
  · match i, hi with
    | 0, hi => injection hi with hi; subst hi; exact iL_st _ _ _ _
    | 1, hi => injection hi with hi; subst hi; exact iZ_st _ _ _
  · match i, j, hi, hj with
    | 0, 0, _, _ => exact hij rfl
    | 1, 1, _, _ => exact hij rfl
    | 0, 1, hi, hj => injection hi with hi; injection hj with hj; subst hi; subst hj; exact hy.2.2 hx
    | 1, 0, hi, hj => injection hi with hi; injection hj with hj; subst hi; subst hj; exact hx.2.2 hy
  · have := (hA.keepZ hr hW).rows q1 q2 q3
    rwa [mRows_len] at this
set_option maxRecDepth 100000 in
set_option maxHeartbeats 8000000 in
theorem ComplementI_any (vn vf : Value) (a : Au) (w : World) (hN : SRows w vn a.next) (hF : SInts w vf a.final) :
    Calls Try.prog 15 #[.agg #[vn, vf]] w fun e w' => ∃ ok rows fins, CmpV a ok rows fins ∧ OutT ok rows fins w e w' := by
  have hN0 := hide hN
  have hF0 := hide hF
  obtain ⟨A, c, rfl, -, hln⟩ := hN.form
  obtain ⟨A', c', rfl, -, hlf⟩ := hF.form
  clear hN hF
  have h0 := ((Apt.nil_ (Ext.refl w)).newC [.slice A a.next.length c, .slice A' a.final.length c'] 27 rfl).newC [.slice none 0 0, .slice none 0 0] 27 rfl
  simp only [World.size_alloc] at h0
  have H0 := hide h0
  clear h0
  go_enter Try.func15, Try.ntmps15
  go_wp2_with fail
  refine (ValidAutomatonI_any _ _ a _ (hN0.out.ext H0.out.ext) (hF0.out.ext H0.out.ext)).mono ?_
  rintro e w1 ⟨rfl, hx1⟩
  have H1 := hide (H0.out.grow hx1)
  have a0 := (H1.out.cellC 1 rfl 0 rfl).1
  have a1 := (H1.out.cellC 1 rfl 1 rfl).1
  clear hx1
  cases hv : vAut a with
  | false =>
    obtain ⟨r0, y0⟩ := H1.out.cellC 0 rfl 0 rfl
    obtain ⟨r1, y1⟩ := H1.out.cellC 0 rfl 1 rfl
    have HV := hide hv
    clear hv
    go_wp2
    refine bodyPost_ret (v := .tuple #[.agg #[.slice none 0 0, .slice none 0 0], .bool false]) ?res rfl ?_
    case res =>
      unfold results
      simp only [Try.f15]
      go_simp
    refine ⟨false, [], [], ?_, none, 0, none, 0, rfl, OutP.nil_ ((H1.out.set 0 (w.heap.size + 1) _ rfl 0 (.slice none 0 0) (by simp)).set 0 (w.heap.size + 1) _ rfl 1 (.slice none 0 0) (by simp)).ext⟩
    unfold CmpV
    rw [if_neg (by rw [HV.out]; simp)]
    exact ⟨rfl, rfl, rfl⟩
  | true =>
    have HV := hide hv
    have HM := hide (totM_ok hv)
    clear hv
    go_wp2_with fail
    refine (machineOf_any _ _ a _ (hN0.out.ext H1.out.ext) (hF0.out.ext H1.out.ext) HV.out).mono ?_
    intro e w2 hnm
    obtain ⟨An, n, cn, g, rfl, hnn, hA2, hSR⟩ := hnm.to HV.out
    have HSR := hide hSR
    generalize htm : totM a = m at *
    have HTM := hide htm
    have HNN := hide hnn
    clear htm
    have hnb : n ≤ 100 := by have := HM.out.le; omega
    have hpos : 0 < n := by have := HM.out.pos; omega
    have H2 := hide (H1.out.grow hA2.ext)
    have HA2 := hide (hA2.newC [.slice An n cn, .slice (some ⟨g, 0, none⟩) n n] 50 rfl)
    have HMN := hide (negM_ok HM.out)
    clear hA2 a0 a1 hnm hSR hnn
    go_wp2
    go_loopw [16] (fun i wr => ∃ k : Nat, i = .int .i64 k ∧ k ≤ n ∧ Apt w1 wr [iC w2.heap.size [.slice An n cn, .slice (some ⟨g, 0, none⟩) n n], iL g n n (negF (mF m) k), iZ w1.heap.size g w2]) (fun i _ => n - (intOf i).toNat)
    case atStart => exact ⟨0, rfl, by omega, HA2.out⟩
    case round =>
      obtain ⟨k, rfl, hk, hA⟩ := hrel
      have HA := hide hA
      have m0 := (hA.cellC 0 rfl 0 rfl).1
      have m1 := (hA.cellC 0 rfl 1 rfl).1
      have hmW : w2.heap.size < wr.heap.size := (hA.d 0 _ rfl w2.heap.size rfl).2
      by_cases hlt : k < n
      · have hkI : (k : Int) < n := by omega
        obtain ⟨c0, z0, hgW⟩ := (show RdB wr g n n _ from hA.p 1 _ rfl).cell hlt
        rw [show negF (mF m) k k = mF m k by unfold negF; rw [if_neg (by omega)]] at c0
        clear hA
        go_wp2
        go_roundw
        case rel => exact ⟨k + 1, by go_num, by omega, HA.out.setL 1 rfl k (!mF m k) (fun j _ => negF_step _ _ _)⟩
        case measure => simp [intOf]; omega
      · obtain rfl : k = n := by omega
        have hRM : RdM wr (.slice An k cn) (.slice (some ⟨g, 0, none⟩) k k) (negM m) := by
          have hrb := (show RdB wr g k k _ from hA.p 1 _ rfl)
          have e := HNN.out
          have := RdM.of (c := k) (off := 0) (b := g) HMN.out (HSR.out _ (hA.p 2 _ rfl)) (by show m.nx.length ≤ _; omega) (hA.d 1 _ rfl g rfl).2 (fun s hs => by
            have hs' : s < m.nx.length := hs
            rw [Nat.zero_add, (hrb.cell (i := s) (by omega)).1, negM_fin HM.out hs', negF, if_pos (by omega)])
          rw [show (negM m).nx.length = k from e.symm] at this
          exact this
        have HRM := hide hRM
        have H3 := hide (H1.out.grow hA.ext)
        clear hA hRM
        go_wp2_with fail
        refine (minimalI_any _ _ _ _ HRM.out).mono ?_
        rintro e w3 ⟨L, hL, hmi⟩
        obtain ⟨rows, hrows⟩ : ∃ rows, rows = (mEnd (negM m) L (clF (negM m))).rows := ⟨_, rfl⟩
        obtain ⟨fins, hfins⟩ : ∃ fins, fins = (mEnd (negM m) L (clF (negM m))).fins := ⟨_, rfl⟩
        rw [← hrows, ← hfins] at hmi
        have HI := hide (show IsMin (negM m) rows fins from ⟨L, hL, hrows, hfins⟩)
        have hres : w.heap.size + 1 < wr.heap.size := by have := (H1.out.d 0 _ rfl (w.heap.size + 1) rfl).2; have := HA.out.ext.size; omega
        by_cases h8 : rows.length ≤ 8
        · rw [MinI, if_pos h8] at hmi
          have HC := hide (show CmpV a true rows fins by unfold CmpV; rw [if_pos HV.out, HTM.out]; exact ⟨rows, fins, HI.out, by rw [if_pos h8]; exact ⟨rfl, rfl, rfl⟩⟩)
          obtain ⟨A3, c3, A4, c4, rfl, hO⟩ := hmi
          have HO := hide hO
          have hx3 : Ext wr w3 := by obtain ⟨-, -, -, -, -, -, -, -, -, hx⟩ := hO; exact hx
          have H4 := hide (H3.out.grow hx3)
          obtain ⟨r0, y0⟩ := H4.out.cellC 0 rfl 0 rfl
          obtain ⟨r1, y1⟩ := H4.out.cellC 0 rfl 1 rfl
          clear hL hrows hfins hO hx3 h8 m0 m1
          go_wp2
          refine bodyPost_ret (v := .tuple #[.agg #[.slice A3 rows.length c3, .slice A4 fins.length c4], .bool true]) ?res rfl ?_
          case res =>
            unfold results
            simp only [Try.f15]
            go_simp
          exact ⟨true, rows, fins, HC.out, A3, c3, A4, c4, rfl, HO.out.far H3.out.ext (by omega) hres _ _⟩
        · rw [MinI, if_neg h8] at hmi
          obtain ⟨rfl, hx3⟩ := hmi
          have HC := hide (show CmpV a false [] [] by unfold CmpV; rw [if_pos HV.out, HTM.out]; exact ⟨rows, fins, HI.out, by rw [if_neg h8]; exact ⟨rfl, rfl, rfl⟩⟩)
          have H4 := hide (H3.out.grow hx3)
          obtain ⟨r0, y0⟩ := H4.out.cellC 0 rfl 0 rfl
          obtain ⟨r1, y1⟩ := H4.out.cellC 0 rfl 1 rfl
          clear hL hrows hfins hx3 h8 m0 m1
          go_wp2
          refine bodyPost_ret (v := .tuple #[.agg #[.slice none 0 0, .slice none 0 0], .bool false]) ?res rfl ?_
          case res =>
            unfold results
            simp only [Try.f15]
            go_simp
          exact ⟨false, [], [], HC.out, none, 0, none, 0, rfl, OutP.nil_ ((H4.out.set 0 (w.heap.size + 1) _ rfl 0 (.slice none 0 0) (by simp)).set 0 (w.heap.size + 1) _ rfl 1 (.slice none 0 0) (by simp)).ext⟩
end Go.Proofs.Ytomnbpmcjiamiaa
