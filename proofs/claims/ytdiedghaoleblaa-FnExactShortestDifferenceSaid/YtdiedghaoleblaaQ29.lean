/- The classes of the program. -/
import Derived.Test.YtdiedghaoleblaaMcC
import Derived.Test.YtdiedghaoleblaaUtlA
import Derived.Test.YtdiedghaoleblaaTail
namespace Go.Proofs.Ytdiedghaoleblaa
open Go.RowKit

theorem RdC.sints {w : World} {v : Value} {n : Nat} {C : Nat → Nat} (h : RdC w v n C) (hn : n ≤ 100) (hC : ∀ s, C s ≤ s) : SInts w v (fL n C) := by
  obtain ⟨b, off, c, rfl, h2, h3, h4⟩ := h
  refine ⟨_, c, by rw [fL_len], by rw [fL_len]; exact h3, by rw [fL_len]; omega, fun i hi => ?_, fun _ => ⟨b, off, rfl, h2, fun i hi => ?_⟩⟩
  · rw [fL_len] at hi
    rw [fL_at n C hi]
    have := hC i
    unfold I64; omega
  · rw [fL_len] at hi
    rw [fL_at n C hi]
    exact h4 i hi
set_option maxHeartbeats 2000000 in
theorem same0_any (vn vf : Value) (m : Mc) (a b bm : Nat) (w : World) (hM : RdM w vn vf m) (h0 : w.cell? ⟨bm, 0, none⟩ = some vn) (h1 : w.cell? ⟨bm, 1, none⟩ = some vf) (hbm : bm < w.heap.size) (ha : a < m.nx.length) (hb : b < m.nx.length) :
    Calls Try.prog 85 #[.int .i64 a, .int .i64 b, .pointer (some ⟨bm, 0, none⟩)] w (Ret (.bool (e0 m a b)) w) := by
  obtain ⟨b1, off, c, b2, off2, c2, rfl, rfl, hb1, hb2, hc, hc2, hR, hF, hm⟩ := hM
  have f1 := hF a ha
  have f2 := hF b hb
  have haI : (a : Int) < m.nx.length := by omega
  have hbI : (b : Int) < m.nx.length := by omega
  clear hR hF hm
  go_enter Try.func85, Try.ntmps85
  go_wp2
  refine wp_region_ext (by kernel_rfl) (by kernel_rfl) ?_
  iterate 12 (apply quiet_val; (focus rfl); (focus (intro w' hw'; have hk' := hw'.cells; go_simp; all_goals exact rfl)); simp only [Act.put, List.setIfInBounds_toArray, List.set_cons_succ, List.set_cons_zero])
  refine wpQuiet_nil ?_
  intro w2 hx2
  go_wp2
  go_ret
  exact Ret.mk rfl hx2
set_option maxHeartbeats 4000000 in
theorem sameK_any (vn vf vc : Value) (m : Mc) (C : Nat → Nat) (s t bb bm : Nat) (w : World) (hM : RdM w vn vf m) (hC : RdC w vc m.nx.length C) (h0 : w.cell? ⟨bm, 0, none⟩ = some vn) (hbm : bm < w.heap.size) (hcb : w.cell? ⟨bb, 0, none⟩ = some vc) (hbb : bb < w.heap.size) (hs : s < m.nx.length) (ht : t < m.nx.length) :
    Calls Try.prog 87 #[.int .i64 s, .int .i64 t, .pointer (some ⟨bb, 0, none⟩), .pointer (some ⟨bm, 0, none⟩)] w (Ret (.bool (eC m C s t)) w) := by
  obtain ⟨b, off, c, b2, off2, c2, rfl, rfl, hb, hb2, hc, hc2, hR, hF, hm⟩ := hM
  obtain ⟨b4, off4, c4, rfl, hb4, hc4, hcl⟩ := hC
  have HM := hide hm
  have HCL := hide hcl
  have gs := hcl s hs
  have gt := hcl t ht
  obtain ⟨bs, os, cs, fs, hbs, -, hrs⟩ := hR s hs
  obtain ⟨bt, ot, ct, ft, hbt, -, hrt⟩ := hR t ht
  have HRS := hide hrs
  have HRT := hide hrt
  have hsI : (s : Int) < m.nx.length := by omega
  have htI : (t : Int) < m.nx.length := by omega
  clear hR hF hcl hrs hrt hm
  go_enter Try.func87, Try.ntmps87
  go_wp2
  refine wp_region_ext (by kernel_rfl) (by kernel_rfl) ?_
  iterate 9 (apply quiet_val; (focus rfl); (focus (intro w' hw'; have hk' := hw'.cells; go_simp; all_goals exact rfl)); simp only [Act.put, List.setIfInBounds_toArray, List.set_cons_succ, List.set_cons_zero])
  refine wpQuiet_nil ?_
  intro w2 hx2
  have HX2 := hide hx2
  have h0 := (hx2.cells _ _ hbm).trans h0
  have hcb := (hx2.cells _ _ hbb).trans hcb
  have fs := (hx2.cells _ _ hb).trans fs
  have ft := (hx2.cells _ _ hb).trans ft
  have hbm := Nat.lt_of_lt_of_le hbm hx2.size
  have hbb := Nat.lt_of_lt_of_le hbb hx2.size
  have hb := Nat.lt_of_lt_of_le hb hx2.size
  have hbs := Nat.lt_of_lt_of_le hbs hx2.size
  have hbt := Nat.lt_of_lt_of_le hbt hx2.size
  have hb4 := Nat.lt_of_lt_of_le hb4 hx2.size
  clear gs gt hx2
  by_cases h5 : C s = C t
  · have h0' : ((C s : Int) != (C t : Int)) = false := by simp [h5]
    have H0 := hide h5
    clear h5
    go_wp2
    go_loopw [17] (fun i wr => ∃ k : Nat, k ≤ 6 ∧ i = .int .i64 k ∧ eK m C s t k ∧ Ext w2 wr) (fun i _ => 6 - (intOf i).toNat)
    case atStart => exact ⟨0, by omega, rfl, fun v hv => by omega, Ext.refl _⟩
    case round =>
      obtain ⟨k, hk, rfl, hv, hx⟩ := hrel
      have HV := hide hv
      have HX := hide hx
      clear hv
      have hx2w := HX2.out.trans hx
      by_cases hlt : k < 6
      · have hkI : (k : Int) < 6 := by omega
        have m1 := (hx.cells _ _ hbm).trans h0
        have m2 := (hx.cells _ _ hbb).trans hcb
        have f1 := (hx.cells _ _ hb).trans fs
        have f2 := (hx.cells _ _ hb).trans ft
        have r1 := ((hx2w).cells _ _ (by have := HX2.out.size; omega)).trans (HRS.out k hlt)
        have r2 := ((hx2w).cells _ _ (by have := HX2.out.size; omega)).trans (HRT.out k hlt)
        have l1 := HM.out.lt hs hlt
        have l2 := HM.out.lt ht hlt
        have q1 := ((hx2w).cells _ _ (by have := HX2.out.size; omega)).trans (HCL.out _ l1)
        have q2 := ((hx2w).cells _ _ (by have := HX2.out.size; omega)).trans (HCL.out _ l2)
        have l1I : (mT m s k : Int) < m.nx.length := by omega
        have l2I : (mT m t k : Int) < m.nx.length := by omega
        have s1 := Nat.lt_of_lt_of_le hbm hx.size
        have s6 := Nat.lt_of_lt_of_le hbb hx.size
        have s2 := Nat.lt_of_lt_of_le hb hx.size
        have s3 := Nat.lt_of_lt_of_le hbs hx.size
        have s4 := Nat.lt_of_lt_of_le hbt hx.size
        have s5 := Nat.lt_of_lt_of_le hb4 hx.size
        clear hx hx2w h0 hcb fs ft
        go_wp2
        refine wp_region_ext (by kernel_rfl) (by kernel_rfl) ?_
        iterate 23 (apply quiet_val; (focus rfl); (focus (intro w' hw'; have hk' := hw'.cells; go_simp; all_goals exact rfl)); simp only [Act.put, List.setIfInBounds_toArray, List.set_cons_succ, List.set_cons_zero])
        refine wpQuiet_nil ?_
        intro w5 hx5
        have HX5 := hide (HX.out.trans hx5)
        clear hx5
        by_cases he : C (mT m s k) = C (mT m t k)
        · have he' : ((C (mT m s k) : Int) != (C (mT m t k) : Int)) = false := by simp [he]
          have HE := hide he
          clear he
          go_wp2
          go_roundw
          case rel => exact ⟨k + 1, by omega, by go_num, fun v hv => by
            by_cases e : v = k
            · subst e; exact HE.out
            · exact HV.out v (by omega), HX5.out⟩
          case measure => simp [intOf]; omega
        · have he' : ((C (mT m s k) : Int) != (C (mT m t k) : Int)) = true := by rw [bne_iff_ne]; omega
          have HE := hide he
          clear he
          go_wp2
          go_ret
          refine Ret.mk (ret_b ?_) (HX2.out.trans HX5.out)
          cases hq : eC m C s t with
          | false => rfl
          | true => exact absurd ((eC_iff.1 hq).2 k hlt) HE.out
      · obtain rfl : k = 6 := by omega
        go_wp2
        go_ret
        exact Ret.mk (ret_b (eC_iff.2 ⟨H0.out, HV.out⟩).symm) (HX2.out.trans HX.out)
  · have h0' : ((C s : Int) != (C t : Int)) = true := by rw [bne_iff_ne]; omega
    have H0 := hide h5
    clear h5
    go_wp2
    go_ret
    refine Ret.mk (ret_b ?_) HX2.out
    cases hq : eC m C s t with
    | false => rfl
    | true => exact absurd (eC_iff.1 hq).1 H0.out
end Go.Proofs.Ytdiedghaoleblaa
/- The classes of the program, whole; the live states. -/
namespace Go.Proofs.Ytdiedghaoleblaa
open Go.RowKit

/-- f answers as the relation e at the states. -/
def SameOK (f : Nat) (caps : Array Value) (n : Nat) (e : Nat → Nat → Bool) (w : World) : Prop :=
  (∀ args W, (callFunc f args).run Try.prog W = .ok (.enter f args) W) ∧ ∀ a b W, a < n → b < n → Ext w W → Calls Try.prog f (#[.int .i64 a, .int .i64 b] ++ caps) W (Ret (.bool (e a b)) W)
theorem SameOK.ext {f : Nat} {caps : Array Value} {n : Nat} {e : Nat → Nat → Bool} {w w' : World} (h : SameOK f caps n e w) (hx : Ext w w') : SameOK f caps n e w' := ⟨h.1, fun a b W ha hb hW => h.2 a b W ha hb (hx.trans hW)⟩
set_option maxHeartbeats 8000000 in
theorem classesI_any (vn vf : Value) (m : Mc) (w : World) (hM : RdM w vn vf m) : Calls Try.prog 67 #[.agg #[vn, vf]] w (NewC m.nx.length (clF m) w) := by
  have HM := hide hM
  obtain ⟨b, off, c, b2, off2, c2, rfl, rfl, hb, hb2, hc, hc2, hR, hF, hm⟩ := hM
  have HMM := hide hm
  have hn := hm.le
  clear hm hR hF
  go_enter Try.func67, Try.ntmps67
  go_wp2_with (at_make; go_must (refine wpList_make_gen _ rfl _ _ 24 rfl 3 (.int .i64 0) 1 8 Try.underlying24 Try.infoI .i64 .i64 m.nx.length rfl rfl (by omega) (by omega) (fun _ => .int .i64 0) (fun i _ => by simp [Value.cells, Nat.mod_one]) ?_); intro w1 hrow hsz hx)
  have m0 : w1.cell? ⟨w.heap.size, 0, none⟩ = some (.slice (some ⟨b, off, none⟩) m.nx.length c) := (hx.cells w.heap.size 0 (by simp)).trans (by go_simp)
  have m1 : w1.cell? ⟨w.heap.size, 1, none⟩ = some (.slice (some ⟨b2, off2, none⟩) m.nx.length c2) := (hx.cells w.heap.size 1 (by simp)).trans (by go_simp)
  have hws : w.heap.size < w1.heap.size := by have := hx.size; simp at this; omega
  have HX1 := hide (((Ext.refl w).alloc _).trans hx)
  simp only [World.size_alloc] at hrow hsz
  rw [Nat.mul_one] at hrow
  have HROW := hide hrow
  have HF0 := hide (show SameOK 85 #[.pointer (some ⟨w.heap.size, 0, none⟩)] m.nx.length (EE m 0) w1 from ⟨callFunc_body Try.func85 (by decide) rfl, fun a b W ha hb hW => same0_any _ _ m a b w.heap.size W (HM.out.ext (HX1.out.trans hW)) ((hW.cells _ _ hws).trans m0) ((hW.cells _ _ hws).trans m1) (Nat.lt_of_lt_of_le hws hW.size) ha hb⟩)
  clear hx hrow
  go_loopg [3, 4] (m.nx.length + 1) (fun gk cls same wr => ∃ (j bc g : Nat) (caps : Array Value), gk + j = m.nx.length + 1 ∧ w.heap.size ≤ bc ∧ cls = .slice (some ⟨bc, 0, none⟩) m.nx.length m.nx.length ∧ wr.rowIs bc 3 m.nx.length (cRow (CC m j) m.nx.length) ∧ same = .func (.func g) #[] caps ∧ SameOK g caps m.nx.length (EE m j) wr ∧ j + 1 ≤ reps m.nx.length (CC m j) ∧ Ext w wr ∧ w.heap.size < wr.heap.size ∧ wr.cell? ⟨w.heap.size, 0, none⟩ = some (.slice (some ⟨b, off, none⟩) m.nx.length c) ∧ wr.cell? ⟨w.heap.size, 1, none⟩ = some (.slice (some ⟨b2, off2, none⟩) m.nx.length c2))
  case atStart =>
    refine ⟨0, w.heap.size + 1, _, _, by omega, by omega, rfl, ?_, rfl, HF0.out, reps_pos HMM.out 0, HX1.out, hws, m0, m1⟩
    refine HROW.out.congr fun x hx => ?_
    unfold cRow
    rw [if_pos hx]
    rfl
  case round =>
    obtain ⟨j, bc, g, caps, hj, hbc, rfl, hrc, rfl, hf, hrp, hxr, hws, m0, m1⟩ := hrel
    obtain ⟨W0, rfl⟩ : ∃ W0, W0 = wr := ⟨wr, rfl⟩
    have HRC := hide hrc
    have HF := hide hf
    have HRP := hide hrp
    have HXR := hide hxr
    have hcf := hf.1
    have hjn : j ≤ m.nx.length := by have := reps_le m.nx.length (CC m j); omega
    have hbcW : bc < W0.heap.size := hrc.lt
    clear hrc hf hrp hxr
    go_wp2_with (at_make; go_must (refine wpList_make_gen _ rfl _ _ 24 rfl 3 (.int .i64 0) 1 8 Try.underlying24 Try.infoI .i64 .i64 m.nx.length rfl rfl (by omega) (by omega) (fun _ => .int .i64 0) (fun i _ => by simp [Value.cells, Nat.mod_one]) ?_); intro w2 hrow hsz hx)
    rw [Nat.mul_one] at hrow
    obtain ⟨br, hbre⟩ : ∃ br, br = W0.heap.size := ⟨_, rfl⟩
    rw [← hbre] at hrow ⊢
    have HBR := hide hbre
    have HROW := hide hrow
    have HX2 := hide hx
    clear hrow hx hsz hbre
    go_loopw [18] (fun i wi => ∃ s : Nat, s ≤ m.nx.length ∧ i = .int .i64 s ∧ Ext W0 wi ∧ wi.rowIs br 3 m.nx.length (cRow (clS (EE m j)) s)) (fun i _ => m.nx.length - (intOf i).toNat)
    case atStart =>
      exact ⟨0, Nat.zero_le _, rfl, HX2.out, HROW.out⟩
    case round =>
      obtain ⟨s, hs, rfl, hxi, hri⟩ := hrel
      obtain ⟨W1, rfl⟩ : ∃ W1, W1 = wr := ⟨wr, rfl⟩
      have HXI := hide hxi
      have HRI := hide hri
      have hbrW := hri.lt
      by_cases hlt : s < m.nx.length
      · have hsI : (s : Int) < m.nx.length := by omega
        have c0 := hri.cell (i := s) hlt
        have z0 := hri.frozen s
        clear hxi hri
        go_wp2
        go_loopg [] (clS (EE m j) s) (fun gk wi => ∃ t : Nat, gk + t = clS (EE m j) s ∧ Ext W0 wi ∧ wi.rowIs br 3 m.nx.length (cRow1 (clS (EE m j)) s t))
        case atStart =>
          refine ⟨0, by omega, HXI.out.set (by have := HBR.out; simp; omega) _, ?_⟩
          exact (HRI.out.set s _).congr fun x _ => by unfold cRow1; rfl
        case round =>
          obtain ⟨t, ht, hxt, hrt⟩ := hrel
          have HXT := hide hxt
          have HRT := hide hrt
          have htn : t < m.nx.length := by have := clS_le (EE m j) s; omega
          have htI : (t : Int) < m.nx.length := by omega
          have c0 : wr.cell? ⟨br, s, none⟩ = some (.int .i64 t) := by rw [hrt.cell hlt]; unfold cRow1; rw [if_pos rfl]
          clear hxt hrt
          go_wp2_with fail
          refine (HF.out.2 t s _ htn hlt HXT.out).mono ?_
          rintro e w5 ⟨rfl, hx5⟩
          have HR5 := hide (hx5.row HRT.out)
          have c0 : w5.cell? ⟨br, s, none⟩ = some (.int .i64 t) := by rw [HR5.out.cell hlt]; unfold cRow1; rw [if_pos rfl]
          have z0 := HR5.out.frozen s
          have HX5 := hide (HXT.out.trans hx5)
          clear hx5
          cases hq : EE m j t s with
          | true =>
            have HQ := hide (show t = clS (EE m j) s by have := clS_min (eqv_EE m j) hq; omega)
            clear hq
            go_wp2
            go_roundw
            case rel => exact ⟨s + 1, by omega, by go_num, HX5.out, HR5.out.congr fun x _ => cRow1_done HQ.out x⟩
            case measure => simp [intOf]; omega
          | false =>
            have HQ := hide (show t < clS (EE m j) s by
              have h1 := clS_same (eqv_EE m j) s
              rcases Nat.lt_or_ge t (clS (EE m j) s) with h | h
              · exact h
              · have : t = clS (EE m j) s := by omega
                rw [← this, hq] at h1; cases h1)
            clear hq
            have htw := IntWalk.i64_in ((t : Int) + 1) (by omega)
            go_wp2
            go_roundg (gk - 1)
            case measure => have := HQ.out; omega
            case rel =>
              refine ⟨t + 1, by have := HQ.out; omega, HX5.out.set (by have := HBR.out; simp; omega) _, ?_⟩
              refine (HR5.out.set s _).congr fun x _ => ?_
              show (if x = s then _ else cRow1 _ s t x) = _
              rw [show (Value.int .i64 ((t : Int) + 1)) = Value.int .i64 ((t + 1 : Nat) : Int) by go_num]
              exact cRow1_set x
      · obtain rfl : s = m.nx.length := by omega
        clear hxi hri
        have hE : agr m.nx.length (clS (EE m j)) (CC m (j + 1)) := fun x _ => by rw [CC_succ]
        have HRD := hide ((NewC.rd HRI.out).congr hE)
        have HS1 := hide (HRD.out.sints hn (fun x => CC_le m (j + 1) x))
        have HRD0 := hide (NewC.rd (HXI.out.row HRC.out))
        have HS2 := hide (HRD0.out.sints hn (fun x => CC_le m j x))
        go_wp2_with fail
        refine (EqualI_any _ _ _ _ _ HS1.out HS2.out).mono ?_
        rintro e w5 ⟨rfl, hx5⟩
        have HX5 := hide (HXI.out.trans hx5)
        have HR5 := hide (hx5.row HRI.out)
        have HX15 := hide hx5
        cases hq : decide (fL m.nx.length (CC m (j + 1)) = fL m.nx.length (CC m j)) with
        | true =>
          have HQ := hide (fL_eq (of_decide_eq_true hq))
          clear hq hx5
          go_wp2
          go_ret
          refine ⟨bc, hbc, rfl, (HX5.out.row HRC.out).congr fun x hx => ?_, HXR.out.trans HX5.out⟩
          unfold cRow
          rw [if_pos hx, if_pos hx, clF_of HMM.out HQ.out (by omega) x hx]
        | false =>
          have HQ := hide (fun h => of_decide_eq_false hq (fL_ext h))
          have HG := hide (reps_grow HQ.out)
          have hjn2 : j + 1 ≤ m.nx.length := by have := HG.out; have := HRP.out; have := reps_le m.nx.length (CC m (j + 1)); omega
          have n0 := (HX5.out.cells _ _ hws).trans m0
          have n1 := (HX5.out.cells _ _ hws).trans m1
          have hws5 := Nat.lt_of_lt_of_le hws HX5.out.size
          clear hq hx5
          have hxa := (Ext.refl w5).alloc (.cells #[.slice (some ⟨br, 0, none⟩) m.nx.length m.nx.length] 24)
          have HXA := hide hxa
          have HFK := hide (show SameOK 87 #[.pointer (some ⟨w5.heap.size, 0, none⟩), .pointer (some ⟨w.heap.size, 0, none⟩)] m.nx.length (EE m (j + 1)) (w5.alloc (.cells #[.slice (some ⟨br, 0, none⟩) m.nx.length m.nx.length] 24)) from
            ⟨callFunc_body Try.func87 (by decide) rfl, fun a b W ha hb hW => sameK_any _ _ _ m (CC m (j + 1)) a b w5.heap.size w.heap.size W (HM.out.ext (HXR.out.trans (HX5.out.trans (hxa.trans hW)))) (HRD.out.ext (HX15.out.trans (hxa.trans hW))) ((hxa.trans hW).cells _ _ hws5 |>.trans n0) (Nat.lt_of_lt_of_le hws5 (hxa.trans hW).size) ((hW.cells w5.heap.size 0 (by simp)).trans (by go_simp)) (Nat.lt_of_lt_of_le (by simp) hW.size) ha hb⟩)
          clear hxa
          go_wp2
          go_roundg (gk - 1)
          case measure => omega
          case rel =>
            refine ⟨j + 1, br, _, _, by omega, ?_, rfl, ?_, rfl, HFK.out, ?_, HXR.out.trans (HX5.out.trans HXA.out), ?_, ?_, ?_⟩
            · have := HBR.out; have := HXR.out.size; omega
            · exact (HXA.out.row HR5.out).congr fun x hx => by unfold cRow; rw [if_pos hx, if_pos hx, hE x hx]
            · have := HG.out; have := HRP.out; omega
            · have := HXA.out.size; omega
            · exact (HXA.out.cells _ _ hws5).trans n0
            · exact (HXA.out.cells _ _ hws5).trans n1
end Go.Proofs.Ytdiedghaoleblaa
