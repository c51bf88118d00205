/- The classes of the program. -/
import Derived.Test.YtdiedghaoleblaaMcC
import Derived.Test.YtdiedghaoleblaaUtlA
import Derived.Test.YtdiedghaoleblaaTail
namespace Go.Proofs.Ytdiedghaoleblaa
open Go.RowKit

theorem RdC.sints {w : World} {v : Value} {n : Nat} {C : Nat → Nat} (h : RdC w v n C) (hn : n ≤ 100) (hC : ∀ s, C s ≤ s) : SInts w v (fL n C) := by
  obtain ⟨b, off, c, rfl, h2, h3, h4⟩ := h
  refine ⟨_, c, by rw [fL_len], by rw [fL_len]; exact h3, by rw [fL_len]; omega, fun i hi => ?_, fun _ => ⟨b, off, rfl, h2, fun i hi => ?_⟩⟩
  · rw [fL_len] at hi
    rw [fL_at n C hi]
    have := hC i
    unfold I64; omega
  · rw [fL_len] at hi
    rw [fL_at n C hi]
    exact h4 i hi
set_option maxHeartbeats 2000000 in
theorem same0_any (vn vf : Value) (m : Mc) (a b bm : Nat) (w : World) (hM : RdM w vn vf m) (h0 : w.cell? ⟨bm, 0, none⟩ = some vn) (h1 : w.cell? ⟨bm, 1, none⟩ = some vf) (hbm : bm < w.heap.size) (ha : a < m.nx.length) (hb : b < m.nx.length) :
    Calls Try.prog 85 #[.int .i64 a, .int .i64 b, .pointer (some ⟨bm, 0, none⟩)] w (Ret (.bool (e0 m a b)) w) := by
  obtain ⟨b1, off, c, b2, off2, c2, rfl, rfl, hb1, hb2, hc, hc2, hR, hF, hm⟩ := hM
  have f1 := hF a ha
  have f2 := hF b hb
  have haI : (a : Int) < m.nx.length := by omega
  have hbI : (b : Int) < m.nx.length := by omega
  clear hR hF hm
  go_enter Try.func85, Try.ntmps85
  go_wp2
  refine wp_region_ext (by kernel_rfl) (by kernel_rfl) ?_
  iterate 12 (apply quiet_val; (focus rfl); (focus (intro w' hw'; have hk' := hw'.cells; go_simp; all_goals exact rfl)); simp only [Act.put, List.setIfInBounds_toArray, List.set_cons_succ, List.set_cons_zero])
  refine wpQuiet_nil ?_
  intro w2 hx2
  go_wp2
  go_ret
  exact Ret.mk rfl hx2
set_option maxHeartbeats 4000000 in
theorem sameK_any (vn vf vc : Value) (m : Mc) (C : Nat → Nat) (s t bb bm : Nat) (w : World) (hM : RdM w vn vf m) (hC : RdC w vc m.nx.length C) (h0 : w.cell? ⟨bm, 0, none⟩ = some vn) (hbm : bm < w.heap.size) (hcb : w.cell? ⟨bb, 0, none⟩ = some vc) (hbb : bb < w.heap.size) (hs : s < m.nx.length) (ht : t < m.nx.length) :
    Calls Try.prog 87 #[.int .i64 s, .int .i64 t, .pointer (some ⟨bb, 0, none⟩), .pointer (some ⟨bm, 0, none⟩)] w (Ret (.bool (eC m C s t)) w) := by
  obtain ⟨b, off, c, b2, off2, c2, rfl, rfl, hb, hb2, hc, hc2, hR, hF, hm⟩ := hM
  obtain ⟨b4, off4, c4, rfl, hb4, hc4, hcl⟩ := hC
  have HM := hide hm
  have HCL := hide hcl
  have gs := hcl s hs
  have gt := hcl t ht
  obtain ⟨bs, os, cs, fs, hbs, -, hrs⟩ := hR s hs
  obtain ⟨bt, ot, ct, ft, hbt, -, hrt⟩ := hR t ht
  have HRS := hide hrs
  have HRT := hide hrt
  have hsI : (s : Int) < m.nx.length := by omega
  have htI : (t : Int) < m.nx.length := by omega
  clear hR hF hcl hrs hrt hm
  go_enter Try.func87, Try.ntmps87
  go_wp2
  refine wp_region_ext (by kernel_rfl) (by kernel_rfl) ?_
  iterate 9 (apply quiet_val; (focus rfl); (focus (intro w' hw'; have hk' := hw'.cells; go_simp; all_goals exact rfl)); simp only [Act.put, List.setIfInBounds_toArray, List.set_cons_succ, List.set_cons_zero])
  refine wpQuiet_nil ?_
  intro w2 hx2
  have HX2 := hide hx2
  have h0 := (hx2.cells _ _ hbm).trans h0
  have hcb := (hx2.cells _ _ hbb).trans hcb
  have fs := (hx2.cells _ _ hb).trans fs
  have ft := (hx2.cells _ _ hb).trans ft
  have hbm := Nat.lt_of_lt_of_le hbm hx2.size
  have hbb := Nat.lt_of_lt_of_le hbb hx2.size
  have hb := Nat.lt_of_lt_of_le hb hx2.size
  have hbs := Nat.lt_of_lt_of_le hbs hx2.size
  have hbt := Nat.lt_of_lt_of_le hbt hx2.size
  have hb4 := Nat.lt_of_lt_of_le hb4 hx2.size
  clear gs gt hx2
  by_cases h5 : C s = C t
  · have h0' : ((C s : Int) != (C t : Int)) = false := by simp [h5]
    have H0 := hide h5
    clear h5
    go_wp2
    go_loopw [17] (fun i wr => ∃ k : Nat, k ≤ 6 ∧ i = .int .i64 k ∧ eK m C s t k ∧ Ext w2 wr) (fun i _ => 6 - (intOf i).toNat)
    case atStart => exact ⟨0, by omega, rfl, fun v hv => by omega, Ext.refl _⟩
    case round =>
      obtain ⟨k, hk, rfl, hv, hx⟩ := hrel
      have HV := hide hv
      have HX := hide hx
      clear hv
      have hx2w := HX2.out.trans hx
      by_cases hlt : k < 6
      · have hkI : (k : Int) < 6 := by omega
        have m1 := (hx.cells _ _ hbm).trans h0
        have m2 := (hx.cells _ _ hbb).trans hcb
        have f1 := (hx.cells _ _ hb).trans fs
        have f2 := (hx.cells _ _ hb).trans ft
        have r1 := ((hx2w).cells _ _ (by have := HX2.out.size; omega)).trans (HRS.out k hlt)
        have r2 := ((hx2w).cells _ _ (by have := HX2.out.size; omega)).trans (HRT.out k hlt)
        have l1 := HM.out.lt hs hlt
        have l2 := HM.out.lt ht hlt
        have q1 := ((hx2w).cells _ _ (by have := HX2.out.size; omega)).trans (HCL.out _ l1)
        have q2 := ((hx2w).cells _ _ (by have := HX2.out.size; omega)).trans (HCL.out _ l2)
        have l1I : (mT m s k : Int) < m.nx.length := by omega
        have l2I : (mT m t k : Int) < m.nx.length := by omega
        have s1 := Nat.lt_of_lt_of_le hbm hx.size
        have s6 := Nat.lt_of_lt_of_le hbb hx.size
        have s2 := Nat.lt_of_lt_of_le hb hx.size
        have s3 := Nat.lt_of_lt_of_le hbs hx.size
        have s4 := Nat.lt_of_lt_of_le hbt hx.size
        have s5 := Nat.lt_of_lt_of_le hb4 hx.size
        clear hx hx2w h0 hcb fs ft
        go_wp2
        refine wp_region_ext (by kernel_rfl) (by kernel_rfl) ?_
        iterate 23 (apply quiet_val; (focus rfl); (focus (intro w' hw'; have hk' := hw'.cells; go_simp; all_goals exact rfl)); simp only [Act.put, List.setIfInBounds_toArray, List.set_cons_succ, List.set_cons_zero])
        refine wpQuiet_nil ?_
        intro w5 hx5
        have HX5 := hide (HX.out.trans hx5)
        clear hx5
        by_cases he : C (mT m s k) = C (mT m t k)
        · have he' : ((C (mT m s k) : Int) != (C (mT m t k) : Int)) = false := by simp [he]
          have HE := hide he
          clear he
          go_wp2
          go_roundw
          case rel => exact ⟨k + 1, by omega, by go_num, fun v hv => by
            by_cases e : v = k
            · subst e; exact HE.out
            · exact HV.out v (by omega), HX5.out⟩
          case measure => simp [intOf]; omega
        · have he' : ((C (mT m s k) : Int) != (C (mT m t k) : Int)) = true := by rw [bne_iff_ne]; omega
          have HE := hide he
          clear he
          go_wp2
          go_ret
          refine Ret.mk (ret_b ?_) (HX2.out.trans HX5.out)
          cases hq : eC m C s t with
          | false => rfl
          | true => exact absurd ((eC_iff.1 hq).2 k hlt) HE.out
      · obtain rfl : k = 6 := by omega
        go_wp2
        go_ret
        exact Ret.mk (ret_b (eC_iff.2 ⟨H0.out, HV.out⟩).symm) (HX2.out.trans HX.out)
  · have h0' : ((C s : Int) != (C t : Int)) = true := by rw [bne_iff_ne]; omega
    have H0 := hide h5
    clear h5
    go_wp2
    go_ret
    refine Ret.mk (ret_b ?_) HX2.out
    cases hq : eC m C s t with
    | false => rfl
    | true => exact absurd (eC_iff.1 hq).1 H0.out
end Go.Proofs.Ytdiedghaoleblaa
