/- The walk of the reference's ShortestDifference. Printed by gensds.py. -/
import Derived.Test.YtdiedghaoleblaaQ28
import Derived.Test.YtdiedghaoleblaaMcPr
import Derived.Test.YtdiedghaoleblaaCpyE
import Derived.Deep.CutBlock
import Derived.Deep.DeepCutAuto
namespace Go.Proofs.Ytdiedghaoleblaa
open Go.RowKit
theorem SdNo.le {m : Mc} (hm : MOk m) {k : Nat} (h : SdNo m k) : k ≤ 100 := by
  rcases Nat.eq_zero_or_pos k with h0 | h0
  · omega
  · have h1 := (h (k - 1) (by omega)).1
    have h2 := (sdK_inv hm (k - 1)).le
    have h3 := hm.le
    omega
theorem SdNo.succ {m : Mc} {k : Nat} (h : SdNo m k) (hk : k < (sdK m k).st.length) (hf : mF m (at0 (sdK m k).st k).toNat = false) : SdNo m (k + 1) := fun j hj => by
  by_cases e : j = k
  · subst e; exact ⟨hk, hf⟩
  · exact h j (by omega)
/-- Words of the search are such as memory holds. -/
theorem SdI.words {m : Mc} (hm : MOk m) {S : Sd} {i u : Nat} (h : SdI m S i u) : S.ws.length ≤ 100 ∧ S.st.length ≤ 100 ∧ (∀ k, k < S.ws.length → (rw0 S.ws k).length ≤ 100) ∧ (∀ k, k < S.ws.length → ∀ j, j < (rw0 S.ws k).length → I64 (at0 (rw0 S.ws k) j)) ∧ ∀ k, k < S.st.length → I64 (at0 S.st k) := by
  have h1 := h.le
  have h2 := hm.le
  have h3 := h.len
  refine ⟨by omega, by omega, fun k hk => by have := h.wl k (by omega); omega, fun k hk j hj => ?_, fun k hk => ?_⟩
  · have := allR_at (h.wd k (by omega)) hj
    unfold I64; omega
  · have := h.rg k hk
    unfold I64; omega
theorem OwnW.srows9 {m : Mc} (hm : MOk m) {S : Sd} {i u B : Nat} {w : World} {v : Value} {kb : Nat → Nat} (hI : SdI m S i u) (h : OwnW B w v S.ws kb) : SRows w v S.ws := by
  obtain ⟨q1, -, q3, q4, -⟩ := hI.words hm
  exact h.rows (by omega) (fun k hk => by have := q3 k hk; omega) q4
/-- The cell that holds row k, and the row. -/
theorem OwnW.cell9 {B : Nat} {w : World} {v : Value} {rs : List (List Int)} {kb : Nat → Nat} (h : OwnW B w v rs kb) {k : Nat} (hk : k < rs.length) : ∃ g c cap, v = .slice (some ⟨g, 0, none⟩) rs.length cap ∧ g < w.heap.size ∧ w.cell? ⟨g, k, none⟩ = some (.slice (some ⟨kb k, 0, none⟩) (rw0 rs k).length c) := by
  obtain ⟨cells, h1, -, h2⟩ := h
  rcases h1.2 with ⟨e1, e2⟩ | ⟨g, cap, cur, e1, hg, hh, hnc, hm, hcs, htk⟩
  · omega
  · obtain ⟨c, f, h3, -⟩ := h2 k hk
    refine ⟨g, c, cap, e1, (Array.getElem?_eq_some_iff.1 hh).1, ?_⟩
    have e3 : (cur.toList.take (rs.length * 1))[k]? = cells[k]? := by rw [htk]
    rw [List.getElem?_take, if_pos (by omega), h3, Array.getElem?_toList] at e3
    simp [World.cell?, hh, e3]
/-- What ShortestDifference hands back. -/
def SdGot (a b : Au) (w : World) (e : Ending) (w' : World) : Prop := ∃ ok ws A c, SdX a b ok ws ∧ e = .returned (.tuple #[.slice A ws.length c, .bool ok]) ∧ SInts w' (.slice A ws.length c) ws ∧ Ext w w'
theorem SdGot.no {a b : Au} {w w' : World} (h : ¬ (vAut a = true ∧ vAut b = true)) (hx : Ext w w') : SdGot a b w (.returned (.tuple #[.slice none 0 0, .bool false])) w' :=
  ⟨false, [], none, 0, by rw [SdX, if_neg h]; exact ⟨rfl, rfl⟩, rfl, SInts.nil0 w', hx⟩
theorem AptSd.start (u6 : World) : Apt u6 ((((u6.alloc (.cells #[.int .i64 0] 3)).alloc (.cells #[] 3)).alloc (.cells #[.slice (some ⟨u6.heap.size + 1, 0, none⟩) 0 0] 24)).alloc (.cells #[.slice (some ⟨u6.heap.size, 0, none⟩) 1 1, .slice (some ⟨u6.heap.size + 1 + 1, 0, none⟩) 1 1] 75))
    [iC (u6.heap.size + 1 + 1 + 1) [.slice (some ⟨u6.heap.size, 0, none⟩) 1 1, .slice (some ⟨u6.heap.size + 1 + 1, 0, none⟩) 1 1], iW u6.heap.size (.slice (some ⟨u6.heap.size + 1 + 1, 0, none⟩) 1 1) [[]] (fun _ => u6.heap.size + 1), iI u6.heap.size (.slice (some ⟨u6.heap.size, 0, none⟩) 1 1) [0]] := by
  have h1 := (Apt.nil_ (Ext.refl u6)).mkI (AppI.lit1 u6 0 rfl) ((Ext.refl u6).alloc (.cells #[.int .i64 0] 3))
  obtain ⟨wA, hwA⟩ : ∃ wA, wA = u6.alloc (.cells #[.int .i64 0] 3) := ⟨_, rfl⟩
  rw [← hwA] at h1 ⊢
  have hsA : wA.heap.size = u6.heap.size + 1 := by rw [hwA]; simp
  have hO : OwnW u6.heap.size ((wA.alloc (.cells #[] 3)).alloc (.cells #[.slice (some ⟨u6.heap.size + 1, 0, none⟩) 0 0] 24)) (.slice (some ⟨u6.heap.size + 1 + 1, 0, none⟩) 1 1) [[]] (fun _ => u6.heap.size + 1) := by
    have hl := World.ownsRow_lit (size := 1) (e := 24) (wA.alloc (.cells #[] 3)) #[.slice (some ⟨u6.heap.size + 1, 0, none⟩) 0 0] 1 (Nat.le_refl _) (by unfold maxLen; omega) rfl
    rw [World.size_alloc, hsA] at hl
    refine ⟨_, ownsRow_base hl (by omega), fun i j hi hj _ => by simp at hi hj; omega, fun i hi => ?_⟩
    obtain rfl : i = 0 := by simp at hi; omega
    refine ⟨0, fun _ => undef, rfl, Nat.zero_le _, by show u6.heap.size ≤ u6.heap.size + 1; omega, ?_, fun j hj => absurd hj (by simp [rw0])⟩
    have hr := World.rowIs_alloc wA #[] 3 (fun _ => undef) (fun j hj => absurd hj (by simp))
    rw [hsA] at hr
    exact ((Ext.refl _).alloc _).row hr
  have h2 := h1.push (iW u6.heap.size (.slice (some ⟨u6.heap.size + 1 + 1, 0, none⟩) 1 1) [[]] (fun _ => u6.heap.size + 1)) (((Ext.refl wA).alloc (.cells #[] 3)).alloc (.cells #[.slice (some ⟨u6.heap.size + 1, 0, none⟩) 0 0] 24)) hO (fun k hk => by
    simp only [World.size_alloc]
    rcases hk with hk | ⟨i, hi, rfl⟩
    · have hk : some (u6.heap.size + 1 + 1) = some k := hk
      injection hk with hk
      omega
    · show wA.heap.size ≤ u6.heap.size + 1 ∧ u6.heap.size + 1 < _
      omega) (iW_st _ _ _ _)
  have h3 := h2.newC [.slice (some ⟨u6.heap.size, 0, none⟩) 1 1, .slice (some ⟨u6.heap.size + 1 + 1, 0, none⟩) 1 1] 75 rfl
  simp only [World.size_alloc, hsA] at h3
  exact h3
set_option maxRecDepth 100000 in
set_option maxHeartbeats 32000000 in
theorem ShortestDifferenceS_any (vn vf vn2 vf2 : Value) (a b : Au) (w : World) (hN : SRows w vn a.next) (hF : SInts w vf a.final) (hN2 : SRows w vn2 b.next) (hF2 : SInts w vf2 b.final) :
    Calls Try.prog 26 #[.agg #[vn, vf], .agg #[vn2, vf2]] w (SdGot a b w) := by
  have HN := hide hN
  have HF := hide hF
  have HN2 := hide hN2
  have HF2 := hide hF2
  obtain ⟨A1, c1, rfl, -⟩ := hN.form
  obtain ⟨A2, c2, rfl, -⟩ := hF.form
  obtain ⟨A3, c3, rfl, -⟩ := hN2.form
  obtain ⟨A4, c4, rfl, -⟩ := hF2.form
  clear hN hF hN2 hF2
  obtain ⟨w0, hw0⟩ : ∃ w0, w0 = (w.alloc (.cells #[.slice A1 a.next.length c1, .slice A2 a.final.length c2] 26)).alloc (.cells #[.slice A3 b.next.length c3, .slice A4 b.final.length c4] 26) := ⟨_, rfl⟩
  have HX0 := hide (show Ext w w0 by rw [hw0]; exact ((Ext.refl w).alloc _).alloc _)
  have k0 : w0.cell? ⟨w.heap.size, 0, none⟩ = some (.slice A1 a.next.length c1) := by rw [hw0]; go_simp
  have k1 : w0.cell? ⟨w.heap.size, 1, none⟩ = some (.slice A2 a.final.length c2) := by rw [hw0]; go_simp
  have k2 : w0.cell? ⟨w.heap.size + 1, 0, none⟩ = some (.slice A3 b.next.length c3) := by rw [hw0]; go_simp
  have k3 : w0.cell? ⟨w.heap.size + 1, 1, none⟩ = some (.slice A4 b.final.length c4) := by rw [hw0]; go_simp
  have ks : w.heap.size < w0.heap.size := by rw [hw0]; simp; omega
  have kt : w.heap.size + 1 < w0.heap.size := by rw [hw0]; simp
  go_enter Try.func26, Try.ntmps26
  go_wp2_with fail
  rw [← hw0]
  clear hw0
  refine (validAutomaton_any _ _ a _ (HN.out.ext HX0.out) (HF.out.ext HX0.out)).mono ?_
  rintro e w1 ⟨rfl, hx1⟩
  have k0 := (hx1.cells _ _ ks).trans k0
  have k1 := (hx1.cells _ _ ks).trans k1
  have k2 := (hx1.cells _ _ kt).trans k2
  have k3 := (hx1.cells _ _ kt).trans k3
  have ks := Nat.lt_of_lt_of_le ks hx1.size
  have kt := Nat.lt_of_lt_of_le kt hx1.size
  have HX1 := hide (HX0.out.trans hx1)
  clear hx1
  cases hva : vAut a with
  | false =>
    have HNO := hide (show ¬ (vAut a = true ∧ vAut b = true) by rw [hva]; simp)
    clear hva
    go_wp2
    go_ret2
    exact SdGot.no HNO.out HX1.out
  | true =>
    have HVA := hide hva
    clear hva
    go_wp2_with fail
    refine (validAutomaton_any _ _ b _ (HN2.out.ext HX1.out) (HF2.out.ext HX1.out)).mono ?_
    rintro e w2 ⟨rfl, hx2⟩
    have k0 := (hx2.cells _ _ ks).trans k0
    have k1 := (hx2.cells _ _ ks).trans k1
    have k2 := (hx2.cells _ _ kt).trans k2
    have k3 := (hx2.cells _ _ kt).trans k3
    have ks := Nat.lt_of_lt_of_le ks hx2.size
    have kt := Nat.lt_of_lt_of_le kt hx2.size
    have HX2 := hide (HX1.out.trans hx2)
    clear hx2
    cases hvb : vAut b with
    | false =>
      have HNO := hide (show ¬ (vAut a = true ∧ vAut b = true) by rw [hvb]; simp)
      clear hvb
      go_wp2
      go_ret2
      exact SdGot.no HNO.out HX2.out
    | true =>
      have HVB := hide hvb
      clear hvb
      go_wp2_with fail
      refine (total_any _ _ a _ (HN.out.ext HX2.out) (HF.out.ext HX2.out) HVA.out).mono ?_
      rintro e w3 ⟨vn3, vf3, rfl, hM3, hx3⟩
      have k2 := (hx3.cells _ _ kt).trans k2
      have k3 := (hx3.cells _ _ kt).trans k3
      have kt := Nat.lt_of_lt_of_le kt hx3.size
      have HX3 := hide (HX2.out.trans hx3)
      have HMa := hide hM3
      obtain ⟨p1, o1, e1, g1, s1, d1, rfl, rfl, -⟩ := hM3
      clear hx3 k0 k1 ks
      go_upto_region 4 with fail
      obtain ⟨w4, hw4⟩ : ∃ x, x = w3.alloc (.cells #[.slice (some ⟨p1, o1, none⟩) (totM a).nx.length e1, .slice (some ⟨g1, s1, none⟩) (totM a).nx.length d1] 59) := ⟨_, rfl⟩
      obtain ⟨q6, hq6⟩ : ∃ x, x = w3.heap.size := ⟨_, rfl⟩
      have hx4 : Ext w3 w4 := by rw [hw4]; exact (Ext.refl w3).alloc _
      have x0 : w4.cell? ⟨q6, 0, none⟩ = some (.slice (some ⟨p1, o1, none⟩) (totM a).nx.length e1) := by rw [hw4, hq6]; go_simp
      have x1 : w4.cell? ⟨q6, 1, none⟩ = some (.slice (some ⟨g1, s1, none⟩) (totM a).nx.length d1) := by rw [hw4, hq6]; go_simp
      have xs : q6 < w4.heap.size := by rw [hw4, hq6]; simp
      rw [← hw4, ← hq6]
      clear hw4 hq6
      have k2 := (hx4.cells _ _ kt).trans k2
      have k3 := (hx4.cells _ _ kt).trans k3
      have kt := Nat.lt_of_lt_of_le kt hx4.size
      have HX4 := hide (HX3.out.trans hx4)
      have HMa := hide (HMa.out.ext hx4)
      clear hx4
      go_wp2_with fail
      refine (total_any _ _ b _ (HN2.out.ext HX4.out) (HF2.out.ext HX4.out) HVB.out).mono ?_
      rintro e w5 ⟨vn5, vf5, rfl, hM5, hx5⟩
      have x0 := (hx5.cells _ _ xs).trans x0
      have x1 := (hx5.cells _ _ xs).trans x1
      have xs := Nat.lt_of_lt_of_le xs hx5.size
      have HX5 := hide (HX4.out.trans hx5)
      have HMa := hide (HMa.out.ext hx5)
      have HMb := hide hM5
      obtain ⟨p2, o2, e2, g2, s2, d2, rfl, rfl, -⟩ := hM5
      clear hx5 k2 k3 kt
      go_upto_region 5 with fail
      obtain ⟨u6, hu6⟩ : ∃ x, x = w5.alloc (.cells #[.slice (some ⟨p2, o2, none⟩) (totM b).nx.length e2, .slice (some ⟨g2, s2, none⟩) (totM b).nx.length d2] 59) := ⟨_, rfl⟩
      obtain ⟨q7, hq7⟩ : ∃ x, x = w5.heap.size := ⟨_, rfl⟩
      have hx6 : Ext w5 u6 := by rw [hu6]; exact (Ext.refl w5).alloc _
      have y0 : u6.cell? ⟨q7, 0, none⟩ = some (.slice (some ⟨p2, o2, none⟩) (totM b).nx.length e2) := by rw [hu6, hq7]; go_simp
      have y1 : u6.cell? ⟨q7, 1, none⟩ = some (.slice (some ⟨g2, s2, none⟩) (totM b).nx.length d2) := by rw [hu6, hq7]; go_simp
      have ys : q7 < u6.heap.size := by rw [hu6, hq7]; simp
      rw [← hu6, ← hq7]
      clear hu6 hq7
      have x0 := (hx6.cells _ _ xs).trans x0
      have x1 := (hx6.cells _ _ xs).trans x1
      have xs := Nat.lt_of_lt_of_le xs hx6.size
      have HX6 := hide (HX5.out.trans hx6)
      have HMa := hide (HMa.out.ext hx6)
      have HMb := hide (HMb.out.ext hx6)
      clear hx6
      obtain ⟨m, hmd⟩ : ∃ m, m = totM a := ⟨_, rfl⟩
      obtain ⟨m', hmd'⟩ : ∃ m', m' = totM b := ⟨_, rfl⟩
      have HMD := hide (And.intro hmd hmd')
      have hm1 := totM_ok HVA.out
      have hm2 := totM_ok HVB.out
      have hle := pr2_le HVA.out HVB.out
      rw [← hmd] at HMa hm1 hle x0 x1
      rw [← hmd'] at HMb hm2 hle y0 y1
      rw [← hmd']
      clear hmd hmd'
      have hMa := HMa.out
      have hMb := HMb.out
      obtain ⟨b1, oo1, ee1, gg1, ss1, dd1, hv1, hv2, hb1, hg1, -, -, hR1, hF1, -⟩ := hMa
      injection hv1 with hv1 _ hv3
      injection hv1 with hv1
      injection hv1 with hv1 hv4 _
      injection hv2 with hv2 _ hv5
      injection hv2 with hv2
      injection hv2 with hv2 hv6 _
      subst hv1 hv2 hv3 hv4 hv5 hv6
      obtain ⟨b2, oo2, ee2, gg2, ss2, dd2, hv1, hv2, hb2, hg2, -, -, hR2, hF2, -⟩ := hMb
      injection hv1 with hv1 _ hv3
      injection hv1 with hv1
      injection hv1 with hv1 hv4 _
      injection hv2 with hv2 _ hv5
      injection hv2 with hv2
      injection hv2 with hv2 hv6 _
      subst hv1 hv2 hv3 hv4 hv5 hv6
      have HR1 := hide hR1
      have HR2 := hide hR2
      have HF1 := hide hF1
      have HF2 := hide hF2
      have HM1 := hide hm1
      have HM2 := hide hm2
      obtain ⟨N, hN⟩ : ∃ N, N = m.nx.length * m'.nx.length := ⟨_, rfl⟩
      have hNb : N ≤ 100 := by omega
      have HN9 := hide hN
      have HLE := hide hle
      have hp1 := hm1.pos
      have hp2 := hm2.pos
      have hl1 := hm1.le
      have hl2 := hm2.le
      have hnil : ¬ m'.nx = [] := fun e => by rw [e] at hp2; exact absurd hp2 (by simp)
      obtain ⟨P, hP⟩ : ∃ P, P = prM bne m m' := ⟨_, rfl⟩
      have HP := hide hP
      have HPO := hide (show MOk P by rw [hP]; exact prM_ok bne hm1 hm2 hle)
      have HPL := hide (show P.nx.length = m.nx.length * m'.nx.length by rw [hP]; exact prM_len bne m m')
      have X0 := hide x0
      have X1 := hide x1
      have Y0 := hide y0
      have Y1 := hide y1
      clear hR1 hR2 hF1 hF2 hm1 hm2 hN hle hP
      have H0 := hide (AptSd.start u6)
      go_upto_region 7 with fail
      generalize hW7 : ((((u6.alloc (.cells #[.int .i64 0] 3)).alloc (.cells #[] 3)).alloc (.cells #[.slice (some ⟨u6.heap.size + 1, 0, none⟩) 0 0] 24)).alloc (.cells #[.slice (some ⟨u6.heap.size, 0, none⟩) 1 1, .slice (some ⟨u6.heap.size + 1 + 1, 0, none⟩) 1 1] 75)) = w7 at *
      clear hW7 x0 x1 y0 y1
      go_wp2_with fail
      go_loopw [10] (fun i wr => ∃ (k : Nat) (vS vW : Value) (kb : Nat → Nat), i = .int .i64 k ∧ SdNo P k ∧ Apt u6 wr [iC (u6.heap.size + 1 + 1 + 1) [vS, vW], iW u6.heap.size vW (sdK P k).ws kb, iI u6.heap.size vS (sdK P k).st]) (fun i _ => 200 - (intOf i).toNat)
      case atStart => exact ⟨0, _, _, _, rfl, fun j hj => absurd hj (by omega), H0.out⟩
      case round =>
        obtain ⟨k, vS, vW, kb, rfl, hno, hA⟩ := hrel
        obtain ⟨W0, hW0⟩ : ∃ W0, W0 = wr := ⟨wr, rfl⟩
        subst hW0
        have HA := hide hA
        have HNO := hide hno
        have hk100 := hno.le HPO.out
        have hSI := sdK_inv HPO.out k
        have HSI := hide hSI
        obtain ⟨hwl, hsl, hwls, hwi, hsi⟩ := hSI.words HPO.out
        have hAS : AppI u6.heap.size W0 vS (sdK P k).st := hA.p 2 _ rfl
        have hAW : OwnW u6.heap.size W0 vW (sdK P k).ws kb := hA.p 1 _ rfl
        have HSS := hide (hAS.sints (by omega) hsi)
        have HWS := hide (OwnW.srows9 HPO.out hSI hAW)
        obtain ⟨As, cs, rfl, -⟩ := hAS.form
        have m0 := (hA.cellC 0 rfl 0 rfl).1
        have m1 := (hA.cellC 0 rfl 1 rfl).1
        have hqb : u6.heap.size + 1 + 1 + 1 < W0.heap.size := (hA.d 0 _ rfl (u6.heap.size + 1 + 1 + 1) rfl).2
        have hx06 := hA.ext
        have x0 := (hx06.cells _ _ xs).trans X0.out
        have x1 := (hx06.cells _ _ xs).trans X1.out
        have y0 := (hx06.cells _ _ ys).trans Y0.out
        have y1 := (hx06.cells _ _ ys).trans Y1.out
        have hs06 := hx06.size
        have HX06 := hide hx06
        have hwlen : (sdK P k).ws.length = (sdK P k).st.length := hSI.len
        have HWLEN := hide hwlen
        obtain ⟨L, hL⟩ : ∃ L, L = (sdK P k).st.length := ⟨_, rfl⟩
        have HL := hide hL
        rw [← hL] at m0
        have hL100 : L ≤ 100 := by omega
        clear hA hno hSI hwls hwi hsi hAS hx06 hwlen
        by_cases hkL : k < L
        · have hkI : (k : Int) < L := by omega
          have hkS : k < (sdK P k).st.length := by omega
          obtain ⟨bs, os, had, hbs, fs⟩ := HSS.out.at_ hkS
          obtain ⟨x, hx⟩ : ∃ x : Nat, x = (at0 (sdK P k).st k).toNat := ⟨_, rfl⟩
          have hxr := HSI.out.rg k hkS
          have hxe : at0 (sdK P k).st k = x := by omega
          rw [hxe] at fs
          have hxN : x < m.nx.length * m'.nx.length := by rw [← HPL.out]; omega
          have hxN2 : x < N := by rw [HN9.out]; exact hxN
          obtain ⟨i, hi⟩ : ∃ i, i = x / m'.nx.length := ⟨_, rfl⟩
          obtain ⟨j, hj⟩ : ∃ j, j = x % m'.nx.length := ⟨_, rfl⟩
          have hin : i < m.nx.length := by rw [hi]; exact pr_div hxN
          have hjn : j < m'.nx.length := by rw [hj]; exact Nat.mod_lt x hp2
          have hinI : (i : Int) < m.nx.length := by omega
          have hjnI : (j : Int) < m'.nx.length := by omega
          have kq : (x : Int).tdiv (m'.nx.length : Int) = (i : Int) := by rw [hi]; rfl
          have kr : (x : Int).tmod (m'.nx.length : Int) = (j : Int) := by rw [hj]; rfl
          have kq2 : (x : Int) / (m'.nx.length : Int) = (i : Int) := by rw [hi]; rfl
          have kr2 : (x : Int) % (m'.nx.length : Int) = (j : Int) := by rw [hj]; rfl
          have kwi := IntWalk.i64_in (i : Int) (by omega)
          have kwj := IntWalk.i64_in (j : Int) (by omega)
          have hxij : x = i * m'.nx.length + j := by rw [hi, hj, Nat.mul_comm]; exact (Nat.div_add_mod x _).symm
          have HXIJ := hide hxij
          have HXK := hide hx
          obtain ⟨bf, hbf⟩ : ∃ bf, bf = mF m i := ⟨_, rfl⟩
          obtain ⟨bv, hbv⟩ : ∃ bv, bv = mF m' j := ⟨_, rfl⟩
          have f1 := (HX06.out.cells _ _ hg1).trans (HF1.out i hin)
          have f3 := (HX06.out.cells _ _ hg2).trans (HF2.out j hjn)
          rw [← hbf] at f1
          rw [← hbv] at f3
          have HBF := hide hbf
          have HBV := hide hbv
          have HPF := hide (show mF P x = bne bf bv by rw [HP.out, hxij, mF_pr bne hin hjn, hbf, hbv])
          have hg1W : g1 < W0.heap.size := by omega
          have hg2W : g2 < W0.heap.size := by omega
          have xsW : q6 < W0.heap.size := by omega
          have ysW : q7 < W0.heap.size := by omega
          subst had
          clear hi hj hx hxr hxe hxij hbf hbv hxN
          obtain ⟨gW, cW, capW, hvW, hgW, fW⟩ := hAW.cell9 (k := k) (by have := HWLEN.out; omega)
          rw [HWLEN.out, ← HL.out] at hvW
          subst hvW
          obtain ⟨wk, hwk⟩ : ∃ wk, wk = rw0 (sdK P k).ws k := ⟨_, rfl⟩
          have HWK := hide hwk
          rw [← hwk] at fW
          have HROW := hide (show SInts W0 (.slice (some ⟨kb k, 0, none⟩) wk.length cW) wk by
            obtain ⟨g9, o9, A9, c9, e9, h91, h92, h93⟩ := HWS.out.at_ (k := k) (by have := HWLEN.out; omega)
            injection e9 with e9
            injection e9 with e9 e10 _
            subst e9 e10
            rw [Nat.zero_add] at h92
            rw [← hwk] at h92 h93
            rw [fW] at h92
            injection h92 with h92
            rw [h92]
            exact h93)
          clear hwk hAW
          rcases (show bv = (!bf) ∨ bv = bf by cases bf <;> cases bv <;> simp) with e9 | e9
          · subst e9
            have HSDX := hide (show SdX a b true wk by
              rw [SdX, if_pos ⟨HVA.out, HVB.out⟩, ← HMD.out.1, ← HMD.out.2, ← HP.out]
              exact .inl ⟨rfl, k, hkS, by rw [← HXK.out, HPF.out]; cases bf <;> rfl, HWK.out, HNO.out⟩)
            go_wp2_with fail
            refine wp_region_ext (by kernel_rfl) (by kernel_rfl) ?_
            iterate 15 (apply quiet_val; (focus rfl); (focus (intro w' hw'; have hk' := hw'.cells; go_simp; all_goals exact rfl)); simp only [Act.put, List.setIfInBounds_toArray, List.set_cons_succ, List.set_cons_zero])
            refine wpQuiet_nil ?_
            intro W1 hx1
            have m1 := (hx1.cells _ _ hqb).trans m1
            have fW := (hx1.cells _ _ hgW).trans fW
            have hgW := Nat.lt_of_lt_of_le hgW hx1.size
            have HXF := hide (HX6.out.trans (HX06.out.trans hx1))
            have HROW := hide (HROW.out.ext hx1)
            clear hx1 m0 x0 x1 y0 y1 f1 f3 fs
            go_wp2_with fail
            go_ret2
            exact ⟨true, wk, _, _, HSDX.out, rfl, HROW.out, HXF.out⟩
          · subst e9
            have HF9 := hide (show mF P (at0 (sdK P k).st k).toNat = false by rw [← HXK.out, HPF.out]; simp)
            go_wp2_with fail
            refine wp_region_ext (by kernel_rfl) (by kernel_rfl) ?_
            iterate 15 (apply quiet_val; (focus rfl); (focus (intro w' hw'; have hk' := hw'.cells; go_simp; all_goals exact rfl)); simp only [Act.put, List.setIfInBounds_toArray, List.set_cons_succ, List.set_cons_zero])
            refine wpQuiet_nil ?_
            intro W1 hx1
            have HA1 := hide (HA.out.grow hx1)
            clear hx1 m0 m1 x0 x1 y0 y1 f1 f3 fs fW hgW HROW
            go_wp2_with fail
            go_loopw [12] (fun v wr => ∃ (u : Nat) (vS vW : Value) (kb : Nat → Nat), v = .int .i64 u ∧ u ≤ 6 ∧ Apt u6 wr [iC (u6.heap.size + 1 + 1 + 1) [vS, vW], iW u6.heap.size vW (sdV P x wk (sdK P k) u).ws kb, iI u6.heap.size vS (sdV P x wk (sdK P k) u).st]) (fun v _ => 6 - (intOf v).toNat)
            case atStart => exact ⟨0, _, _, kb, rfl, by omega, HA1.out⟩
            case round =>
              obtain ⟨u, vS, vW, kb2, rfl, hu, hA⟩ := hrel
              obtain ⟨W2, hW2⟩ : ∃ W2, W2 = wr := ⟨wr, rfl⟩
              subst hW2
              obtain ⟨T, hT⟩ : ∃ T, T = sdV P x wk (sdK P k) u := ⟨_, rfl⟩
              rw [← hT] at hA
              have hinv := sdV_inv HPO.out HSI.out hkS u hu
              rw [← HXK.out, ← HWK.out, ← hT] at hinv
              obtain ⟨hTI, hkT, hTx, hTw⟩ := hinv
              have HT := hide hT
              have HTI := hide hTI
              obtain ⟨hwl, hsl, hwls, hwi, hsi⟩ := hTI.words HPO.out
              have hAS : AppI u6.heap.size W2 vS T.st := hA.p 2 _ rfl
              have hAW : OwnW u6.heap.size W2 vW T.ws kb2 := hA.p 1 _ rfl
              obtain ⟨n2, hn2⟩ : ∃ n2, n2 = T.st.length := ⟨_, rfl⟩
              obtain ⟨As2, cs2, hvS, -⟩ := hAS.form
              obtain ⟨AW2, cW2, hvW, -⟩ := hAW.form
              rw [← hn2] at hvS
              rw [show T.ws.length = n2 by rw [hn2]; exact hTI.len] at hvW
              subst hvS hvW
              have HA := hide hA
              have HSS := hide (hAS.sints (by omega) hsi)
              have m0 := (hA.cellC 0 rfl 0 rfl).1
              have hqb2 : u6.heap.size + 1 + 1 + 1 < W2.heap.size := (hA.d 0 _ rfl (u6.heap.size + 1 + 1 + 1) rfl).2
              have hx06 := hA.ext
              have x0 := (hx06.cells _ _ xs).trans X0.out
              have x1 := (hx06.cells _ _ xs).trans X1.out
              have y0 := (hx06.cells _ _ ys).trans Y0.out
              have y1 := (hx06.cells _ _ ys).trans Y1.out
              have hs06 := hx06.size
              have HX06 := hide hx06
              have hTlen : T.ws.length = T.st.length := hTI.len
              have HTLEN := hide hTlen
              have HTW := hide hTw
              have xsW : q6 < W2.heap.size := by omega
              have ysW : q7 < W2.heap.size := by omega
              have hwkl : wk.length ≤ 100 := by have := hwls k (by omega); rw [hTw] at this; exact this
              have HN2T := hide hn2
              have hn2b : n2 ≤ 100 := by omega
              clear hT hTI hA hwls hwi hsi hAS hAW hx06 hTlen hn2
              by_cases hul : u < 6
              · have huI : (u : Int) ≤ 5 := by omega
                have huI6 : (u : Int) < 6 := by omega
                obtain ⟨b3, o3, c3, f1, hb3, hc3, f2⟩ := HR1.out i hin
                obtain ⟨b4, o4, c4, f3, hb4, hc4, f4⟩ := HR2.out j hjn
                have f1 := (HX06.out.cells _ _ hb1).trans f1
                have f2 := (HX06.out.cells _ _ hb3).trans (f2 u hul)
                have f3 := (HX06.out.cells _ _ hb2).trans f3
                have f4 := (HX06.out.cells _ _ hb4).trans (f4 u hul)
                obtain ⟨x5, hx5⟩ : ∃ x5, x5 = mT m i u := ⟨_, rfl⟩
                obtain ⟨y5, hy5⟩ : ∃ y5, y5 = mT m' j u := ⟨_, rfl⟩
                have hxn : x5 < m.nx.length := by rw [hx5]; exact HM1.out.lt hin hul
                have hyn : y5 < m'.nx.length := by rw [hy5]; exact HM2.out.lt hjn hul
                obtain ⟨X, hX⟩ : ∃ X, X = x5 * m'.nx.length := ⟨_, rfl⟩
                obtain ⟨t, ht⟩ : ∃ t, t = mT P x u := ⟨_, rfl⟩
                have hXt : X + y5 = t := by rw [ht, HP.out, HXIJ.out, mT_pr bne hin hjn hul, hX, hx5, hy5]
                have hXy : X + y5 < N := by have h1 := pr_lt hxn hyn; have h2 := HN9.out; omega
                have kX : (x5 : Int) * (m'.nx.length : Int) = (X : Int) := by rw [hX]; simp
                have kt : (X : Int) + (y5 : Int) = (t : Int) := by omega
                have htN : t < N := by omega
                have hX9 : X < 100 := by omega
                have ht9 : t < 100 := by omega
                have kwX := IntWalk.i64_in (X : Int) (by omega)
                have kwt := IntWalk.i64_in (t : Int) (by omega)
                rw [← hx5] at f2
                rw [← hy5] at f4
                have HTD := hide ht
                have hb1W : p1 < W2.heap.size := by omega
                have hb2W : p2 < W2.heap.size := by omega
                have hb3W : b3 < W2.heap.size := by omega
                have hb4W : b4 < W2.heap.size := by omega
                clear hx5 hy5 hX ht hXt
                go_wp2_with fail
                refine wp_region_ext (by kernel_rfl) (by kernel_rfl) ?_
                iterate 24 (apply quiet_val; (focus rfl); (focus (intro w' hw'; have hk' := hw'.cells; go_simp; all_goals exact rfl)); simp only [Act.put, List.setIfInBounds_toArray, List.set_cons_succ, List.set_cons_zero])
                refine wpQuiet_nil ?_
                intro W3 hx3
                have m0 := (hx3.cells _ _ hqb2).trans m0
                have HA3 := hide (HA.out.grow hx3)
                have HSS3 := hide (HSS.out.ext hx3)
                clear hx3 f1 f2 f3 f4 x0 x1 y0 y1 hb1W hb2W hb3W hb4W xsW ysW kt kX kq kr kq2 kr2 kwi kwj hinI hjnI hxn hyn hXy kwX kwt
                go_wp2_with fail
                refine (containsInt_any _ T.st t _ HSS3.out).mono ?_
                rintro e w9 ⟨rfl, rfl⟩
                cases hc : decide ((t : Int) ∈ T.st) with
                | true =>
                  have HSTEP := hide (show sdV P x wk (sdK P k) (u + 1) = T by
                    rw [sdV, ← HT.out, sdP, ← HTD.out, if_pos (by simpa using hc)])
                  clear hc
                  go_wp2_with fail
                  go_roundw
                  case rel => exact ⟨u + 1, _, _, kb2, by go_num, by omega, by rw [HSTEP.out]; exact HA3.out⟩
                  case measure => simp [intOf]; omega
                | false =>
                  have HSTEP := hide (show sdV P x wk (sdK P k) (u + 1) = ⟨T.st ++ [(t : Int)], T.ws ++ [wk ++ [(u : Int)]]⟩ by
                    rw [sdV, ← HT.out, sdP, ← HTD.out, if_neg (by simpa using hc)])
                  clear hc m0
                  have H5 := hide (HA3.out.grow ((Ext.refl _).alloc (.cells #[.int .i64 (t : Int)] 3)))
                  have m0 := (HA3.out.cellC 0 rfl 0 rfl).1
                  go_wp2_with (at_builtin; go_must (refine wpList_appIO _ rfl _ _ rfl u6.heap.size _ T.st (t : Int) W3.heap.size 1 rfl rfl (H5.out.p 2 _ rfl) (by go_simp) (by have := HN2T.out; omega) (by have := H5.out.ext.size; exact this) ?_); intro v7 w7 hA7 hg7 ho7; have H7 := hide (H5.out.appI 2 rfl hA7 hg7 ho7); have p0 := (H7.out.cellC 0 rfl 0 rfl).1; have z0 := (H7.out.cellC 0 rfl 0 rfl).2; obtain ⟨A7, c7, hv7, -⟩ := hA7.form; rw [show (T.st ++ [(t : Int)]).length = n2 + 1 by have := HN2T.out; simp; omega] at hv7; subst hv7; clear hA7 hg7 ho7)
                  have H8 := hide (H7.out.set 0 (u6.heap.size + 1 + 1 + 1) _ rfl 0 (.slice A7 (n2 + 1) c7) (by simp))
                  generalize hW8 : w7.setCell ⟨u6.heap.size + 1 + 1 + 1, 0, none⟩ (.slice A7 (n2 + 1) c7) = W8 at *
                  clear hW8 p0 z0 m0
                  have hAW : OwnW u6.heap.size W8 (.slice AW2 n2 cW2) T.ws kb2 := H8.out.p 1 _ rfl
                  obtain ⟨gW, cW3, capW3, hvW, hgW, fW⟩ := hAW.cell9 (k := k) (by have := HTLEN.out; omega)
                  rw [HTLEN.out, ← HN2T.out] at hvW
                  injection hvW with hvW1 _ hvW2
                  subst hvW1 hvW2
                  rw [HTW.out] at fW
                  have HROW := hide (show SInts W8 (.slice (some ⟨kb2 k, 0, none⟩) wk.length cW3) wk by
                    obtain ⟨g9, o9, A9, c9, e9, h91, h92, h93⟩ := (OwnW.srows9 HPO.out HTI.out hAW).at_ (k := k) (by have := HTLEN.out; omega)
                    injection e9 with e9
                    injection e9 with e9 e10 _
                    subst e9 e10
                    rw [Nat.zero_add] at h92
                    rw [HTW.out] at h92 h93
                    rw [fW] at h92
                    injection h92 with h92
                    rw [h92]
                    exact h93)
                  have m1 := (H8.out.cellC 0 rfl 1 rfl).1
                  have hqb8 : u6.heap.size + 1 + 1 + 1 < W8.heap.size := (H8.out.d 0 _ rfl (u6.heap.size + 1 + 1 + 1) rfl).2
                  have hn2I : (k : Int) < n2 := by have := HN2T.out; omega
                  clear hAW
                  go_upto_region 19 with fail
                  refine wp_region_any (by kernel_rfl) ?_
                  change wpAny _ _ _ _ _ _ _ (World.drew _)
                  refine wpAny_take (i := 0) (v := ?_) rfl (by kernel_rfl) (by kernel_rfl) (by kernel_rfl) (by first | exact fun _ _ _ h => h | (rintro _ _ _ ⟨h, _⟩; cases h)) (Or.inl ⟨by rfl, ?hy0⟩) ?_
                  case hy0 => intro w; go_simp; with_reducible rfl
                  simp only [Act.put, List.getElem_toArray, List.getElem_cons_zero, List.setIfInBounds_toArray, List.set_cons_succ, List.set_cons_zero]
                  refine wpAny_take (i := 2) (v := ?_) rfl (by kernel_rfl) (by kernel_rfl) (by kernel_rfl) (by first | exact fun _ _ _ h => h | (rintro _ _ _ ⟨h, _⟩; cases h)) (Or.inl ⟨by rfl, ?hy2⟩) ?_
                  case hy2 => intro w; go_simp; with_reducible rfl
                  simp only [Act.put, List.getElem_toArray, List.getElem_cons_zero, List.getElem_cons_succ, List.setIfInBounds_toArray, List.set_cons_succ, List.set_cons_zero]
                  refine wpAny_take (i := 4) (v := ?_) rfl (by kernel_rfl) (by kernel_rfl) (by kernel_rfl) (by first | exact fun _ _ _ h => h | (rintro _ _ _ ⟨h, _⟩; cases h)) (Or.inl ⟨by rfl, ?hy4⟩) ?_
                  case hy4 => intro w; go_simp; with_reducible rfl
                  simp only [Act.put, List.getElem_toArray, List.getElem_cons_zero, List.getElem_cons_succ, List.setIfInBounds_toArray, List.set_cons_succ, List.set_cons_zero]
                  refine wpAny_take (i := 8) (v := ?_) rfl (by kernel_rfl) (by kernel_rfl) (by kernel_rfl) (by first | exact fun _ _ _ h => h | (rintro _ _ _ ⟨h, _⟩; cases h)) (Or.inl ⟨by rfl, ?hy8⟩) ?_
                  case hy8 => intro w; go_simp; with_reducible rfl
                  simp only [Act.put, List.getElem_toArray, List.getElem_cons_zero, List.getElem_cons_succ, List.setIfInBounds_toArray, List.set_cons_succ, List.set_cons_zero]
                  refine wpAny_ofK (C := fun w => w.cell? ⟨u6.heap.size + 1 + 1 + 1, 1, none⟩ = some (.slice (some ⟨gW, 0, none⟩) n2 cW2) ∧ w.cell? ⟨gW, k, none⟩ = some (.slice (some ⟨kb2 k, 0, none⟩) wk.length cW3)) (n := 12) _ _ _ _ ?_
                  refine wpAnyK_take 1 (.slice (some ⟨gW, 0, none⟩) n2 cW2) rfl (by kernel_rfl) (fun _ _ _ h => h) ⟨m1, fW⟩ (And.intro (by rfl) ?hy1) ?_
                  case hy1 => intro w' hw'; obtain ⟨hk1, hk2⟩ : w'.cell? ⟨u6.heap.size + 1 + 1 + 1, 1, none⟩ = some (.slice (some ⟨gW, 0, none⟩) n2 cW2) ∧ w'.cell? ⟨gW, k, none⟩ = some (.slice (some ⟨kb2 k, 0, none⟩) wk.length cW3) := hw'; go_simp; all_goals exact rfl
                  simp only [Act.put, List.setIfInBounds_toArray, List.set_cons_succ, List.set_cons_zero]
                  refine wpAnyK_take 3 (.slice (some ⟨gW, 0, none⟩) n2 cW2) rfl (by kernel_rfl) (fun _ _ _ h => h) ⟨m1, fW⟩ (And.intro (by rfl) ?hy3) ?_
                  case hy3 => intro w' hw'; obtain ⟨hk1, hk2⟩ : w'.cell? ⟨u6.heap.size + 1 + 1 + 1, 1, none⟩ = some (.slice (some ⟨gW, 0, none⟩) n2 cW2) ∧ w'.cell? ⟨gW, k, none⟩ = some (.slice (some ⟨kb2 k, 0, none⟩) wk.length cW3) := hw'; go_simp; all_goals exact rfl
                  simp only [Act.put, List.setIfInBounds_toArray, List.set_cons_succ, List.set_cons_zero]
                  refine wpAnyK_take 5 (.pointer (some ⟨gW, k, none⟩)) rfl (by kernel_rfl) (fun _ _ _ h => h) ⟨m1, fW⟩ (And.intro (by rfl) ?hy5) ?_
                  case hy5 => intro w' hw'; obtain ⟨hk1, hk2⟩ : w'.cell? ⟨u6.heap.size + 1 + 1 + 1, 1, none⟩ = some (.slice (some ⟨gW, 0, none⟩) n2 cW2) ∧ w'.cell? ⟨gW, k, none⟩ = some (.slice (some ⟨kb2 k, 0, none⟩) wk.length cW3) := hw'; go_simp; all_goals exact rfl
                  simp only [Act.put, List.setIfInBounds_toArray, List.set_cons_succ, List.set_cons_zero]
                  refine wpAnyK_take 6 (.slice (some ⟨kb2 k, 0, none⟩) wk.length cW3) rfl (by kernel_rfl) (fun _ _ _ h => h) ⟨m1, fW⟩ (And.intro (by rfl) ?hy6) ?_
                  case hy6 => intro w' hw'; obtain ⟨hk1, hk2⟩ : w'.cell? ⟨u6.heap.size + 1 + 1 + 1, 1, none⟩ = some (.slice (some ⟨gW, 0, none⟩) n2 cW2) ∧ w'.cell? ⟨gW, k, none⟩ = some (.slice (some ⟨kb2 k, 0, none⟩) wk.length cW3) := hw'; go_simp; all_goals exact rfl
                  simp only [Act.put, List.setIfInBounds_toArray, List.set_cons_succ, List.set_cons_zero]
                  have HXD := hide ((Ext.refl W8).drew)
                  refine wpAnyK_two (i := 7) (k := 9) (by kernel_rfl) rfl rfl (by omega) (by omega) (fun K hK => ?_) (fun K hK => ?_)
                  · go_simp
                    refine (copyIntsE_any _ wk _ (HROW.out.ext HXD.out) (fun n c e => by injection e with e; cases e)).mono ?_
                    rintro e W9 ⟨v9, rfl, hA9, hx9⟩
                    obtain ⟨Ac, cc, rfl, -⟩ := hA9.form
                    have HX9 := hide (HXD.out.trans hx9)
                    have HA9 := hide (show AppI W8.heap.size W9 (.slice Ac wk.length cc) wk from hA9)
                    refine hK _ _ ⟨(HX9.out.cells _ _ hqb8).trans m1, (HX9.out.cells _ _ hgW).trans fW⟩ ?_
                    clear hK K hA9 hx9
                    refine wpAnyK_one (i := 9) (by kernel_rfl) rfl (by omega) (fun K hK => ?_)
                    go_simp
                    obtain ⟨Wz, hWz⟩ : ∃ x, x = W9.alloc (.cells #[.int .i64 (u : Int)] 3) := ⟨_, rfl⟩
                    obtain ⟨g9, hg9⟩ : ∃ x, x = W9.heap.size := ⟨_, rfl⟩
                    have hxz : Ext W9 Wz := by rw [hWz]; exact (Ext.refl W9).alloc _
                    have h9c : Wz.cell? ⟨g9, 0, none⟩ = some (.int .i64 (u : Int)) := by rw [hWz, hg9]; go_simp
                    rw [← hWz, ← hg9]
                    clear hWz hg9
                    have HXz := hide (HX9.out.trans hxz)
                    have HAz := hide (AppI.ext HA9.out hxz)
                    refine hK _ _ ⟨(HXz.out.cells _ _ hqb8).trans m1, (HXz.out.cells _ _ hgW).trans fW⟩ ?_
                    clear hK K hxz
                    have HPz := hide (H8.out.push (iI W8.heap.size (.slice Ac wk.length cc) wk) HXz.out HAz.out (fun k hk => ⟨(World.ownsRow.lt HAz.out k hk).1, (World.ownsRow.lt HAz.out k hk).2⟩) (iI_st _ _ _))
                    refine wpAnyK_one (i := 10) (by kernel_rfl) rfl (by omega) (fun K hK => ?_)
                    refine step_appIO _ rfl _ _ rfl W8.heap.size (.slice Ac wk.length cc) wk (u : Int) g9 1 rfl rfl HAz.out h9c (by omega) HXz.out.size ?_
                    intro v10 W10 hA10 hg10 ho10
                    have H10 := hide (HPz.out.appI 0 rfl hA10 hg10 ho10)
                    obtain ⟨A10, c10, hv10, -⟩ := hA10.form
                    rw [show (wk ++ [(u : Int)]).length = wk.length + 1 by simp] at hv10
                    subst hv10
                    have m1z := (H10.out.cellC 1 rfl 1 rfl).1
                    have fWz : W10.cell? ⟨gW, k, none⟩ = some (.slice (some ⟨kb2 k, 0, none⟩) wk.length cW3) := ((Keep.of_grown hg10).cell (p := ⟨gW, k, none⟩) (by show gW < _; have := HXz.out.size; omega) (fun e => by have := (World.ownsRow.lt HAz.out gW e).1; omega)).trans ((HXz.out.cells _ _ hgW).trans fW)
                    refine hK _ _ ⟨m1z, fWz⟩ ?_
                    clear hK K
                    have HRVz := hide (RowV.of_app hA10 (by simp))
                    clear hA10 hg10 ho10
                    simp only [Act.put, List.setIfInBounds_toArray]
                    refine wpAnyK_one (i := 11) (by kernel_rfl) rfl (by omega) (fun K hK => ?_)
                    go_simp
                    obtain ⟨W11, hW11⟩ : ∃ x, x = W10.alloc (.cells #[.slice A10 (wk.length + 1) c10] 24) := ⟨_, rfl⟩
                    have hx11 : Ext W10 W11 := by rw [hW11]; exact (Ext.refl W10).alloc _
                    have h11c : W11.cell? ⟨W10.heap.size, 0, none⟩ = some (.slice A10 (wk.length + 1) c10) := by rw [hW11]; go_simp
                    rw [← hW11]
                    clear hW11
                    have hgW10 : gW < W10.heap.size := (H10.out.d 2 _ rfl gW (.inl rfl)).2
                    refine hK _ _ ⟨(hx11.cells _ _ ((H10.out.d 1 _ rfl (u6.heap.size + 1 + 1 + 1) rfl).2)).trans m1z, (hx11.cells _ _ hgW10).trans fWz⟩ ?_
                    clear hK K
                    have H11 := hide (H10.out.grow hx11)
                    have HRV11 := hide (HRVz.out.ext hx11)
                    clear hx11
                    refine wpAnyK_fin 12 [13, 14] (by omega) (by kernel_rfl) ?_
                    simp only [nths, nth1]
                    have HNE := hide (fun i (hi : i < T.ws.length) => (show (Value.slice A10 (wk.length + 1) c10).ownBlock ≠ some (kb2 i) from fun e => H11.out.ap 0 2 _ _ rfl rfl (by omega) (kb2 i) e (.inr ⟨i, hi, rfl⟩)))
                    go_wp2_with (at_builtin; go_must (refine wpList_appW _ rfl _ _ rfl u6.heap.size _ T.ws kb2 (wk ++ [(u : Int)]) (.slice A10 (wk.length + 1) c10) W10.heap.size 1 rfl rfl (H11.out.p 2 _ rfl) h11c (by have h := HRV11.out; exact RowV.mono h (by have := H8.out.ext.size; omega)) (by have := HTLEN.out; have := HN2T.out; omega) (by have := H11.out.ext.size; exact this) HNE.out ?_); intro v12 w12 kb12 hA12 h112 h212 hg12 ho12; have H12 := hide (H11.out.addW (rv := .slice A10 (wk.length + 1) c10) (fun k => Iff.rfl) 1 rfl hA12 h112 h212 hg12 ho12); have p1 := (H12.out.cellC 0 rfl 1 rfl).1; have z1 := (H12.out.cellC 0 rfl 1 rfl).2; obtain ⟨A12, c12, hv12, -⟩ := hA12.form; rw [show (T.ws ++ [wk ++ [(u : Int)]]).length = n2 + 1 by have := HTLEN.out; have := HN2T.out; simp; omega] at hv12; subst hv12; clear hA12 h112 h212 hg12 ho12)
                    go_wp2_with fail
                    go_roundw
                    case rel => exact ⟨u + 1, _, _, kb12, by go_num, by omega, by rw [HSTEP.out]; exact H12.out.set 0 (u6.heap.size + 1 + 1 + 1) _ rfl 1 _ (by simp)⟩
                    case measure => simp [intOf]; omega
                  · go_simp
                    obtain ⟨W9, hW9⟩ : ∃ x, x = (W8.alloc (.cells #[.int .i64 (u : Int)] 3)).drew := ⟨_, rfl⟩
                    obtain ⟨g9, hg9⟩ : ∃ x, x = W8.heap.size := ⟨_, rfl⟩
                    have HX9 := hide (show Ext W8 W9 by rw [hW9]; exact ((Ext.refl W8).alloc _).drew)
                    have h9c : W9.cell? ⟨g9, 0, none⟩ = some (.int .i64 (u : Int)) := by rw [hW9, hg9]; show World.cell? (World.alloc _ _) _ = _; go_simp
                    have h9l : g9 < W9.heap.size := by rw [hW9, hg9]; show _ < (World.alloc _ _).heap.size; simp
                    rw [← hW9, ← hg9]
                    clear hW9 hg9
                    refine hK _ _ ⟨(HX9.out.cells _ _ hqb8).trans m1, (HX9.out.cells _ _ hgW).trans fW⟩ ?_
                    clear hK K
                    refine wpAnyK_one (i := 7) (by kernel_rfl) rfl (by omega) (fun K hK => ?_)
                    go_simp
                    refine (copyIntsE_any _ wk _ (HROW.out.ext HX9.out) (fun n c e => by injection e with e; cases e)).mono ?_
                    rintro e Wz ⟨v9, rfl, hA9, hx9⟩
                    obtain ⟨Ac, cc, rfl, -⟩ := hA9.form
                    have HXz := hide (HX9.out.trans hx9)
                    have HAz := hide (AppI.low9 hA9 HX9.out.size)
                    have h9c := (hx9.cells _ _ h9l).trans h9c
                    refine hK _ _ ⟨(HXz.out.cells _ _ hqb8).trans m1, (HXz.out.cells _ _ hgW).trans fW⟩ ?_
                    clear hK K hA9 hx9 h9l
                    have HPz := hide (H8.out.push (iI W8.heap.size (.slice Ac wk.length cc) wk) HXz.out HAz.out (fun k hk => ⟨(World.ownsRow.lt HAz.out k hk).1, (World.ownsRow.lt HAz.out k hk).2⟩) (iI_st _ _ _))
                    refine wpAnyK_one (i := 10) (by kernel_rfl) rfl (by omega) (fun K hK => ?_)
                    refine step_appIO _ rfl _ _ rfl W8.heap.size (.slice Ac wk.length cc) wk (u : Int) g9 1 rfl rfl HAz.out h9c (by omega) HXz.out.size ?_
                    intro v10 W10 hA10 hg10 ho10
                    have H10 := hide (HPz.out.appI 0 rfl hA10 hg10 ho10)
                    obtain ⟨A10, c10, hv10, -⟩ := hA10.form
                    rw [show (wk ++ [(u : Int)]).length = wk.length + 1 by simp] at hv10
                    subst hv10
                    have m1z := (H10.out.cellC 1 rfl 1 rfl).1
                    have fWz : W10.cell? ⟨gW, k, none⟩ = some (.slice (some ⟨kb2 k, 0, none⟩) wk.length cW3) := ((Keep.of_grown hg10).cell (p := ⟨gW, k, none⟩) (by show gW < _; have := HXz.out.size; omega) (fun e => by have := (World.ownsRow.lt HAz.out gW e).1; omega)).trans ((HXz.out.cells _ _ hgW).trans fW)
                    refine hK _ _ ⟨m1z, fWz⟩ ?_
                    clear hK K
                    have HRVz := hide (RowV.of_app hA10 (by simp))
                    clear hA10 hg10 ho10
                    simp only [Act.put, List.setIfInBounds_toArray]
                    refine wpAnyK_one (i := 11) (by kernel_rfl) rfl (by omega) (fun K hK => ?_)
                    go_simp
                    obtain ⟨W11, hW11⟩ : ∃ x, x = W10.alloc (.cells #[.slice A10 (wk.length + 1) c10] 24) := ⟨_, rfl⟩
                    have hx11 : Ext W10 W11 := by rw [hW11]; exact (Ext.refl W10).alloc _
                    have h11c : W11.cell? ⟨W10.heap.size, 0, none⟩ = some (.slice A10 (wk.length + 1) c10) := by rw [hW11]; go_simp
                    rw [← hW11]
                    clear hW11
                    have hgW10 : gW < W10.heap.size := (H10.out.d 2 _ rfl gW (.inl rfl)).2
                    refine hK _ _ ⟨(hx11.cells _ _ ((H10.out.d 1 _ rfl (u6.heap.size + 1 + 1 + 1) rfl).2)).trans m1z, (hx11.cells _ _ hgW10).trans fWz⟩ ?_
                    clear hK K
                    have H11 := hide (H10.out.grow hx11)
                    have HRV11 := hide (HRVz.out.ext hx11)
                    clear hx11
                    refine wpAnyK_fin 12 [13, 14] (by omega) (by kernel_rfl) ?_
                    simp only [nths, nth1]
                    have HNE := hide (fun i (hi : i < T.ws.length) => (show (Value.slice A10 (wk.length + 1) c10).ownBlock ≠ some (kb2 i) from fun e => H11.out.ap 0 2 _ _ rfl rfl (by omega) (kb2 i) e (.inr ⟨i, hi, rfl⟩)))
                    go_wp2_with (at_builtin; go_must (refine wpList_appW _ rfl _ _ rfl u6.heap.size _ T.ws kb2 (wk ++ [(u : Int)]) (.slice A10 (wk.length + 1) c10) W10.heap.size 1 rfl rfl (H11.out.p 2 _ rfl) h11c (by have h := HRV11.out; exact RowV.mono h (by have := H8.out.ext.size; omega)) (by have := HTLEN.out; have := HN2T.out; omega) (by have := H11.out.ext.size; exact this) HNE.out ?_); intro v12 w12 kb12 hA12 h112 h212 hg12 ho12; have H12 := hide (H11.out.addW (rv := .slice A10 (wk.length + 1) c10) (fun k => Iff.rfl) 1 rfl hA12 h112 h212 hg12 ho12); have p1 := (H12.out.cellC 0 rfl 1 rfl).1; have z1 := (H12.out.cellC 0 rfl 1 rfl).2; obtain ⟨A12, c12, hv12, -⟩ := hA12.form; rw [show (T.ws ++ [wk ++ [(u : Int)]]).length = n2 + 1 by have := HTLEN.out; have := HN2T.out; simp; omega] at hv12; subst hv12; clear hA12 h112 h212 hg12 ho12)
                    go_wp2_with fail
                    go_roundw
                    case rel => exact ⟨u + 1, _, _, kb12, by go_num, by omega, by rw [HSTEP.out]; exact H12.out.set 0 (u6.heap.size + 1 + 1 + 1) _ rfl 1 _ (by simp)⟩
                    case measure => simp [intOf]; omega
              · obtain rfl : u = 6 := by omega
                have huI : ¬ ((6 : Nat) : Int) ≤ 5 := by omega
                have HSTEP := hide (show sdK P (k + 1) = T by rw [sdK, if_pos hkS, ← HXK.out, ← HWK.out]; exact HT.out.symm)
                have HNX := hide (HNO.out.succ hkS HF9.out)
                clear m0 x0 x1 y0 y1
                go_wp2_with fail
                go_roundw
                case rel => exact ⟨k + 1, _, _, kb2, by go_num, HNX.out, by rw [HSTEP.out]; exact HA.out⟩
                case measure => simp [intOf]; omega
        · have hkI : ¬ (k : Int) < L := by omega
          have HSDX := hide (show SdX a b false [] by
            rw [SdX, if_pos ⟨HVA.out, HVB.out⟩, ← HMD.out.1, ← HMD.out.2, ← HP.out]
            exact .inr ⟨rfl, rfl, k, by have := HL.out; omega, HNO.out⟩)
          have HXF := hide (HX6.out.trans HX06.out)
          clear m1 x0 x1 y0 y1
          go_wp2_with fail
          go_ret2
          exact ⟨false, [], none, 0, HSDX.out, rfl, SInts.nil0 _, HXF.out⟩
end Go.Proofs.Ytdiedghaoleblaa
