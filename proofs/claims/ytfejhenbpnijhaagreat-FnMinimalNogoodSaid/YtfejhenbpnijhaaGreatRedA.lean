/- The reference's refutation by propagation, no clauses learnt. Printed by genref.py. -/
import Derived.Test.YtfejhenbpnijhaaGreatRfI
import Derived.Test.YtfejhenbpnijhaaGreatShrL
import Derived.Test.YtfejhenbpnijhaaGreatRfS
import Derived.Test.YtfejhenbpnijhaaGreatLawM
namespace Go.Proofs.YtfejhenbpnijhaaGreat
open Go.RowKit
attribute [local go_sem] evalOf
set_option maxRecDepth 100000 in
set_option maxHeartbeats 8000000 in
theorem refute0_any (v vd : Value) (Ae : Option Addr) (ce : Nat) (D ds : List Int) (cs : List Con) (w : World) (hM : SMod w v D cs) (hD : SInts w vd ds) (hG : GoodD cs ds.length ds) (h4 : ds.length ≤ 4) (h1 : 0 < ds.length) :
    Calls Tryz.prog 71 #[v, .slice Ae 0 ce, vd] w (Ret (.bool (hasI (propL cs ds) 0)) w) := by
  have hM0 := hide hM
  have hD0 := hide hD
  obtain ⟨ve, vc, rfl, hE, hC⟩ := hM
  have HG := hide hG
  obtain ⟨A1, c1, rfl, -, hle⟩ := hE.form
  obtain ⟨Ac, cc, rfl, -, hlc⟩ := hC.form
  obtain ⟨Ad, cd, rfl, -, hld⟩ := hD.form
  obtain ⟨w0, hw0⟩ : ∃ w0, w0 = w.alloc (.cells #[.slice A1 D.length c1, .slice Ac cs.length cc] 26) := ⟨_, rfl⟩
  have hx0 : Ext w w0 := by rw [hw0]; exact (Ext.refl w).alloc _
  have k0 : w0.cell? ⟨w.heap.size, 0, none⟩ = some (.slice A1 D.length c1) := by rw [hw0]; go_simp
  have k1 : w0.cell? ⟨w.heap.size, 1, none⟩ = some (.slice Ac cs.length cc) := by rw [hw0]; go_simp
  have ks : w.heap.size < w0.heap.size := by rw [hw0]; simp
  have HX0 := hide hx0
  have K0 := hide k0
  have K1 := hide k1
  clear hE hC hD hx0 hG k1
  go_enter Tryz.func71, Tryz.ntmps71
  go_wp2_with fail
  rw [← hw0]
  clear hw0
  refine (copyInts_any _ ds _ (hD0.out.ext HX0.out) h1).mono ?_
  rintro e w1 ⟨A1', c1', b1, m1, f1, rfl, hc1, hb1, hn1, ho1, hx1⟩
  obtain ⟨n, hn⟩ : ∃ n, n = ds.length := ⟨_, rfl⟩
  have HN := hide hn
  have HO := hide (show OwnRes ds w0 (.returned (.slice A1' n c1')) w1 from by rw [hn]; exact ⟨A1', c1', b1, m1, f1, rfl, hc1, hb1, hn1, ho1, hx1⟩)
  have HG2 := hide (show GoodD cs n ds by rw [hn]; exact HG.out)
  rw [← hn] at h4 h1 ⊢
  clear hn ho1 hx1 hb1 hn1 k0 hc1
  go_wp2_with fail
  go_loopg [7] 300 (fun gk v wr => ∃ now : List Int, OwnRes now w0 (.returned v) wr ∧ GoodD cs n now ∧ propL cs now = propL cs ds ∧ sumL now < gk)
  case atStart => exact ⟨ds, HO.out, HG2.out, rfl, by have := sumL_bd ds HG2.out.2.1; have := HN.out; omega⟩
  case round =>
    obtain ⟨now, how, hgn, hit, hsum⟩ := hrel
    obtain ⟨A, cc2, rfl⟩ := how.form
    have HOW := hide how
    have HGN := hide hgn
    have HIT := hide hit
    have HS := hide (how.ints hgn.i64)
    have hx := how.ext0
    have HX := hide hx
    have k0 := (hx.cells _ _ ks).trans K0.out
    have k1 := (hx.cells _ _ ks).trans K1.out
    have hsb := (sumL_bd now hgn.2.1).1
    obtain ⟨k, rfl⟩ : ∃ k, gk = k + 1 := ⟨gk - 1, by omega⟩
    have hnl : now.length = n := hgn.1
    rw [hnl] at HS HOW ⊢
    clear hgn hit hx how
    go_wp2_with fail
    refine (fixpointS_any _ _ D now cs _ (hM0.out.ext (HX0.out.trans HX.out)) HS.out (by rw [hnl]; exact HGN.out) (by rw [hnl]; exact h4) (by rw [hnl]; exact h1)).mono ?_
    rintro e w3 hres
    have HGS := hide (propL_R HGN.out h4).good
    have HSUB := hide (propL_R HGN.out h4).sub
    have hsl : (propL cs now).length = n := HGS.out.1
    have HO3 := hide (show OwnRes (propL cs now) w0 e w3 from OwnRes.from hres HX.out)
    obtain ⟨A3, c3, b3, m3, f3, rfl, hc3, hd3, hb3, ho3, hx3⟩ := hres
    have HS3 := hide (SInts.own hc3 hd3 ho3 HGS.out.i64)
    have HSW := hide (HS.out.ext hx3)
    rw [hsl] at HS3 HO3 ⊢
    have HX3 := hide (HX.out.trans hx3)
    clear hc3 hd3 hb3 ho3 hx3 k0 k1
    go_wp2_with fail
    go_loopw [8, 9] (fun x i wr => x = .slice A3 n c3 ∧ i = .int .i64 0 ∧ wr = w3) (fun _ _ _ => 0)
    case atStart => exact ⟨rfl, rfl, rfl⟩
    case round =>
      obtain ⟨rfl, rfl, rfl⟩ := hrel
      go_wp2_with fail
      refine (hasEmpty_any _ (propL cs now) _ HS3.out).mono ?_
      rintro e w5 ⟨rfl, rfl⟩
      have hidem := propL_idem HGN.out h4 h1
      cases he : hasI (propL cs now) 0 with
      | true =>
        have HE := hide (show hasI (propL cs ds) 0 = true by rw [← HIT.out]; exact he)
        clear he hidem
        go_wp2
        go_ret
        exact Ret.mk (ret_b HE.out.symm) (HX0.out.trans HX3.out)
      | false =>
        have HE := hide (show hasI (propL cs ds) 0 = false by rw [← HIT.out]; exact he)
        have HID := hide hidem
        clear he hidem
        go_wp2_with fail
        refine (equalIntsS_any _ _ (propL cs now) now _ HS3.out HSW.out).mono ?_
        rintro e w4 ⟨rfl, hx4⟩
        have HX4 := hide hx4
        clear hx4
        by_cases he : propL cs now = now
        · rw [decide_eq_true he]
          clear he
          go_wp2
          go_ret
          exact Ret.mk (ret_b HE.out.symm) ((HX0.out.trans HX3.out).trans HX4.out)
        · have hlt := SubD.sum HGS.out.2.1 HGN.out.2.1 HSUB.out he
          rw [decide_eq_false he]
          clear he
          go_wp2
          go_roundg k
          case measure => omega
          case rel => exact ⟨propL cs now, HO3.out.grow HX4.out, HGS.out, by rw [HID.out, HIT.out], by omega⟩
set_option maxRecDepth 100000 in
set_option maxHeartbeats 8000000 in
theorem refuted0_any (v vl : Value) (Ae : Option Addr) (ce : Nat) (ds : List Int) (cs : List Con) (ls : List Lt) (w : World) (hM : SMod w v ds cs) (hL : SLt w vl ls) (hG : GoodD cs ds.length ds) (hok : okCl ls ds.length = true) (h4 : ds.length ≤ 4) (h1 : 0 < ds.length) :
    Calls Tryz.prog 44 #[v, .slice Ae 0 ce, vl] w (Ret (.bool (rftB cs ds ls)) w) := by
  have hM0 := hide hM
  have hL0 := hide hL
  have HG := hide hG
  have HOK := hide hok
  obtain ⟨vd, vc, rfl, hD, hC⟩ := hM
  have hD0 := hide hD
  obtain ⟨Ad, cd, rfl, -, hld⟩ := hD.form
  obtain ⟨Ac, cc, rfl, -, hlc⟩ := hC.form
  obtain ⟨Al, cl, rfl, -, hll⟩ := hL.form
  obtain ⟨w0, hw0⟩ : ∃ w0, w0 = w.alloc (.cells #[.slice Ad ds.length cd, .slice Ac cs.length cc] 26) := ⟨_, rfl⟩
  have hx0 : Ext w w0 := by rw [hw0]; exact (Ext.refl w).alloc _
  have K0 := hide (show w0.cell? ⟨w.heap.size, 0, none⟩ = some (.slice Ad ds.length cd) by rw [hw0]; go_simp)
  have K1 := hide (show w0.cell? ⟨w.heap.size, 1, none⟩ = some (.slice Ac cs.length cc) by rw [hw0]; go_simp)
  have ks : w.heap.size < w0.heap.size := by rw [hw0]; simp
  have HX0 := hide hx0
  obtain ⟨q, hq⟩ : ∃ q, q = resCL ds ls := ⟨_, rfl⟩
  have HQ := hide hq
  have hgq := rft_good hG hok
  rw [← hq] at hgq
  have HGQ := hide hgq
  have hql := hgq.1
  have HV := hide (show rftB cs ds ls = hasI (propL cs q) 0 by rw [rftB, ← hq])
  clear hD hC hL hG hok hx0 hq hgq
  go_enter Tryz.func44, Tryz.ntmps44
  go_wp2_with fail
  rw [← hw0]
  clear hw0
  refine wp_region_relT (n := 7) (ts := [7]) (sp := [RS.q [] (fun _ => .agg #[.slice Ad ds.length cd, .slice Ac cs.length cc]), RS.q [] (fun _ => .slice Ae 0 ce), RS.q [] (fun _ => .pointer (some ⟨w.heap.size, 0, none⟩)), RS.q [2] (fun _ => .slice Ad ds.length cd), RS.q [] (fun _ => .slice Al ls.length cl), RS.ow [3, 4] (q) w0, RS.q [0, 1, 5] (fun _ => .bool (rftB cs ds ls))])
    (fun W => Ext w0 W) (by kernel_rfl) (relOK (D := [[], [], [], [2], [], [3, 4], [0, 1, 5]]) rfl (by kernel_rfl) rfl) (by kernel_rfl) ((fun W W' h hx => h.trans hx)) (Ext.refl w0).drew ?steps ?ends
  case steps =>
    refine ⟨?_, ?_, ?_, ?_, ?_, ?_, ?_, trivial⟩
    · intro V τ W hC hf ht h0
      have s3 : τ 3 = .pointer (some ⟨w.heap.size, 0, none⟩) := h0 3 (by kernel_rfl)
      have k0 := (hC.cells _ _ ks).trans K0.out
      have k1 := (hC.cells _ _ ks).trans K1.out
      refine Does.val (w' := W) (v := .agg #[.slice Ad ds.length cd, .slice Ac cs.length cc]) ?_ ⟨Ext.refl W, rfl⟩
      clear h0 ht hf
      go_simp
    · intro V τ W hC hf ht h0
      have s1 : τ 1 = .slice Ae 0 ce := h0 1 (by kernel_rfl)
      refine Does.val (w' := W) (v := .slice Ae 0 ce) ?_ ⟨Ext.refl W, rfl⟩
      go_simp
    · intro V τ W hC hf ht h0
      have s3 : τ 3 = .pointer (some ⟨w.heap.size, 0, none⟩) := h0 3 (by kernel_rfl)
      refine Does.val (w' := W) (v := .pointer (some ⟨w.heap.size, 0, none⟩)) ?_ ⟨Ext.refl W, rfl⟩
      go_simp
    · intro V τ W hC hf ht h0
      have f2 : V 2 = .pointer (some ⟨w.heap.size, 0, none⟩) := hf 2 (by simp [RS.at_, RS.q, RS.ow])
      have s9 := (ht 2 (by simp [RS.at_, RS.q, RS.ow]) 9 rfl).trans f2
      have k0 := (hC.cells _ _ ks).trans K0.out
      refine Does.val (w' := W) (v := .slice Ad ds.length cd) ?_ ⟨Ext.refl W, rfl⟩
      go_simp
    · intro V τ W hC hf ht h0
      have s2 : τ 2 = .slice Al ls.length cl := h0 2 (by kernel_rfl)
      refine Does.val (w' := W) (v := .slice Al ls.length cl) ?_ ⟨Ext.refl W, rfl⟩
      go_simp
    · intro V τ W hC hf ht h0
      have f3 : V 3 = .slice Ad ds.length cd := hf 3 (by simp [RS.at_, RS.q, RS.ow])
      have f4 : V 4 = .slice Al ls.length cl := hf 4 (by simp [RS.at_, RS.q, RS.ow])
      have s10 := (ht 3 (by simp [RS.at_, RS.q, RS.ow]) 10 rfl).trans f3
      have s11 := (ht 4 (by simp [RS.at_, RS.q, RS.ow]) 11 rfl).trans f4
      refine Does.call (w' := W) (f := 42) (args := #[.slice Ad ds.length cd, .slice Al ls.length cl]) (by go_simp; all_goals (first | exact rfl | (apply And.intro <;> exact rfl))) ?_
      refine (restrictTo_any _ _ ds ls ds.length _ (hD0.out.ext (HX0.out.trans hC)) (hL0.out.ext (HX0.out.trans hC)) HG.out.dom HOK.out h1 h4).mono ?_
      rintro e wa hres
      have hr2 : OwnRes q w0 e wa := by rw [HQ.out]; exact OwnRes.from hres hC
      obtain ⟨A3, c3, b3, m3, f3, rfl, -, -, -, -, hxa⟩ := hres
      exact ⟨_, rfl, hxa, hr2⟩
    · intro V τ W hC hf ht h0
      have f0 : V 0 = .agg #[.slice Ad ds.length cd, .slice Ac cs.length cc] := hf 0 (by simp [RS.at_, RS.q, RS.ow])
      have f1 : V 1 = .slice Ae 0 ce := hf 1 (by simp [RS.at_, RS.q, RS.ow])
      have f5 : OwnRes q w0 (.returned (V 5)) W := hf 5 (by simp [RS.at_, RS.q, RS.ow])
      have s7 := (ht 0 (by simp [RS.at_, RS.q, RS.ow]) 7 rfl).trans f0
      have s8 := (ht 1 (by simp [RS.at_, RS.q, RS.ow]) 8 rfl).trans f1
      have s12 : τ 12 = V 5 := ht 5 (by simp [RS.at_, RS.q, RS.ow]) 12 rfl
      refine Does.call (w' := W) (f := 71) (args := #[.agg #[.slice Ad ds.length cd, .slice Ac cs.length cc], .slice Ae 0 ce, V 5]) (by go_simp; all_goals (first | exact rfl | (apply And.intro <;> exact rfl))) ?_
      refine (refute0_any _ _ Ae ce ds q cs _ (hM0.out.ext (HX0.out.trans hC)) (f5.ints (fun i hi => by have := HGQ.out.2.1 i hi; unfold I64; omega)) (by rw [HGQ.out.1]; exact HGQ.out) (by have := HGQ.out.1; omega) (by have := HGQ.out.1; omega)).mono ?_
      rintro e wa ⟨rfl, hxa⟩
      exact ⟨_, rfl, hxa, congrArg Value.bool HV.out.symm⟩
  case ends =>
    intro V W hC hf
    have f0 : V 0 = .agg #[.slice Ad ds.length cd, .slice Ac cs.length cc] := hf 0 (by omega)
    have f1 : V 1 = .slice Ae 0 ce := hf 1 (by omega)
    have f2 : V 2 = .pointer (some ⟨w.heap.size, 0, none⟩) := hf 2 (by omega)
    have f3 : V 3 = .slice Ad ds.length cd := hf 3 (by omega)
    have f4 : V 4 = .slice Al ls.length cl := hf 4 (by omega)
    obtain ⟨A5, c5, f5⟩ := (show OwnRes q w0 (.returned (V 5)) W from hf 5 (by omega)).form
    have f6 : V 6 = .bool (rftB cs ds ls) := hf 6 (by omega)
    rw [hql] at f5
    clear hf
    simp only [List.take_succ_cons, List.take_zero, putAll, Act.put, List.setIfInBounds_toArray, List.set_cons_succ, List.set_cons_zero, Nat.reduceAdd, f0, f1, f2, f3, f4, f5, f6]
    simp only [nths, nth1]
    clear f0 f1 f2 f3 f4 f5 f6
    have HXE := hide (HX0.out.trans hC)
    clear hC
    go_wp2
    go_ret
    exact Ret.mk rfl HXE.out
end Go.Proofs.YtfejhenbpnijhaaGreat
/- A clause without one of its literals; the reference's walk of it. -/
namespace Go.Proofs.YtfejhenbpnijhaaGreat
open Go.RowKit
attribute [local go_sem] evalOf

theorem layLt_S {w : World} {v : Value} {rs : List Lt} (h : layLt.S w v rs) : SLt w v rs := by
  obtain ⟨A, c, h1, h2, h3, h5⟩ := h
  refine ⟨A, c, h1, h2, h3, fun hp => ?_⟩
  obtain ⟨b, off, e, hb, hc⟩ := h5 hp
  refine ⟨b, off, e, hb, fun i hi => ?_⟩
  have e0 := layLtOk.flat_at rs i 0 hi (by show 0 < 3; omega)
  have e1 := layLtOk.flat_at rs i 1 hi (by show 1 < 3; omega)
  have e2 := layLtOk.flat_at rs i 2 hi (by show 2 < 3; omega)
  have g0 := hc _ _ (e0.trans rfl)
  have g1 := hc _ _ (e1.trans rfl)
  have g2 := hc _ _ (e2.trans rfl)
  unfold ltX ltV ltN lt0
  rw [getD_lt _ _ hi]
  exact ⟨g0, g1, g2⟩
theorem layLt_of {w : World} {v : Value} {rs : List Lt} (h : SLt w v rs) : layLt.S w v rs := by
  obtain ⟨A, c, h1, h2, h3, h5⟩ := h
  refine ⟨A, c, h1, h2, h3, fun hp => ?_⟩
  obtain ⟨b, off, e, hb, hc⟩ := h5 hp
  refine ⟨b, off, e, hb, fun j u hj => ?_⟩
  have hjl : j < rs.length * 3 := by
    have := (List.getElem?_eq_some_iff.1 hj).1
    rwa [layLtOk.flen] at this
  have hi : j / 3 < rs.length := by omega
  obtain ⟨g0, g1, g2⟩ := hc (j / 3) hi
  unfold ltX lt0 at g0
  unfold ltV lt0 at g1
  unfold ltN lt0 at g2
  rw [getD_lt _ _ hi] at g0 g1 g2
  have e2 : j = j / 3 * 3 + j % 3 := by omega
  have := layLtOk.flat_at rs (j / 3) (j % 3) hi (by show j % 3 < 3; omega)
  rw [show j / 3 * layLt.size + j % 3 = j from e2.symm, hj] at this
  rcases (show j % 3 = 0 ∨ j % 3 = 1 ∨ j % 3 = 2 by omega) with h | h | h
  · rw [h] at this
    have hu : u = .int .i64 (rs[j / 3]).x := by injection this
    rw [hu, show off + j = off + j / 3 * 3 by omega]; exact g0
  · rw [h] at this
    have hu : u = .int .i64 (rs[j / 3]).v := by injection this
    rw [hu, show off + j = off + j / 3 * 3 + 1 by omega]; exact g1
  · rw [h] at this
    have hu : u = .bool (rs[j / 3]).n := by injection this
    rw [hu, show off + j = off + j / 3 * 3 + 2 by omega]; exact g2
/-- Another literal. -/
def neL (a x : Lt) : Bool := !(x.x == a.x && (x.v == a.v && x.n == a.n))
theorem lsB_trans {a b c : Lt} (h1 : lsB a b = true) (h2 : lsB b c = true) : lsB a c = true := by
  obtain ⟨ax, av, an⟩ := a; obtain ⟨bx, bv, bn⟩ := b; obtain ⟨cx, cv, cn⟩ := c
  simp only [lsB, Bool.or_eq_true, Bool.and_eq_true, decide_eq_true_eq, Bool.not_eq_true'] at h1 h2 ⊢
  rcases h1 with h1 | ⟨h1, h1 | ⟨h1, h1', h1''⟩⟩ <;> rcases h2 with h2 | ⟨h2, h2 | ⟨h2, h2', h2''⟩⟩
  · left; omega
  · left; omega
  · left; omega
  · left; omega
  · right; exact ⟨by omega, .inl (by omega)⟩
  · right; exact ⟨by omega, .inl (by omega)⟩
  · left; omega
  · right; exact ⟨by omega, .inl (by omega)⟩
  · right; exact ⟨by omega, .inr ⟨by omega, h1', h2''⟩⟩
theorem lsB_ne {a b : Lt} (h : lsB a b = true) : neL a b = true ∧ neL b a = true := by
  obtain ⟨ax, av, an⟩ := a; obtain ⟨bx, bv, bn⟩ := b
  simp only [lsB, Bool.or_eq_true, Bool.and_eq_true, decide_eq_true_eq, Bool.not_eq_true'] at h
  simp only [neL, Bool.not_eq_true', Bool.and_eq_false_iff, beq_eq_false_iff_ne]
  rcases h with h | ⟨h, h | ⟨h, h', h''⟩⟩
  · exact ⟨.inl (by omega), .inl (by omega)⟩
  · exact ⟨.inr (.inl (by omega)), .inr (.inl (by omega))⟩
  · exact ⟨.inr (.inr (by rw [h', h'']; simp)), .inr (.inr (by rw [h', h'']; simp))⟩
theorem neL_self (a : Lt) : neL a a = false := by simp [neL]
theorem okCl_iff {ls : List Lt} {n : Int} : okCl ls n = true ↔ (∀ x ∈ ls, okLt x n = true) ∧ ls.Pairwise (fun a b => lsB a b = true) ∧ ls.length ≤ 12 := by
  constructor
  · intro h
    have h12 := okCl_len h
    have hadj : ∀ i, i + 1 < ls.length → lsB (lt0 ls i) (lt0 ls (i + 1)) = true := fun i hi => okCl_ls h hi
    have hlong : ∀ d i, i + d + 1 < ls.length → lsB (lt0 ls i) (lt0 ls (i + d + 1)) = true := by
      intro d
      induction d with
      | zero => exact fun i hi => hadj i hi
      | succ d ih => exact fun i hi => lsB_trans (ih i (by omega)) (hadj (i + d + 1) (by omega))
    refine ⟨fun x hx => ?_, ?_, h12⟩
    · obtain ⟨i, hi, e⟩ := List.getElem_of_mem hx
      simp only [okCl, Bool.and_eq_true, Bool.not_eq_true'] at h
      have := anyB_false.1 h.1 i hi
      simp only [badAt, Bool.or_eq_false_iff, Bool.not_eq_false'] at this
      have h2 := this.1
      rwa [lt0, getD_lt _ _ hi, e] at h2
    · rw [List.pairwise_iff_getElem]
      intro i j hi hj hij
      have := hlong (j - i - 1) i (by omega)
      rw [show i + (j - i - 1) + 1 = j by omega] at this
      rwa [lt0, lt0, getD_lt _ _ hi, getD_lt _ _ hj] at this
  · rintro ⟨h1, h2, h3⟩
    rw [okCl_all fun i hi => ?_, decide_eq_true h3]
    rw [badAt, show okLt (lt0 ls i) n = true by rw [lt0, getD_lt _ _ hi]; exact h1 _ (List.getElem_mem hi)]
    by_cases h0 : 0 < i
    · rw [List.pairwise_iff_getElem] at h2
      have := h2 (i - 1) i (by omega) hi (by omega)
      rw [lt0, lt0, getD_lt _ _ hi, getD_lt _ _ (by omega), this]; simp
    · rw [decide_eq_false h0]; rfl
theorem okCl_erase {ls : List Lt} {n : Int} (i : Nat) (h : okCl ls n = true) : okCl (ls.eraseIdx i) n = true := by
  rw [okCl_iff] at h ⊢
  have hs := List.eraseIdx_sublist ls i
  exact ⟨fun x hx => h.1 x (hs.subset hx), h.2.1.sublist hs, Nat.le_trans hs.length_le h.2.2⟩
theorem filt_erase : ∀ {ls : List Lt}, ls.Pairwise (fun a b => lsB a b = true) → ∀ i (hi : i < ls.length), ls.filter (neL ls[i]) = ls.eraseIdx i
  | [], _, i, hi => by simp at hi
  | a :: l, hp, 0, _ => by
    rw [List.pairwise_cons] at hp
    show List.filter (neL a) (a :: l) = l
    rw [List.filter_cons, neL_self, if_neg (by simp), List.filter_eq_self]
    exact fun x hx => (lsB_ne (hp.1 x hx)).1
  | a :: l, hp, i + 1, hi => by
    rw [List.pairwise_cons] at hp
    have hi' : i < l.length := by simpa using hi
    show List.filter (neL l[i]) (a :: l) = a :: l.eraseIdx i
    rw [List.filter_cons, if_pos (lsB_ne (hp.1 _ (List.getElem_mem hi'))).2, filt_erase hp.2 i hi']
theorem wo_erase {ls : List Lt} {n : Int} (h : okCl ls n = true) {i : Nat} (hi : i < ls.length) : ls.filter (neL (lt0 ls i)) = ls.eraseIdx i := by
  rw [lt0, getD_lt _ _ hi]
  exact filt_erase (okCl_iff.1 h).2.1 i hi
theorem filter_takeL (p : Lt → Bool) (l : List Lt) {k : Nat} (hk : k < l.length) : (l.take (k + 1)).filter p = (l.take k).filter p ++ (if p l[k] = true then [l[k]] else []) := by
  rw [List.take_succ_eq_append_getElem hk, List.filter_append]
  cases h : p l[k] <;> simp [h]
set_option maxRecDepth 100000 in
set_option maxHeartbeats 8000000 in
theorem without_any (v : Value) (ls : List Lt) (a : Lt) (w : World) (hS : SLt w v ls) (hl : ls.length ≤ 24) :
    Calls Tryz.prog 43 #[v, .agg #[.int .i64 a.x, .int .i64 a.v, .bool a.n]] w (layLt.Res (ls.filter (neL a)) w) := by
  have hS0 := hide hS
  obtain ⟨Av, cv, rfl, -, -⟩ := hS.form
  have HBY := hide (show layLt.bytes = 24 from rfl)
  obtain ⟨w0, hw0⟩ : ∃ w0, w0 = w.alloc (.cells #[.int .i64 a.x, .int .i64 a.v, .bool a.n] 35) := ⟨_, rfl⟩
  have hx0 : Ext w w0 := by rw [hw0]; exact (Ext.refl w).alloc _
  have J0 := hide (show w0.cell? ⟨w.heap.size, 0, none⟩ = some (.int .i64 a.x) by rw [hw0]; go_simp)
  have J1 := hide (show w0.cell? ⟨w.heap.size, 1, none⟩ = some (.int .i64 a.v) by rw [hw0]; go_simp)
  have J2 := hide (show w0.cell? ⟨w.heap.size, 2, none⟩ = some (.bool a.n) by rw [hw0]; go_simp)
  have hs0 : w0.heap.size = w.heap.size + 1 := by rw [hw0]; simp
  have js : w.heap.size < w0.heap.size := by omega
  have HX0 := hide hx0
  clear hS hx0
  go_enter Tryz.func43, Tryz.ntmps43
  go_wp2_with fail
  rw [← hw0, show w.heap.size + 1 = w0.heap.size by omega]
  clear hw0 hs0
  have HE := hide (show layLt.App w0.heap.size (w0.alloc (.cells #[] 35)) (.slice (some ⟨w0.heap.size, 0, none⟩) 0 0) [] from LayApp.empty w0 rfl)
  have HX1 := hide ((Ext.refl w0).alloc (.cells #[] 35))
  go_loopw [5, 6] (fun o i wr => ∃ k : Nat, k ≤ ls.length ∧ i = .int .i64 k ∧ Ext w0 wr ∧ layLt.App w0.heap.size wr o ((ls.take k).filter (neL a))) (fun _ i _ => ls.length - (intOf i).toNat)
  case atStart => exact ⟨0, Nat.zero_le _, rfl, HX1.out, HE.out⟩
  case round =>
    obtain ⟨k, hk, rfl, hx, hA⟩ := hrel
    have HX := hide hx
    have HA := hide hA
    obtain ⟨Ao, co, hvo, -, -⟩ := LayApp.form hA
    obtain ⟨N, hN⟩ : ∃ N, N = ((ls.take k).filter (neL a)).length := ⟨_, rfl⟩
    have hN24 : N ≤ 24 := by
      have h1 := List.length_filter_le (neL a) (ls.take k)
      rw [List.length_take] at h1
      omega
    rw [← hN] at hvo
    subst hvo
    have HN := hide hN
    have hsz := hx.size
    have j0 := (hx.cells _ _ js).trans J0.out
    have j1 := (hx.cells _ _ js).trans J1.out
    have j2 := (hx.cells _ _ js).trans J2.out
    have jsW := Nat.lt_of_lt_of_le js hx.size
    clear hx hA hN
    by_cases hlt : k < ls.length
    · have hkI : (k : Int) < ls.length := by omega
      obtain ⟨b, off, rfl, hbw, f1, f2, f3⟩ := (hS0.out.ext (HX0.out.trans HX.out)).at_ hlt
      obtain ⟨x, hx⟩ : ∃ x : Lt, x = ls[k] := ⟨_, rfl⟩
      have e1 : ltX ls k = x.x := by rw [hx, ltX, lt0, getD_lt _ _ hlt]
      have e2 : ltV ls k = x.v := by rw [hx, ltV, lt0, getD_lt _ _ hlt]
      have e3 : ltN ls k = x.n := by rw [hx, ltN, lt0, getD_lt _ _ hlt]
      rw [e1] at f1
      rw [e2] at f2
      rw [e3] at f3
      have HFT := hide (filter_takeL (neL a) ls hlt)
      rw [← hx] at HFT
      clear hx e1 e2 e3
      go_wp2_with fail
      refine wp_region_ext (by kernel_rfl) (by kernel_rfl) ?_
      iterate 5 (apply quiet_val; (focus rfl); (focus (intro w' hw'; have hk' := hw'.cells; go_simp; all_goals exact rfl)); simp only [Act.put, List.setIfInBounds_toArray, List.set_cons_succ, List.set_cons_zero])
      refine quiet_val (.bool (neL a x)) rfl (fun w' hw' => ?_) ?_
      · go_simp
        unfold neL
        by_cases e1 : x.x = a.x <;> by_cases e2 : x.v = a.v <;> by_cases e3 : x.n = a.n <;> simp [e1, e2, e3]
      simp only [Act.put, List.setIfInBounds_toArray, List.set_cons_succ, List.set_cons_zero]
      refine wpQuiet_nil ?_
      intro w5 hx5
      have HX5 := hide (HX.out.trans hx5)
      have HA5 := hide (LayApp.ext HA.out hx5)
      have f1 := (hx5.cells _ _ hbw).trans f1
      have f2 := (hx5.cells _ _ hbw).trans f2
      have f3 := (hx5.cells _ _ hbw).trans f3
      have hbw := Nat.lt_of_lt_of_le hbw hx5.size
      have h5s := hx5.size
      clear hx5 j0 j1 j2
      cases hne : neL a x with
      | false =>
        have HNE := hide (show (ls.take (k + 1)).filter (neL a) = (ls.take k).filter (neL a) by rw [HFT.out, hne]; simp)
        clear hne
        go_wp2
        go_roundw
        case rel => exact ⟨k + 1, by omega, by go_num, HX5.out, by rw [HNE.out]; exact HA5.out⟩
        case measure => simp [intOf]; omega
      | true =>
        have HNE := hide (show (ls.take (k + 1)).filter (neL a) = (ls.take k).filter (neL a) ++ [x] by rw [HFT.out, hne]; rfl)
        clear hne
        go_wp2_with (at_builtin; refine wpList_appG (L := layLt) layLtOk _ rfl _ _ rfl w0.heap.size _ _ ((ls.take k).filter (neL a)) [x] rfl rfl (LayApp.ext HA5.out ((Ext.refl _).alloc _)) (⟨_, _, rfl, Nat.le_refl _, by rw [HBY.out]; simp, fun _ => ⟨_, 0, rfl, by simp, fun j w hj => by
          match j, hj with
          | 0, hj => injection hj with hj; subst hj; go_simp
          | 1, hj => injection hj with hj; subst hj; go_simp
          | 2, hj => injection hj with hj; subst hj; go_simp
          | j + 3, hj => simp [Lay.flat, layLt] at hj⟩⟩) (by intro n c h; cases h) (by rw [← HN.out]; simp; omega) (by rw [← HN.out, HBY.out]; simp; omega) (by rw [World.size_alloc]; omega) ?_; intro v' w6 hA6 hb6; have HX6 := hide ((HX5.out.alloc _).below hb6))
        go_roundw
        case rel => exact ⟨k + 1, by omega, by go_num, HX6.out, by rw [HNE.out]; exact hA6⟩
        case measure => simp [intOf]; omega
    · obtain rfl : k = ls.length := by omega
      have hkI : ¬ ((ls.length : Int) < ls.length) := by omega
      have hwb : w.heap.size ≤ w0.heap.size := by omega
      have HA9 := hide (show layLt.App w0.heap.size wr (.slice Ao N co) (ls.filter (neL a)) by have h1 := HA.out; rw [List.take_length] at h1; exact h1)
      go_wp2
      go_ret
      exact ⟨_, rfl, LayApp.mono HA9.out hwb, HX0.out.trans HX.out⟩
end Go.Proofs.YtfejhenbpnijhaaGreat
/- MinimalNogood: the value, and the reference's walk. -/
namespace Go.Proofs.YtfejhenbpnijhaaGreat
open Go.RowKit
attribute [local go_sem] evalOf

def mngB (ds : List Int) (cs : List Con) (ls : List Lt) : Bool := vMod ds cs && (okCl ls ds.length && rftB cs ds ls)
def mngL (ds : List Int) (cs : List Con) (ls : List Lt) : List Lt := if mngB ds cs ls = true then shr (rftB cs ds) ls.length 0 ls else []
theorem mngL_len (ds : List Int) (cs : List Con) (ls : List Lt) : (mngL ds cs ls).length ≤ 24 := by
  unfold mngL
  split
  · rename_i h
    simp only [mngB, Bool.and_eq_true] at h
    exact Nat.le_trans (okCl_len (shr_G (G := fun l => okCl l ds.length = true) (fun l i h => okCl_erase i h) _ _ _ h.2.1)) (by omega)
  · simp
theorem mngL_yes {ds : List Int} {cs : List Con} {ls : List Lt} (h : mngB ds cs ls = true) : mngL ds cs ls = shr (rftB cs ds) ls.length 0 ls := by rw [mngL, if_pos h]
theorem mngL_no {ds : List Int} {cs : List Con} {ls : List Lt} (h : mngB ds cs ls = false) : mngL ds cs ls = [] := by rw [mngL, h, if_neg (by simp)]
def LtRes (xs : List Lt) (ok : Bool) (w : World) (e : Ending) (w' : World) : Prop :=
  ∃ A b m f, e = .returned (.tuple #[.slice A xs.length xs.length, .bool ok]) ∧ w.heap.size ≤ b ∧ layLt.Own w' A b m f xs ∧ Ext w w'
def LtOut (xs : List Lt) (ok : Bool) (w : World) (e : Ending) (w' : World) : Prop :=
  ∃ A c, e = .returned (.tuple #[.slice A xs.length c, .bool ok]) ∧ SLt w' (.slice A xs.length c) xs ∧ Ext w w'
theorem LtOut.nil_ {w w' : World} {ok : Bool} {e : Ending} (he : e = .returned (.tuple #[.slice none 0 0, .bool ok])) (hx : Ext w w') : LtOut [] ok w e w' :=
  ⟨none, 0, he, ⟨none, 0, rfl, Nat.le_refl _, by simp, fun hp => absurd hp (by simp)⟩, hx⟩
theorem LtRes.nil_ {w w' : World} {ok : Bool} {e : Ending} (he : e = .returned (.tuple #[.slice none 0 0, .bool ok])) (hx : Ext w w') : LtRes [] ok w e w' :=
  ⟨none, w.heap.size, 0, fun _ => undef, he, Nat.le_refl _, fun hp => absurd hp (by simp), hx⟩
set_option maxRecDepth 100000 in
set_option maxHeartbeats 16000000 in
theorem reduce_any (v vl : Value) (Ae : Option Addr) (ce : Nat) (ds : List Int) (cs : List Con) (ls : List Lt) (w : World) (hM : SMod w v ds cs) (hL : SLt w vl ls) (hnil : ∀ n c, vl = .slice none n c → c = 0) (hG : GoodD cs ds.length ds) (hok : okCl ls ds.length = true) (h4 : ds.length ≤ 4) (h1 : 0 < ds.length) :
    Calls Tryz.prog 20 #[v, .slice Ae 0 ce, vl] w (layLt.Res (shr (rftB cs ds) ls.length 0 ls) w) := by
  have hM0 := hide hM
  have hL0 := hide hL
  have HG := hide hG
  have HOK := hide hok
  have HNL := hide hnil
  have HBY := hide (show layLt.bytes = 24 from rfl)
  have hl12 := okCl_len hok
  obtain ⟨vd, vc, rfl, hD, hC⟩ := hM
  obtain ⟨Ad, cd, rfl, -, hld⟩ := hD.form
  obtain ⟨Ac, cc, rfl, -, hlc⟩ := hC.form
  obtain ⟨Al, cl, rfl, -, hll⟩ := hL.form
  obtain ⟨w0, hw0⟩ : ∃ w0, w0 = w.alloc (.cells #[.slice Ad ds.length cd, .slice Ac cs.length cc] 26) := ⟨_, rfl⟩
  have hx0 : Ext w w0 := by rw [hw0]; exact (Ext.refl w).alloc _
  have K0 := hide (show w0.cell? ⟨w.heap.size, 0, none⟩ = some (.slice Ad ds.length cd) by rw [hw0]; go_simp)
  have K1 := hide (show w0.cell? ⟨w.heap.size, 1, none⟩ = some (.slice Ac cs.length cc) by rw [hw0]; go_simp)
  have hs0 : w0.heap.size = w.heap.size + 1 := by rw [hw0]; simp
  have ks : w.heap.size < w0.heap.size := by omega
  have HX0 := hide hx0
  obtain ⟨pp, hpp⟩ : ∃ pp : List Lt → Bool, pp = rftB cs ds := ⟨_, rfl⟩
  rw [← hpp]
  have HPP := hide hpp
  clear hD hC hL hG hok hx0 hpp hnil
  go_enter Tryz.func20, Tryz.ntmps20
  go_wp2_with (at_builtin; go_must (rw [← hw0]; refine wpList_appG (L := layLt) layLtOk _ rfl _ _ rfl w0.heap.size _ _ [] ls rfl rfl (show layLt.App w0.heap.size (w0.alloc (.cells #[] 35)) (.slice (some ⟨w.heap.size + 1, 0, none⟩) 0 0) [] by rw [show w.heap.size + 1 = w0.heap.size by omega]; exact LayApp.empty w0 rfl) (LayS.ext (layLt_of hL0.out) (HX0.out.alloc _)) HNL.out (by simp; omega) (by rw [HBY.out]; simp; omega) (by simp) ?_); intro v1 w1 hA1 hb1; have HX1 := hide (((Ext.refl w0).alloc _).below hb1); have HA1 := hide hA1; obtain ⟨A1, c1, rfl, -, -⟩ := LayApp.form hA1; clear hA1 hb1)
  clear hw0
  have HA1 := hide (show layLt.App w0.heap.size w1 _ ls from HA1.out)
  go_loopw [7, 8] (fun o i wr => ∃ (k : Nat) (l : List Lt), i = .int .i64 k ∧ k ≤ l.length ∧ Ext w0 wr ∧ layLt.App w0.heap.size wr o l ∧ Hid (okCl l ds.length = true) ∧ Hid (shr pp (l.length - k) k l = shr pp ls.length 0 ls)) (fun o i _ => 2 * lenOf o - (intOf i).toNat)
  case atStart => exact ⟨0, ls, rfl, Nat.zero_le _, HX1.out, HA1.out, HOK, hide rfl⟩
  case round =>
    obtain ⟨k, l, rfl, hk, hx, hA, HG0, HSH⟩ := hrel
    have HX := hide hx
    have HA := hide hA
    have hsz := hx.size
    have hl24 := okCl_len HG0.out
    obtain ⟨A, c', rfl, hlc2, hc63⟩ := LayApp.form hA
    by_cases hlt : k < l.length
    · have hkI : (k : Int) < l.length := by omega
      have HS := hide (LayApp.S hA (by rw [HBY.out]; omega))
      obtain ⟨b, off, rfl, hbw, f1, f2, f3⟩ := (layLt_S HS.out).at_ hlt
      have HLE := hide (show (l.eraseIdx k).length + 1 = l.length by rw [List.length_eraseIdx, if_pos hlt]; omega)
      have HWO := hide (wo_erase HG0.out hlt)
      clear hA hx
      go_wp2_with fail
      refine (without_any _ l (lt0 l k) _ (layLt_S HS.out) (by omega)).mono ?_
      rintro e w3 ⟨v3, rfl, hA3, hx3⟩
      rw [HWO.out] at hA3
      have HA3 := hide hA3
      have HX3 := hide hx3
      obtain ⟨A3, c3, hv3, -, -⟩ := LayApp.form hA3
      obtain ⟨N, hN⟩ : ∃ N, N = (l.eraseIdx k).length := ⟨_, rfl⟩
      rw [← hN] at hv3
      subst hv3
      have HN := hide hN
      have HXW := hide (HX.out.trans HX3.out)
      have k0 := (HXW.out.cells _ _ ks).trans K0.out
      have k1 := (HXW.out.cells _ _ ks).trans K1.out
      have HNl := hide (show N + 1 = l.length by have := HLE.out; omega)
      clear hA3 hx3 hN f1 f2 f3
      have HGE := hide (okCl_erase k HG0.out)
      have HS3 := hide (LayApp.S HA3.out (by have := HNl.out; have := HN.out; rw [HBY.out]; omega))
      have HPE0 := hide (show rftB cs ds (l.eraseIdx k) = pp (l.eraseIdx k) by rw [HPP.out])
      go_wp2_with fail
      refine (refuted0_any _ _ Ae ce ds cs (l.eraseIdx k) _ (hM0.out.ext (HX0.out.trans HXW.out)) (layLt_S HS3.out) HG.out HGE.out h4 h1).mono ?_
      rintro e w4 ⟨rfl, hx4⟩
      have HX4 := hide (HXW.out.trans hx4)
      have HX34 := hide (HX3.out.trans hx4)
      have HA34 := hide (LayApp.ext HA3.out hx4)
      rw [HPE0.out]
      clear hx4 k0 k1
      cases hpe : pp (l.eraseIdx k) with
      | true =>
        have HPE := hide hpe
        clear hpe
        go_wp2
        go_roundw
        case rel =>
          refine ⟨k, l.eraseIdx k, rfl, by have := HN.out; have := HNl.out; omega, HX4.out, LayApp.mono HA34.out hsz, HGE, hide ?_⟩
          rw [← HSH.out, show l.length - k = ((l.eraseIdx k).length - k) + 1 by have := HN.out; have := HNl.out; omega, shr, if_pos HPE.out]
        case measure => have := HNl.out; simp [intOf, lenOf]; omega
      | false =>
        have HPE := hide hpe
        have HA4 := hide (LayApp.ext HA.out HX34.out)
        clear hpe
        go_wp2
        go_roundw
        case rel =>
          refine ⟨k + 1, l, by go_num, by omega, HX4.out, HA4.out, HG0, hide ?_⟩
          rw [← HSH.out, show l.length - k = (l.length - (k + 1)) + 1 by omega, shr, HPE.out, if_neg (by simp)]
        case measure => simp [intOf, lenOf]; omega
    · obtain rfl : k = l.length := by omega
      have hkI : ¬ ((l.length : Int) < l.length) := by omega
      have HE := hide (show shr pp ls.length 0 ls = l by rw [← HSH.out, Nat.sub_self, shr])
      have hwb : w.heap.size ≤ w0.heap.size := by omega
      clear hA hx
      go_wp2
      go_ret
      rw [HE.out]
      exact ⟨_, rfl, LayApp.mono HA.out hwb, HX0.out.trans HX.out⟩
set_option maxRecDepth 100000 in
set_option maxHeartbeats 8000000 in
theorem MinimalNogoodS_any (v vl : Value) (ds : List Int) (cs : List Con) (ls : List Lt) (w : World) (hM : SMod w v ds cs) (hL : SLt w vl ls) (hnil : ∀ n c, vl = .slice none n c → c = 0) :
    Calls Tryz.prog 6 #[v, vl] w (LtOut (mngL ds cs ls) (mngB ds cs ls) w) := by
  have hM0 := hide hM
  have hL0 := hide hL
  have HNL := hide hnil
  have HBY := hide (show layLt.bytes = 24 from rfl)
  obtain ⟨vd, vc, rfl, hD, hC⟩ := hM
  obtain ⟨Ad, cd, rfl, -, hld⟩ := hD.form
  obtain ⟨Ac, cc, rfl, -, hlc⟩ := hC.form
  obtain ⟨Al, cl, rfl, -, hll⟩ := hL.form
  obtain ⟨w0, hw0⟩ : ∃ w0, w0 = w.alloc (.cells #[.slice Ad ds.length cd, .slice Ac cs.length cc] 26) := ⟨_, rfl⟩
  have hx0 : Ext w w0 := by rw [hw0]; exact (Ext.refl w).alloc _
  have k0 : w0.cell? ⟨w.heap.size, 0, none⟩ = some (.slice Ad ds.length cd) := by rw [hw0]; go_simp
  have k1 : w0.cell? ⟨w.heap.size, 1, none⟩ = some (.slice Ac cs.length cc) := by rw [hw0]; go_simp
  have ks : w.heap.size < w0.heap.size := by rw [hw0]; simp
  have HX0 := hide hx0
  clear hD hC hL hx0 hnil
  go_enter Tryz.func6, Tryz.ntmps6
  go_wp2_with fail
  rw [← hw0]
  clear hw0
  refine (RefutesS_any _ _ ds cs ls _ (hM0.out.ext HX0.out) (hL0.out.ext HX0.out)).mono ?_
  rintro e w1 ⟨rfl, hx1⟩
  have k0 := (hx1.cells _ _ ks).trans k0
  have k1 := (hx1.cells _ _ ks).trans k1
  have ks := Nat.lt_of_lt_of_le ks hx1.size
  have HX1 := hide (HX0.out.trans hx1)
  clear hx1
  rw [show (vMod ds cs && (okCl ls ds.length && rftB cs ds ls)) = mngB ds cs ls from rfl]
  cases hq : mngB ds cs ls with
  | false =>
    have HQ := hide hq
    clear hq
    go_wp2
    go_ret2
    rw [mngL_no HQ.out, HQ.out]
    exact LtOut.nil_ rfl HX1.out
  | true =>
    have HQ := hide hq
    have h := hq
    simp only [mngB, Bool.and_eq_true] at h
    have HV := hide (vMod_good h.1)
    have HOK := hide h.2.1
    clear hq h
    go_wp2_with fail
    refine (reduce_any _ _ _ _ ds cs ls _ (hM0.out.ext (HX1.out.alloc _)) (hL0.out.ext (HX1.out.alloc _)) HNL.out HV.out.1 HOK.out HV.out.2.2 HV.out.2.1).mono ?_
    rintro e w7 ⟨v7, rfl, hA7, hx7⟩
    have hl24 := mngL_len ds cs ls
    obtain ⟨q, hq⟩ : ∃ q, q = mngL ds cs ls := ⟨_, rfl⟩
    have hq2 := mngL_yes HQ.out
    rw [← hq2, ← hq] at hA7
    rw [← hq] at hl24
    have HX7 := hide ((HX1.out.alloc _).trans hx7)
    obtain ⟨A7, c7, rfl, -, -⟩ := LayApp.form hA7
    have HS7 := hide (layLt_S (LayApp.S hA7 (by rw [HBY.out]; omega)))
    have HRES := hide (show LtOut (mngL ds cs ls) (mngB ds cs ls) w (.returned (.tuple #[.slice A7 q.length c7, .bool true])) w7 by rw [HQ.out, ← hq]; exact ⟨_, _, rfl, HS7.out, HX7.out⟩)
    clear hx7 hA7 hq hq2 k0 k1
    go_wp2
    go_ret2
    exact HRES.out
end Go.Proofs.YtfejhenbpnijhaaGreat
/- MinimalNogood: the program's walk. -/
namespace Go.Proofs.YtfejhenbpnijhaaGreat
open Go.RowKit
attribute [local go_sem] evalOf

set_option maxHeartbeats 2000000 in
theorem enoughL_any (Ae Ac : Option Addr) (ce cc bm : Nat) (v' : Value) (ds : List Int) (cs : List Con) (ls : List Lt) (w : World) (hm0 : w.cell? ⟨bm, 0, none⟩ = some (.slice Ae ds.length ce)) (hm1 : w.cell? ⟨bm, 1, none⟩ = some (.slice Ac cs.length cc))
    (hM : SMod w (.agg #[.slice Ae ds.length ce, .slice Ac cs.length cc]) ds cs) (hL : SLt w v' ls) (hG : GoodD cs ds.length ds) (hok : okCl ls ds.length = true) (h4 : ds.length ≤ 4) (h1 : 0 < ds.length) :
    Calls Tryz.prog 17 #[v', .pointer (some ⟨bm, 0, none⟩)] w (Ret (.bool (rftB cs ds ls)) w) := by
  have hM0 := hide hM
  have hL0 := hide hL
  have HG := hide hG
  have HOK := hide hok
  obtain ⟨Al, cl, rfl, -, hll⟩ := hL.form
  clear hM hL hG hok
  go_enter Tryz.func17, Tryz.ntmps17
  go_wp2_with fail
  refine (refutesN_any _ _ ds cs ls _ hM0.out hL0.out HG.out HOK.out h4 h1).mono ?_
  rintro e w2 ⟨rfl, hx2⟩
  have HX2 := hide hx2
  clear hx2
  go_wp2
  go_ret
  exact Ret.mk rfl HX2.out
set_option maxRecDepth 100000 in
set_option maxHeartbeats 8000000 in
theorem MinimalNogoodI_any (v vl : Value) (ds : List Int) (cs : List Con) (ls : List Lt) (w : World) (hM : SMod w v ds cs) (hL : SLt w vl ls) (hF : ∀ i, i < cs.length → FitsOK (con0 cs i)) :
    Calls Tryz.prog 5 #[v, vl] w (LtRes (mngL ds cs ls) (mngB ds cs ls) w) := by
  have hM0 := hide hM
  have hL0 := hide hL
  have HFI := hide hF
  obtain ⟨vd, vc, rfl, hD, hC⟩ := hM
  obtain ⟨Ad, cd, rfl, -, hld⟩ := hD.form
  obtain ⟨Ac, cc, rfl, -, hlc⟩ := hC.form
  obtain ⟨Al, cl, rfl, -, hll⟩ := hL.form
  obtain ⟨w0, hw0⟩ : ∃ w0, w0 = w.alloc (.cells #[.slice Ad ds.length cd, .slice Ac cs.length cc] 26) := ⟨_, rfl⟩
  have hx0 : Ext w w0 := by rw [hw0]; exact (Ext.refl w).alloc _
  have K0 := hide (show w0.cell? ⟨w.heap.size, 0, none⟩ = some (.slice Ad ds.length cd) by rw [hw0]; go_simp)
  have K1 := hide (show w0.cell? ⟨w.heap.size, 1, none⟩ = some (.slice Ac cs.length cc) by rw [hw0]; go_simp)
  have k0 := K0.out
  have k1 := K1.out
  have ks0 : w.heap.size < w0.heap.size := by rw [hw0]; simp
  have KS := hide ks0
  have HX0 := hide hx0
  have HB0 := hide (Ext.refl w0)
  clear hD hC hL hF hx0
  go_enter Tryz.func5, Tryz.ntmps5
  go_wp2_with fail
  rw [← hw0]
  clear hw0
  refine (RefutesI_any _ _ ds cs ls _ (hM0.out.ext HX0.out) (hL0.out.ext HX0.out) HFI.out).mono ?_
  rintro e w1 ⟨rfl, hx1⟩
  have HB1 := hide hx1
  have HX1 := hide (HX0.out.trans hx1)
  clear hx1 k0 k1 ks0
  rw [show (vMod ds cs && (okCl ls ds.length && rftB cs ds ls)) = mngB ds cs ls from rfl]
  cases hq : mngB ds cs ls with
  | false =>
    have HQ := hide hq
    clear hq
    go_wp2
    go_ret2
    rw [mngL_no HQ.out, HQ.out]
    exact LtRes.nil_ rfl HX1.out
  | true =>
    have HQ := hide hq
    have h := hq
    simp only [mngB, Bool.and_eq_true] at h
    have HV := hide (vMod_good h.1)
    have HOK := hide h.2.1
    have hl12 := okCl_len h.2.1
    have hcf : ∀ args W, (callFunc 17 args).run Tryz.prog W = .ok (.enter 17 args) W := fun args W => callFunc_body Tryz.func17 (by kernel_rfl) (by kernel_rfl) args W
    clear hq h
    go_wp2_with fail
    refine (shrunkL_any _ ls 17 #[.pointer (some ⟨w.heap.size, 0, none⟩)] (rftB cs ds) (fun l => okCl l ds.length = true) _ (layLt_of (hL0.out.ext HX1.out)) (by omega) hcf (hide fun l i h => okCl_erase i h) HOK
      (hide fun l v W hl h24 hW hS => enoughL_any Ad Ac cd cc w.heap.size v ds cs l W (((HB1.out.trans hW).cells _ _ KS.out).trans K0.out) (((HB1.out.trans hW).cells _ _ KS.out).trans K1.out) (hM0.out.ext (HX1.out.trans hW)) (layLt_S hS) HV.out.1 hl HV.out.2.2 HV.out.2.1)).mono ?_
    rintro e w7 hres
    rw [← mngL_yes HQ.out] at hres
    obtain ⟨q, hq⟩ : ∃ q, q = mngL ds cs ls := ⟨_, rfl⟩
    rw [← hq] at hres
    obtain ⟨A7, b7, m7, f7, rfl, hb7, ho7, hx7⟩ := hres
    have HRES := hide (show LtRes (mngL ds cs ls) (mngB ds cs ls) w (.returned (.tuple #[.slice A7 q.length q.length, .bool true])) w7 by rw [HQ.out, ← hq]; exact ⟨_, b7, m7, f7, rfl, Nat.le_trans HX1.out.size hb7, ho7, HX1.out.trans hx7⟩)
    clear hx7 ho7 hq
    go_wp2
    go_ret2
    exact HRES.out
end Go.Proofs.YtfejhenbpnijhaaGreat
/- Marking literals, and looking at the marks. -/
namespace Go.Proofs.YtfejhenbpnijhaaGreat
open Go.RowKit

theorem LayOwn.kpL {α : Type} {L : Lay α} {S : Nat → Prop} {w w' : World} {A : Option Addr} {b m : Nat} {f : Nat → Value} {xs : List α} (h : L.Own w A b m f xs) (hk : Keep S w w') (hb : S b) : L.Own w' A b m f xs :=
  fun hp => by obtain ⟨h1, h2, h3⟩ := h hp; exact ⟨h1, hk.row hb h2, h3⟩
/-- The marked cells: every third one holds whether its mark is a multiple of three. -/
def mcellL (k0 : Int) (f : Nat → Value) (k j : Nat) : Value := if j < k then (if j % 3 = 2 then .bool ((k0 + j) % 3 == 0) else .int .i64 (k0 + j)) else f j
theorem rowL_mark {w : World} {b : Nat} {t : TypeId} {n : Nat} {f : Nat → Value} {k k' : Nat} {k0 v : Int} (h : w.rowIs b t n (mcellL k0 f k)) (hv : v = k0 + k) (hk : k' = k + 1) (h3 : k % 3 ≠ 2) :
    (w.setCell ⟨b, k, none⟩ (.int .i64 v)).rowIs b t n (mcellL k0 f k') := by
  subst hv; subst hk
  refine (h.set k _).congr fun j _ => ?_
  unfold mcellL
  by_cases e : j = k
  · subst e; rw [if_pos rfl, if_pos (by omega), if_neg h3]
  · rw [if_neg e]
    by_cases e2 : j < k
    · rw [if_pos e2, if_pos (show j < k + 1 by omega)]
    · rw [if_neg e2, if_neg (show ¬ j < k + 1 by omega)]
theorem rowL_markB {w : World} {b : Nat} {t : TypeId} {n : Nat} {f : Nat → Value} {k k' : Nat} {k0 v : Int} {q : Bool} (h : w.rowIs b t n (mcellL k0 f k)) (hv : v = k0 + k) (hk : k' = k + 1) (h3 : k % 3 = 2) (hq : q = (v % 3 == 0)) :
    (w.setCell ⟨b, k, none⟩ (.bool q)).rowIs b t n (mcellL k0 f k') := by
  subst hv; subst hk; subst hq
  refine (h.set k _).congr fun j _ => ?_
  unfold mcellL
  by_cases e : j = k
  · subst e; rw [if_pos rfl, if_pos (by omega), if_pos h3]
  · rw [if_neg e]
    by_cases e2 : j < k
    · rw [if_pos e2, if_pos (show j < k + 1 by omega)]
    · rw [if_neg e2, if_neg (show ¬ j < k + 1 by omega)]
def MarkedL (r k0 : Int) (b : Nat) (n m : Nat) (f : Nat → Value) (w : World) (e : Ending) (w' : World) : Prop :=
  e = .returned (.int .i64 r) ∧ w.grownBy w' (rowOf n b) ∧ (0 < n → w'.rowIs b 35 m (mcellL k0 f n))
end Go.Proofs.YtfejhenbpnijhaaGreat
