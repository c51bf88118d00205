/- Refutation by propagation: the program's walk (no clauses learnt). -/
import Derived.Test.YtfejhenbpnijhaaGreatRstL
import Derived.Test.YtfejhenbpnijhaaGreatClsW
namespace Go.Proofs.YtfejhenbpnijhaaGreat
open Go.RowKit
attribute [local go_sem] evalOf

/-- An index's address into a list that the call has made. -/
def RS.ixl (D : List Nat) (xs : List Int) (i : Nat) : RS := ⟨D, fun _ v W => ∃ b, v = .pointer (some ⟨b, i, none⟩) ∧ b < W.heap.size ∧ W.cell? ⟨b, i, none⟩ = some (.int .i64 (at0 xs i)), fun _ _ _ _ h hx => by obtain ⟨b, h1, h2, h3⟩ := h; exact ⟨b, h1, Nat.lt_of_lt_of_le h2 hx.size, (hx.cells _ _ h2).trans h3⟩⟩
/-- Literals that hold, and the constraints: refuted by propagation. -/
def rftB (cs : List Con) (ds : List Int) (ls : List Lt) : Bool := hasI (propL cs (resCL ds ls)) 0
section
variable {cs : List Con} {n : Nat}
theorem rft_good {ds : List Int} (h : GoodD cs n ds) {ls : List Lt} (hc : okCl ls n = true) : GoodD cs n (resCL ds ls) := (resC_good h hc ls.length (Nat.le_refl _)).1
theorem rft_first (h4 : n ≤ 4) (h0 : 0 < n) {ds : List Int} (h : GoodD cs n ds) {ls : List Lt} (hc : okCl ls n = true) : (at0 (cluL cs [] (resCL ds ls)) 0 == 0) = rftB cs ds ls := by
  rw [cluL_nil h4 h0 (rft_good h hc), rftB]
  exact propL_first (rft_good h hc) h4 h0
theorem GoodD.dom {ds : List Int} (h : GoodD cs n ds) : DomN n ds := ⟨h.1, fun i hi => h.2.1 i (by rw [h.1]; exact hi)⟩
end
theorem litsOk_any (vl : Value) (v : Value) (ds : List Int) (cs : List Con) (ls : List Lt) (w : World) (hM : SMod w v ds cs) (hL : SLt w vl ls) (hF : ∀ i, i < cs.length → FitsOK (con0 cs i)) :
    Calls Tryz.prog 21 #[v, vl] w (Ret (.bool (vMod ds cs && (inR ds.length 1 4 && okCl ls ds.length))) w) := by
  have hL0 := hide hL
  have HFI := hide hF
  obtain ⟨vd, vc, rfl, hD, hC⟩ := hM
  have hD0 := hide hD
  have hC0 := hide hC
  obtain ⟨Ad, cd, rfl, -, hld⟩ := hD.form
  obtain ⟨Ac, cc, rfl, -, hlc⟩ := hC.form
  obtain ⟨Al, cl, rfl, -, hll⟩ := hL.form
  obtain ⟨w0, hw0⟩ : ∃ w0, w0 = w.alloc (.cells #[.slice Ad ds.length cd, .slice Ac cs.length cc] 26) := ⟨_, rfl⟩
  have hx0 : Ext w w0 := by rw [hw0]; exact (Ext.refl w).alloc _
  have k0 : w0.cell? ⟨w.heap.size, 0, none⟩ = some (.slice Ad ds.length cd) := by rw [hw0]; go_simp
  have k1 : w0.cell? ⟨w.heap.size, 1, none⟩ = some (.slice Ac cs.length cc) := by rw [hw0]; go_simp
  have ks : w.heap.size < w0.heap.size := by rw [hw0]; simp
  have HX0 := hide hx0
  have hbd := hD.bytes
  clear hD hC hL hF hx0
  go_enter Tryz.func21, Tryz.ntmps21
  go_wp2_with fail
  rw [← hw0]
  clear hw0
  refine (ValidModelI_any _ _ ds cs _ (hD0.out.ext HX0.out) (hC0.out.ext HX0.out) HFI.out).mono ?_
  rintro e w1 ⟨rfl, hx1⟩
  have k0 := (hx1.cells _ _ ks).trans k0
  have ks := Nat.lt_of_lt_of_le ks hx1.size
  have HX1 := hide (HX0.out.trans hx1)
  clear hx1
  cases hq : vMod ds cs with
  | false =>
    go_wp2
    go_ret
    exact Ret.mk (ret_b (by rw [hq, Bool.false_and])) HX1.out
  | true =>
    go_wp2_with fail
    refine (ValidClauseI_any _ ls ds.length _ (hL0.out.ext HX1.out) (by omega) (by omega)).mono ?_
    rintro e w2 ⟨rfl, hx2⟩
    have HX2 := hide (HX1.out.trans hx2)
    clear hx2
    go_wp2
    go_ret
    exact Ret.mk (ret_b (by rw [hq, Bool.true_and])) HX2.out
set_option maxRecDepth 100000 in
set_option maxHeartbeats 4000000 in
/-- A round, no clauses learnt. -/
theorem with1_any (Ae Ac : Option Addr) (ce cc bm bc : Nat) (v' : Value) (D now : List Int) (cs : List Con) (w : World) (hm0 : w.cell? ⟨bm, 0, none⟩ = some (.slice Ae D.length ce)) (hm1 : w.cell? ⟨bm, 1, none⟩ = some (.slice Ac cs.length cc)) (_hbm : bm < w.heap.size)
    (hc0 : w.cell? ⟨bc, 0, none⟩ = some (.slice none 0 0)) (hbc : bc < w.heap.size)
    (hM : SMod w (.agg #[.slice Ae D.length ce, .slice Ac cs.length cc]) D cs) (hS : SInts w v' now) (hG : GoodD cs now.length now) (h4 : now.length ≤ 4) (h1 : 0 < now.length) :
    Calls Tryz.prog 64 #[v', .pointer (some ⟨bm, 0, none⟩), .pointer (some ⟨bc, 0, none⟩)] w (OwnRes (propL cs now) w) := by
  have hM0 := hide hM
  have hS0 := hide hS
  have C0 := hide hc0
  have HG := hide hG
  obtain ⟨An, cn, rfl, -, hln⟩ := hS.form
  clear hM hS hG
  go_enter Tryz.func64, Tryz.ntmps64
  go_wp2_with fail
  refine (propagate_any _ _ D now cs _ hM0.out hS0.out HG.out h4 h1).mono ?_
  rintro e w1 hres
  have HX1 := hide (OwnRes.ext0 hres)
  have hc0 := (HX1.out.cells _ _ hbc).trans C0.out
  have hbc := Nat.lt_of_lt_of_le hbc HX1.out.size
  have HRES := hide hres
  obtain ⟨A1, c1, b1, m1, f1, rfl, -⟩ := hres
  obtain ⟨L, hL⟩ : ∃ L, L = (propL cs now).length := ⟨_, rfl⟩
  have HRES := hide (show OwnRes (propL cs now) w (.returned (.slice A1 L c1)) w1 by rw [hL]; exact HRES.out)
  rw [← hL]
  clear hL hm0 hm1
  go_wp2
  go_loopw [0, 12] (fun x i wr => x = .slice A1 L c1 ∧ i = .int .i64 0 ∧ wr = w1) (fun _ _ _ => 0)
  case atStart => exact ⟨rfl, rfl, rfl⟩
  case round =>
    obtain ⟨rfl, rfl, rfl⟩ := hrel
    go_wp2
    go_ret
    exact HRES.out
set_option maxRecDepth 100000 in
set_option maxHeartbeats 4000000 in
theorem withN_any (v vd : Value) (D ds : List Int) (cs : List Con) (w : World) (hM : SMod w v D cs) (hD : SInts w vd ds) (hG : GoodD cs ds.length ds) (h4 : ds.length ≤ 4) (h1 : 0 < ds.length) :
    Calls Tryz.prog 37 #[v, .slice none 0 0, vd] w (OwnRes (cluL cs [] ds) w) := by
  have hM0 := hide hM
  have hD0 := hide hD
  have HG := hide hG
  obtain ⟨ve, vc, rfl, hE, hC⟩ := hM
  obtain ⟨Ae, ce, rfl, -, hle⟩ := hE.form
  obtain ⟨Ac, cc, rfl, -, hlc⟩ := hC.form
  obtain ⟨Ad, cd, rfl, -, hld⟩ := hD.form
  obtain ⟨w0, hw0⟩ : ∃ w0, w0 = (w.alloc (.cells #[.slice Ae D.length ce, .slice Ac cs.length cc] 26)).alloc (.cells #[.slice none 0 0] 47) := ⟨_, rfl⟩
  have hx0 : Ext w w0 := by rw [hw0]; exact ((Ext.refl w).alloc _).alloc _
  have hs0 : w0.heap.size = w.heap.size + 2 := by rw [hw0]; simp
  have k0 : w0.cell? ⟨w.heap.size, 0, none⟩ = some (.slice Ae D.length ce) := by rw [hw0]; go_simp
  have k1 : w0.cell? ⟨w.heap.size, 1, none⟩ = some (.slice Ac cs.length cc) := by rw [hw0]; go_simp
  have k2 : w0.cell? ⟨w.heap.size + 1, 0, none⟩ = some (.slice none 0 0) := by rw [hw0]; go_simp
  have ks : w.heap.size < w0.heap.size := by omega
  have kt : w.heap.size + 1 < w0.heap.size := by omega
  have HX0 := hide hx0
  have K0 := hide k0
  have K1 := hide k1
  have K2 := hide k2
  clear hE hC hD hG hx0
  go_enter Tryz.func37, Tryz.ntmps37
  go_wp2_with fail
  rw [← hw0]
  clear hw0
  refine (fixpointC_any _ ds 64 #[.pointer (some ⟨w.heap.size, 0, none⟩), .pointer (some ⟨w.heap.size + 1, 0, none⟩)] (stC cs []) (GoodD cs ds.length) _ (hD0.out.ext HX0.out) HG.out (stC_ok h4 (fun i hi => absurd hi (by simp))) h4 h1 (fun args W => callFunc_body Tryz.func64 (by kernel_rfl) (by kernel_rfl) args W)
    (hide fun now v' W hW hS hgn => (with1_any Ae Ac ce cc w.heap.size (w.heap.size + 1) v' D now cs W ((hW.cells _ _ ks).trans K0.out) ((hW.cells _ _ ks).trans K1.out) (Nat.lt_of_lt_of_le ks hW.size) ((hW.cells _ _ kt).trans K2.out) (Nat.lt_of_lt_of_le kt hW.size) (hM0.out.ext (HX0.out.trans hW)) hS (by rw [hgn.1]; exact hgn) (by rw [hgn.1]; exact h4) (by rw [hgn.1]; exact h1)).mono (fun _ _ h => .inl h))).mono ?_
  rintro e w2 hres
  have HRES := hide (show OwnRes (cluL cs [] ds) w e w2 from OwnRes.from hres HX0.out)
  obtain ⟨A3, c3, b3, m3, f3, rfl, -⟩ := hres
  obtain ⟨L, hL⟩ : ∃ L, L = (fixL (stC cs []) 300 ds).length := ⟨_, rfl⟩
  rw [← hL]
  have HRES := hide (show OwnRes (cluL cs [] ds) w (.returned (.slice A3 L c3)) w2 by rw [hL]; exact HRES.out)
  clear hL
  go_wp2
  go_ret
  exact HRES.out
set_option maxRecDepth 100000 in
set_option maxHeartbeats 8000000 in
theorem refutesN_any (v vl : Value) (ds : List Int) (cs : List Con) (ls : List Lt) (w : World) (hM : SMod w v ds cs) (hL : SLt w vl ls) (hG : GoodD cs ds.length ds) (hok : okCl ls ds.length = true) (h4 : ds.length ≤ 4) (h1 : 0 < ds.length) :
    Calls Tryz.prog 18 #[v, .slice none 0 0, vl] w (Ret (.bool (rftB cs ds ls)) w) := by
  have hM0 := hide hM
  have hL0 := hide hL
  have HG := hide hG
  have HOK := hide hok
  obtain ⟨vd, vc, rfl, hD, hC⟩ := hM
  have hD0 := hide hD
  obtain ⟨Ad, cd, rfl, -, hld⟩ := hD.form
  obtain ⟨Ac, cc, rfl, -, hlc⟩ := hC.form
  obtain ⟨Al, cl, rfl, -, hll⟩ := hL.form
  obtain ⟨w0, hw0⟩ : ∃ w0, w0 = w.alloc (.cells #[.slice Ad ds.length cd, .slice Ac cs.length cc] 26) := ⟨_, rfl⟩
  have hx0 : Ext w w0 := by rw [hw0]; exact (Ext.refl w).alloc _
  have k0 : w0.cell? ⟨w.heap.size, 0, none⟩ = some (.slice Ad ds.length cd) := by rw [hw0]; go_simp
  have k1 : w0.cell? ⟨w.heap.size, 1, none⟩ = some (.slice Ac cs.length cc) := by rw [hw0]; go_simp
  have ks : w.heap.size < w0.heap.size := by rw [hw0]; simp
  have HX0 := hide hx0
  have K0 := hide k0
  have K1 := hide k1
  obtain ⟨q, hq⟩ : ∃ q, q = resCL ds ls := ⟨_, rfl⟩
  have HQ := hide hq
  have hgq := rft_good hG hok
  rw [← hq] at hgq
  have HGQ := hide hgq
  have hql := hgq.1
  have HV := hide (show (at0 (cluL cs [] q) 0 == 0) = rftB cs ds ls by rw [hq]; exact rft_first h4 h1 hG hok)
  have hcl : (cluL cs [] q).length = ds.length := by rw [cluL_nil h4 h1 hgq]; exact (propL_R hgq h4).good.1
  clear hD hC hL hG hok hx0 hq hgq k0 k1
  go_enter Tryz.func18, Tryz.ntmps18
  go_wp2_with fail
  rw [← hw0]
  clear hw0
  refine wp_region_relT (n := 10) (ts := [10]) (sp := [RS.q [] (fun _ => .agg #[.slice Ad ds.length cd, .slice Ac cs.length cc]), RS.q [] (fun _ => .slice none 0 0), RS.q [] (fun _ => .pointer (some ⟨w.heap.size, 0, none⟩)), RS.q [2] (fun _ => .slice Ad ds.length cd), RS.q [] (fun _ => .slice Al ls.length cl), RS.ow [3, 4] q w0, RS.ow [0, 1, 5] (cluL cs [] q) w0, RS.ixl [6] (cluL cs [] q) 0, RS.q [7] (fun _ => .int .i64 (at0 (cluL cs [] q) 0)), RS.q [8] (fun _ => .bool (at0 (cluL cs [] q) 0 == 0))])
    (fun W => Ext w0 W) (by kernel_rfl) (relOK (D := [[], [], [], [2], [], [3, 4], [0, 1, 5], [6], [7], [8]]) rfl (by kernel_rfl) rfl) (by kernel_rfl) ((fun W W' h hx => h.trans hx)) (Ext.refl w0).drew ?steps ?ends
  case steps =>
    refine ⟨?_, ?_, ?_, ?_, ?_, ?_, ?_, ?_, ?_, ?_, trivial⟩
    · intro V τ W hC hf ht h0
      have s3 : τ 3 = .pointer (some ⟨w.heap.size, 0, none⟩) := h0 3 (by kernel_rfl)
      have k0 := (hC.cells _ _ ks).trans K0.out
      have k1 := (hC.cells _ _ ks).trans K1.out
      refine Does.val (w' := W) (v := .agg #[.slice Ad ds.length cd, .slice Ac cs.length cc]) ?_ ⟨Ext.refl W, rfl⟩
      clear h0 ht hf
      go_simp
    · intro V τ W hC hf ht h0
      have s1 : τ 1 = .slice none 0 0 := h0 1 (by kernel_rfl)
      refine Does.val (w' := W) (v := .slice none 0 0) ?_ ⟨Ext.refl W, rfl⟩
      go_simp
    · intro V τ W hC hf ht h0
      have s3 : τ 3 = .pointer (some ⟨w.heap.size, 0, none⟩) := h0 3 (by kernel_rfl)
      refine Does.val (w' := W) (v := .pointer (some ⟨w.heap.size, 0, none⟩)) ?_ ⟨Ext.refl W, rfl⟩
      go_simp
    · intro V τ W hC hf ht h0
      have f2 : V 2 = .pointer (some ⟨w.heap.size, 0, none⟩) := hf 2 (by simp [RS.at_, RS.q, RS.ow, RS.ixl])
      have s9 := (ht 2 (by simp [RS.at_, RS.q, RS.ow, RS.ixl]) 9 rfl).trans f2
      have k0 := (hC.cells _ _ ks).trans K0.out
      refine Does.val (w' := W) (v := .slice Ad ds.length cd) ?_ ⟨Ext.refl W, rfl⟩
      go_simp
    · intro V τ W hC hf ht h0
      have s2 : τ 2 = .slice Al ls.length cl := h0 2 (by kernel_rfl)
      refine Does.val (w' := W) (v := .slice Al ls.length cl) ?_ ⟨Ext.refl W, rfl⟩
      go_simp
    · intro V τ W hC hf ht h0
      have f3 : V 3 = .slice Ad ds.length cd := hf 3 (by simp [RS.at_, RS.q, RS.ow, RS.ixl])
      have f4 : V 4 = .slice Al ls.length cl := hf 4 (by simp [RS.at_, RS.q, RS.ow, RS.ixl])
      have s10 := (ht 3 (by simp [RS.at_, RS.q, RS.ow, RS.ixl]) 10 rfl).trans f3
      have s11 := (ht 4 (by simp [RS.at_, RS.q, RS.ow, RS.ixl]) 11 rfl).trans f4
      refine Does.call (w' := W) (f := 38) (args := #[.slice Ad ds.length cd, .slice Al ls.length cl]) (by go_simp; all_goals (first | exact rfl | (apply And.intro <;> exact rfl))) ?_
      refine (restricted_any _ _ ds ls ds.length _ (hD0.out.ext (HX0.out.trans hC)) (hL0.out.ext (HX0.out.trans hC)) HG.out.dom HOK.out h1 h4).mono ?_
      rintro e wa hres
      have hr2 : OwnRes q w0 e wa := by rw [HQ.out]; exact OwnRes.from hres hC
      obtain ⟨A3, c3, b3, m3, f3, rfl, -, -, -, -, hxa⟩ := hres
      exact ⟨_, rfl, hxa, hr2⟩
    · intro V τ W hC hf ht h0
      have f0 : V 0 = .agg #[.slice Ad ds.length cd, .slice Ac cs.length cc] := hf 0 (by simp [RS.at_, RS.q, RS.ow, RS.ixl])
      have f1 : V 1 = .slice none 0 0 := hf 1 (by simp [RS.at_, RS.q, RS.ow, RS.ixl])
      have f5 : OwnRes q w0 (.returned (V 5)) W := hf 5 (by simp [RS.at_, RS.q, RS.ow, RS.ixl])
      have s7 := (ht 0 (by simp [RS.at_, RS.q, RS.ow, RS.ixl]) 7 rfl).trans f0
      have s8 := (ht 1 (by simp [RS.at_, RS.q, RS.ow, RS.ixl]) 8 rfl).trans f1
      have s12 : τ 12 = V 5 := ht 5 (by simp [RS.at_, RS.q, RS.ow, RS.ixl]) 12 rfl
      refine Does.call (w' := W) (f := 37) (args := #[.agg #[.slice Ad ds.length cd, .slice Ac cs.length cc], .slice none 0 0, V 5]) (by go_simp; all_goals (first | exact rfl | (apply And.intro <;> exact rfl))) ?_
      refine (withN_any _ _ ds q cs _ (hM0.out.ext (HX0.out.trans hC)) (f5.ints (fun i hi => by have := HGQ.out.2.1 i hi; unfold I64; omega)) (by rw [HGQ.out.1]; exact HGQ.out) (by have := HGQ.out.1; omega) (by have := HGQ.out.1; omega)).mono ?_
      rintro e wa hres
      have hr2 := OwnRes.from hres hC
      obtain ⟨A3, c3, b3, m3, f3, rfl, -, -, -, -, hxa⟩ := hres
      exact ⟨_, rfl, hxa, hr2⟩
    · intro V τ W hC hf ht h0
      have f6 : OwnRes (cluL cs [] q) w0 (.returned (V 6)) W := hf 6 (by simp [RS.at_, RS.q, RS.ow, RS.ixl])
      obtain ⟨A2, c2, b2, m2, g2, he, -, -, -, ho2, -⟩ := f6
      injection he with he
      rw [hcl] at he
      have s13 := (ht 6 (by simp [RS.at_, RS.q, RS.ow, RS.ixl]) 13 rfl).trans he
      obtain ⟨rfl, hr2, hm2, hg2⟩ := ho2 (by omega)
      have hcl2 := hr2.cell (i := 0) (by omega)
      rw [hg2 0 (by omega)] at hcl2
      have h1I : (0 : Int) < ds.length := by omega
      refine Does.val (w' := W) (v := .pointer (some ⟨b2, 0, none⟩)) ?_ ⟨Ext.refl W, b2, rfl, hr2.lt, hcl2⟩
      clear hcl2 hr2 hg2 h0 ht hf
      go_simp
    · intro V τ W hC hf ht h0
      obtain ⟨b5, f7, hb5, hcc⟩ := (show ∃ b, V 7 = .pointer (some ⟨b, 0, none⟩) ∧ _ ∧ W.cell? ⟨b, 0, none⟩ = some (.int .i64 (at0 (cluL cs [] q) 0)) from hf 7 (by simp [RS.at_, RS.q, RS.ow, RS.ixl]))
      have s14 := (ht 7 (by simp [RS.at_, RS.q, RS.ow, RS.ixl]) 14 rfl).trans f7
      refine Does.val (w' := W) (v := .int .i64 (at0 (cluL cs [] q) 0)) ?_ ⟨Ext.refl W, rfl⟩
      go_simp
    · intro V τ W hC hf ht h0
      have f8 : V 8 = .int .i64 (at0 (cluL cs [] q) 0) := hf 8 (by simp [RS.at_, RS.q, RS.ow, RS.ixl])
      have s15 := (ht 8 (by simp [RS.at_, RS.q, RS.ow, RS.ixl]) 15 rfl).trans f8
      refine Does.val (w' := W) (v := .bool (at0 (cluL cs [] q) 0 == 0)) ?_ ⟨Ext.refl W, rfl⟩
      go_simp
  case ends =>
    intro V W hC hf
    have f0 : V 0 = .agg #[.slice Ad ds.length cd, .slice Ac cs.length cc] := hf 0 (by omega)
    have f1 : V 1 = .slice none 0 0 := hf 1 (by omega)
    have f2 : V 2 = .pointer (some ⟨w.heap.size, 0, none⟩) := hf 2 (by omega)
    have f3 : V 3 = .slice Ad ds.length cd := hf 3 (by omega)
    have f4 : V 4 = .slice Al ls.length cl := hf 4 (by omega)
    obtain ⟨A5, c5, f5⟩ := (show OwnRes q w0 (.returned (V 5)) W from hf 5 (by omega)).form
    obtain ⟨A6, c6, f6⟩ := (show OwnRes (cluL cs [] q) w0 (.returned (V 6)) W from hf 6 (by omega)).form
    obtain ⟨b7, f7, -, -⟩ := (show ∃ b, V 7 = .pointer (some ⟨b, 0, none⟩) ∧ _ ∧ W.cell? ⟨b, 0, none⟩ = some (.int .i64 (at0 (cluL cs [] q) 0)) from hf 7 (by omega))
    have f8 : V 8 = .int .i64 (at0 (cluL cs [] q) 0) := hf 8 (by omega)
    have f9 : V 9 = .bool (at0 (cluL cs [] q) 0 == 0) := hf 9 (by omega)
    rw [hql] at f5
    rw [hcl] at f6
    clear hf
    simp only [List.take_succ_cons, List.take_zero, putAll, Act.put, List.setIfInBounds_toArray, List.set_cons_succ, List.set_cons_zero, Nat.reduceAdd, f0, f1, f2, f3, f4, f5, f6, f7, f8, f9]
    simp only [nths, nth1]
    clear f0 f1 f2 f3 f4 f5 f6 f7 f8 f9
    have HXE := hide (HX0.out.trans hC)
    clear hC
    go_wp2
    go_ret
    exact Ret.mk (ret_b HV.out) HXE.out
set_option maxHeartbeats 2000000 in
theorem RefutesI_any (v vl : Value) (ds : List Int) (cs : List Con) (ls : List Lt) (w : World) (hM : SMod w v ds cs) (hL : SLt w vl ls) (hF : ∀ i, i < cs.length → FitsOK (con0 cs i)) :
    Calls Tryz.prog 9 #[v, vl] w (Ret (.bool (vMod ds cs && (okCl ls ds.length && rftB cs ds ls))) w) := by
  have hM0 := hide hM
  have hL0 := hide hL
  have HFI := hide hF
  obtain ⟨vd, vc, rfl, hD, hC⟩ := hM
  obtain ⟨Ad, cd, rfl, -, hld⟩ := hD.form
  obtain ⟨Ac, cc, rfl, -, hlc⟩ := hC.form
  obtain ⟨Al, cl, rfl, -, hll⟩ := hL.form
  obtain ⟨w0, hw0⟩ : ∃ w0, w0 = w.alloc (.cells #[.slice Ad ds.length cd, .slice Ac cs.length cc] 26) := ⟨_, rfl⟩
  have hx0 : Ext w w0 := by rw [hw0]; exact (Ext.refl w).alloc _
  have k0 : w0.cell? ⟨w.heap.size, 0, none⟩ = some (.slice Ad ds.length cd) := by rw [hw0]; go_simp
  have k1 : w0.cell? ⟨w.heap.size, 1, none⟩ = some (.slice Ac cs.length cc) := by rw [hw0]; go_simp
  have ks : w.heap.size < w0.heap.size := by rw [hw0]; simp
  have HX0 := hide hx0
  clear hD hC hL hF hx0
  go_enter Tryz.func9, Tryz.ntmps9
  go_wp2_with fail
  rw [← hw0]
  clear hw0
  refine (litsOk_any _ _ ds cs ls _ (hM0.out.ext HX0.out) (hL0.out.ext HX0.out) HFI.out).mono ?_
  rintro e w1 ⟨rfl, hx1⟩
  have k0 := (hx1.cells _ _ ks).trans k0
  have k1 := (hx1.cells _ _ ks).trans k1
  have ks := Nat.lt_of_lt_of_le ks hx1.size
  have HX1 := hide (HX0.out.trans hx1)
  clear hx1
  cases hq : vMod ds cs with
  | false =>
    rw [Bool.false_and]
    go_wp2
    go_ret
    exact Ret.mk (ret_b (by rw [hq, Bool.false_and])) HX1.out
  | true =>
    have hG := (vMod_good hq).1
    have hl := (vMod_good hq).2
    rw [Bool.true_and, show inR ds.length 1 4 = true by simp [inR]; omega, Bool.true_and]
    have HQ := hide hq
    cases hq2 : okCl ls ds.length with
    | false =>
      clear hq hl
      go_wp2
      go_ret
      exact Ret.mk (ret_b (by rw [HQ.out, hq2]; rfl)) HX1.out
    | true =>
      have HQ2 := hide hq2
      have HL := hide hl
      have HG := hide hG
      clear hq hq2 hl hG
      go_wp2_with fail
      refine (refutesN_any _ _ ds cs ls _ (hM0.out.ext HX1.out) (hL0.out.ext HX1.out) HG.out HQ2.out HL.out.2 HL.out.1).mono ?_
      rintro e w2 ⟨rfl, hx2⟩
      have HX2 := hide (HX1.out.trans hx2)
      clear hx2
      go_wp2
      go_ret
      exact Ret.mk (ret_b (by rw [HQ.out, HQ2.out]; rfl)) HX2.out
end Go.Proofs.YtfejhenbpnijhaaGreat
