/- Refutation by propagation: the program's walk (no clauses learnt). -/
import Derived.Test.YtgpbmggfpbebmaaGreatRstL
import Derived.Test.YtgpbmggfpbebmaaGreatClsW
namespace Go.Proofs.YtgpbmggfpbebmaaGreat
open Go.RowKit
attribute [local go_sem] evalOf

/-- An index's address into a list that the call has made. -/
def RS.ixl (D : List Nat) (xs : List Int) (i : Nat) : RS := ⟨D, fun _ v W => ∃ b, v = .pointer (some ⟨b, i, none⟩) ∧ b < W.heap.size ∧ W.cell? ⟨b, i, none⟩ = some (.int .i64 (at0 xs i)), fun _ _ _ _ h hx => by obtain ⟨b, h1, h2, h3⟩ := h; exact ⟨b, h1, Nat.lt_of_lt_of_le h2 hx.size, (hx.cells _ _ h2).trans h3⟩⟩
/-- Literals that hold, and the constraints: refuted by propagation. -/
def rftB (cs : List Con) (ds : List Int) (ls : List Lt) : Bool := hasI (propL cs (resCL ds ls)) 0
section
variable {cs : List Con} {n : Nat}
theorem rft_good {ds : List Int} (h : GoodD cs n ds) {ls : List Lt} (hc : okCl ls n = true) : GoodD cs n (resCL ds ls) := (resC_good h hc ls.length (Nat.le_refl _)).1
theorem rft_first (h4 : n ≤ 4) (h0 : 0 < n) {ds : List Int} (h : GoodD cs n ds) {ls : List Lt} (hc : okCl ls n = true) : (at0 (cluL cs [] (resCL ds ls)) 0 == 0) = rftB cs ds ls := by
  rw [cluL_nil h4 h0 (rft_good h hc), rftB]
  exact propL_first (rft_good h hc) h4 h0
theorem GoodD.dom {ds : List Int} (h : GoodD cs n ds) : DomN n ds := ⟨h.1, fun i hi => h.2.1 i (by rw [h.1]; exact hi)⟩
end
set_option maxRecDepth 100000 in
set_option maxHeartbeats 4000000 in
/-- A round, no clauses learnt. -/
theorem with1_any (Ae Ac : Option Addr) (ce cc bm bc : Nat) (v' : Value) (D now : List Int) (cs : List Con) (w : World) (hm0 : w.cell? ⟨bm, 0, none⟩ = some (.slice Ae D.length ce)) (hm1 : w.cell? ⟨bm, 1, none⟩ = some (.slice Ac cs.length cc)) (_hbm : bm < w.heap.size)
    (hc0 : w.cell? ⟨bc, 0, none⟩ = some (.slice none 0 0)) (hbc : bc < w.heap.size)
    (hM : SMod w (.agg #[.slice Ae D.length ce, .slice Ac cs.length cc]) D cs) (hS : SInts w v' now) (hG : GoodD cs now.length now) (h4 : now.length ≤ 4) (h1 : 0 < now.length) :
    Calls Tryz.prog 49 #[v', .pointer (some ⟨bm, 0, none⟩), .pointer (some ⟨bc, 0, none⟩)] w (OwnRes (propL cs now) w) := by
  have hM0 := hide hM
  have hS0 := hide hS
  have C0 := hide hc0
  have HG := hide hG
  obtain ⟨An, cn, rfl, -, hln⟩ := hS.form
  clear hM hS hG
  go_enter Tryz.func49, Tryz.ntmps49
  go_wp2_with fail
  refine (propagate_any _ _ D now cs _ hM0.out hS0.out HG.out h4 h1).mono ?_
  rintro e w1 hres
  have HX1 := hide (OwnRes.ext0 hres)
  have hc0 := (HX1.out.cells _ _ hbc).trans C0.out
  have hbc := Nat.lt_of_lt_of_le hbc HX1.out.size
  have HRES := hide hres
  obtain ⟨A1, c1, b1, m1, f1, rfl, -⟩ := hres
  obtain ⟨L, hL⟩ : ∃ L, L = (propL cs now).length := ⟨_, rfl⟩
  have HRES := hide (show OwnRes (propL cs now) w (.returned (.slice A1 L c1)) w1 by rw [hL]; exact HRES.out)
  rw [← hL]
  clear hL hm0 hm1
  go_wp2
  go_loopw [0, 12] (fun x i wr => x = .slice A1 L c1 ∧ i = .int .i64 0 ∧ wr = w1) (fun _ _ _ => 0)
  case atStart => exact ⟨rfl, rfl, rfl⟩
  case round =>
    obtain ⟨rfl, rfl, rfl⟩ := hrel
    go_wp2
    go_ret
    exact HRES.out
set_option maxRecDepth 100000 in
set_option maxHeartbeats 4000000 in
theorem withN_any (v vd : Value) (D ds : List Int) (cs : List Con) (w : World) (hM : SMod w v D cs) (hD : SInts w vd ds) (hG : GoodD cs ds.length ds) (h4 : ds.length ≤ 4) (h1 : 0 < ds.length) :
    Calls Tryz.prog 19 #[v, .slice none 0 0, vd] w (OwnRes (cluL cs [] ds) w) := by
  have hM0 := hide hM
  have hD0 := hide hD
  have HG := hide hG
  obtain ⟨ve, vc, rfl, hE, hC⟩ := hM
  obtain ⟨Ae, ce, rfl, -, hle⟩ := hE.form
  obtain ⟨Ac, cc, rfl, -, hlc⟩ := hC.form
  obtain ⟨Ad, cd, rfl, -, hld⟩ := hD.form
  obtain ⟨w0, hw0⟩ : ∃ w0, w0 = (w.alloc (.cells #[.slice Ae D.length ce, .slice Ac cs.length cc] 26)).alloc (.cells #[.slice none 0 0] 27) := ⟨_, rfl⟩
  have hx0 : Ext w w0 := by rw [hw0]; exact ((Ext.refl w).alloc _).alloc _
  have hs0 : w0.heap.size = w.heap.size + 2 := by rw [hw0]; simp
  have k0 : w0.cell? ⟨w.heap.size, 0, none⟩ = some (.slice Ae D.length ce) := by rw [hw0]; go_simp
  have k1 : w0.cell? ⟨w.heap.size, 1, none⟩ = some (.slice Ac cs.length cc) := by rw [hw0]; go_simp
  have k2 : w0.cell? ⟨w.heap.size + 1, 0, none⟩ = some (.slice none 0 0) := by rw [hw0]; go_simp
  have ks : w.heap.size < w0.heap.size := by omega
  have kt : w.heap.size + 1 < w0.heap.size := by omega
  have HX0 := hide hx0
  have K0 := hide k0
  have K1 := hide k1
  have K2 := hide k2
  clear hE hC hD hG hx0
  go_enter Tryz.func19, Tryz.ntmps19
  go_wp2_with fail
  rw [← hw0]
  clear hw0
  refine (fixpointC_any _ ds 49 #[.pointer (some ⟨w.heap.size, 0, none⟩), .pointer (some ⟨w.heap.size + 1, 0, none⟩)] (stC cs []) (GoodD cs ds.length) _ (hD0.out.ext HX0.out) HG.out (stC_ok h4 (fun i hi => absurd hi (by simp))) h4 h1 (fun args W => callFunc_body Tryz.func49 (by kernel_rfl) (by kernel_rfl) args W)
    (hide fun now v' W hW hS hgn => (with1_any Ae Ac ce cc w.heap.size (w.heap.size + 1) v' D now cs W ((hW.cells _ _ ks).trans K0.out) ((hW.cells _ _ ks).trans K1.out) (Nat.lt_of_lt_of_le ks hW.size) ((hW.cells _ _ kt).trans K2.out) (Nat.lt_of_lt_of_le kt hW.size) (hM0.out.ext (HX0.out.trans hW)) hS (by rw [hgn.1]; exact hgn) (by rw [hgn.1]; exact h4) (by rw [hgn.1]; exact h1)).mono (fun _ _ h => .inl h))).mono ?_
  rintro e w2 hres
  have HRES := hide (show OwnRes (cluL cs [] ds) w e w2 from OwnRes.from hres HX0.out)
  obtain ⟨A3, c3, b3, m3, f3, rfl, -⟩ := hres
  obtain ⟨L, hL⟩ : ∃ L, L = (fixL (stC cs []) 300 ds).length := ⟨_, rfl⟩
  rw [← hL]
  have HRES := hide (show OwnRes (cluL cs [] ds) w (.returned (.slice A3 L c3)) w2 by rw [hL]; exact HRES.out)
  clear hL
  go_wp2
  go_ret
  exact HRES.out
end Go.Proofs.YtgpbmggfpbebmaaGreat
