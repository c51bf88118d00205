/- IsSingletonConsistent: the program's, and the reference's. -/
import Derived.Test.YtgeflejmdlipmaaPrb
import Derived.Test.YtgeflejmdlipmaaSpD
namespace Go.Proofs.Ytgeflejmdlipmaa
open Go.RowKit
attribute [local go_sem] evalOf

/-- No value of domain i fails. -/
def failB (cs : List Con) (ds : List Int) (i : Nat) : Bool := anyB (fun k => hasI (probL cs ds i (at0 (domL (at0 ds i)) k).toNat) 0) (domL (at0 ds i)).length
def sngB (ds : List Int) (cs : List Con) : Bool := vMod ds cs && (!hasI ds 0 && !anyB (failB cs ds) ds.length)
theorem probL_R {cs : List Con} {n : Nat} {ds : List Int} (h : GoodD cs n ds) (h4 : n ≤ 4) {v a : Nat} (hv : v < n) (ha : a < 6) : PropR cs n (probD ds v a) (probL cs ds v a) := propL_R (h.prob hv ha) h4
theorem probL_first {cs : List Con} {n : Nat} {ds : List Int} (h : GoodD cs n ds) (h4 : n ≤ 4) (h0 : 0 < n) {v a : Nat} (hv : v < n) (ha : a < 6) : (at0 (probL cs ds v a) 0 == 0) = hasI (probL cs ds v a) 0 := propL_first (h.prob hv ha) h4 h0
theorem domL_val2 (d : Int) {k : Nat} (hk : k < (domL d).length) : ∃ a : Nat, at0 (domL d) k = a ∧ a < 6 := by
  have := domL_bd d hk
  exact ⟨(at0 (domL d) k).toNat, by omega, by omega⟩
set_option maxRecDepth 100000 in
set_option maxHeartbeats 4000000 in
theorem sing1_any (Ae Ac : Option Addr) (ce cc bm bi i a : Nat) (ds : List Int) (cs : List Con) (w : World) (hm0 : w.cell? ⟨bm, 0, none⟩ = some (.slice Ae ds.length ce)) (hm1 : w.cell? ⟨bm, 1, none⟩ = some (.slice Ac cs.length cc)) (hbi : w.cell? ⟨bi, 0, none⟩ = some (.int .i64 i))
    (hM : SMod w (.agg #[.slice Ae ds.length ce, .slice Ac cs.length cc]) ds cs) (hE : SInts w (.slice Ae ds.length ce) ds) (hG : GoodD cs ds.length ds) (h4 : ds.length ≤ 4) (hi : i < ds.length) (ha : a < 6) :
    Calls Try.prog 35 #[.int .i64 a, .pointer (some ⟨bm, 0, none⟩), .pointer (some ⟨bi, 0, none⟩)] w (Ret (.bool (hasI (probL cs ds i a) 0)) w) := by
  have hM0 := hide hM
  have hE0 := hide hE
  have HG := hide hG
  have HF := hide (probL_first hG h4 (by omega) hi ha)
  have HLN := hide (probL_R hG h4 hi ha).good.1
  clear hM hE hG
  go_enter Try.func35, Try.ntmps35
  go_wp2_with fail
  refine (probeI_any _ _ ds ds cs i a _ hM0.out hE0.out HG.out hi ha h4).mono ?_
  rintro e w2 ⟨A2, c2, b2, m2, f2, rfl, hc2, hd2, hb2, ho2, hx2⟩
  have hl := HLN.out
  obtain ⟨rfl, hr2, hm2, hf2⟩ := ho2 (by omega)
  have fc := hr2.cell (i := 0) (by omega)
  rw [hf2 0 (by omega)] at fc
  obtain ⟨q, hq⟩ : ∃ q, q = at0 (probL cs ds i a) 0 := ⟨_, rfl⟩
  have HF2 := hide (show (q == 0) = hasI (probL cs ds i a) 0 by rw [hq]; exact HF.out)
  rw [← hq] at fc
  rw [hl]
  have hlp : 0 < ds.length := by omega
  clear hq hr2 hf2 ho2 hl
  go_wp2
  go_ret
  exact Ret.mk (ret_b HF2.out) hx2
set_option maxRecDepth 100000 in
set_option maxHeartbeats 4000000 in
theorem IsSingletonConsistentI_any (v : Value) (ds : List Int) (cs : List Con) (w : World) (hM : SMod w v ds cs) :
    Calls Try.prog 12 #[v] w (Ret (.bool (sngB ds cs)) w) := by
  have hM0 := hide hM
  obtain ⟨ve, vc, rfl, hE, hC⟩ := hM
  obtain ⟨Ae, ce, rfl, -, hle⟩ := hE.form
  obtain ⟨Ac, cc, rfl, -, hlc⟩ := hC.form
  obtain ⟨w0, hw0⟩ : ∃ w0, w0 = w.alloc (.cells #[.slice Ae ds.length ce, .slice Ac cs.length cc] 26) := ⟨_, rfl⟩
  have hx0 : Ext w w0 := by rw [hw0]; exact (Ext.refl w).alloc _
  have k0 : w0.cell? ⟨w.heap.size, 0, none⟩ = some (.slice Ae ds.length ce) := by rw [hw0]; go_simp
  have k1 : w0.cell? ⟨w.heap.size, 1, none⟩ = some (.slice Ac cs.length cc) := by rw [hw0]; go_simp
  have ks : w.heap.size < w0.heap.size := by rw [hw0]; simp
  have HX0 := hide hx0
  have hE0 := hide (hE.ext hx0)
  have hC0 := hide (hC.ext hx0)
  clear hE hC hx0
  go_enter Try.func12, Try.ntmps12
  go_wp2_with fail
  rw [← hw0]
  clear hw0
  refine (ValidModelI_any _ _ ds cs _ hE0.out hC0.out (fun i _ => fits_all _)).mono ?_
  rintro e w1 ⟨rfl, hx1⟩
  have HX1 := hide hx1
  have k0 := (hx1.cells _ _ ks).trans k0
  have k1 := (hx1.cells _ _ ks).trans k1
  have ks := Nat.lt_of_lt_of_le ks hx1.size
  clear hx1
  cases hv : vMod ds cs with
  | false =>
    have HV := hide (show sngB ds cs = false by rw [sngB, hv]; rfl)
    clear hv
    go_wp2
    go_ret
    exact Ret.mk (ret_b HV.out.symm) (HX0.out.trans HX1.out)
  | true =>
    obtain ⟨hG, hp, h4⟩ := vMod_good hv
    have HG := hide hG
    cases h0 : hasI ds 0 with
    | true =>
      have HV := hide (show sngB ds cs = false by rw [sngB, hv, h0]; rfl)
      have H0 := hide h0
      clear hv h0
      go_wp2_with (go_at_call 33; refine (Contains_any _ ds _ _ (hE0.out.ext HX1.out)).mono ?_; rintro e w' ⟨rfl, rfl⟩; rw [H0.out])
      go_ret
      exact Ret.mk (ret_b HV.out.symm) (HX0.out.trans HX1.out)
    | false =>
      have HV := hide (show sngB ds cs = !anyB (failB cs ds) ds.length by rw [sngB, hv, h0]; rfl)
      have H0 := hide h0
      have K0 := hide k0
      have K1 := hide k1
      clear hv h0 hG
      go_wp2_with (go_at_call 33; refine (Contains_any _ ds _ _ (hE0.out.ext HX1.out)).mono ?_; rintro e w' ⟨rfl, rfl⟩; rw [H0.out])
      go_loopw [16] (fun i wr => ∃ k : Nat, i = .int .i64 k ∧ k ≤ ds.length ∧ Ext w1 wr ∧ ∀ j, j < k → failB cs ds j = false) (fun i _ => ds.length - (intOf i).toNat)
      case atStart => exact ⟨0, rfl, Nat.zero_le _, Ext.refl _, fun j hj => by omega⟩
      case round =>
        obtain ⟨k, rfl, hk, hx, hno⟩ := hrel
        have HX := hide hx
        have HNO := hide hno
        clear hno k0 k1
        by_cases hlt : k < ds.length
        · have hkI : (k : Int) < ds.length := by omega
          obtain ⟨b, off, rfl, hbl, f1⟩ := ((hE0.out.ext HX1.out).ext hx).at_ hlt
          have hdb := HG.out.2.1 k hlt
          obtain ⟨d, hd⟩ : ∃ d, d = at0 ds k := ⟨_, rfl⟩
          rw [← hd] at f1 hdb
          have HD := hide hd
          clear hd hx
          go_wp2_with fail
          obtain ⟨u, hu⟩ : ∃ u, u = wr.alloc (.cells #[.int .i64 k] 3) := ⟨_, rfl⟩
          have hxu : Ext wr u := by rw [hu]; exact (Ext.refl wr).alloc _
          have ui : u.cell? ⟨wr.heap.size, 0, none⟩ = some (.int .i64 k) := by rw [hu]; go_simp
          have us : wr.heap.size < u.heap.size := by rw [hu]; simp
          have HU := hide (HX.out.trans hxu)
          have UI := hide ui
          rw [← hu]
          clear hu hxu ui
          refine (valuesOf_any d _ hdb.1 (by omega)).mono ?_
          rintro e w2 ⟨A2, c2, b2, m2, f2, rfl, hc2, hd2, hb2, ho2, hx2⟩
          have HS2 := hide (SInts.own hc2 hd2 ho2 (domL_i64 d))
          have HX2 := hide hx2
          have HXX := hide (HU.out.trans hx2)
          clear hc2 hd2 hb2 ho2 hx2
          go_wp2_with fail
          have HXW := hide ((HX0.out.trans HX1.out).trans HXX.out)
          refine (ContainsFuncI_any _ (domL d) 35 #[.pointer (some ⟨w.heap.size, 0, none⟩), .pointer (some ⟨wr.heap.size, 0, none⟩)] (fun j => hasI (probL cs ds k (at0 (domL d) j).toNat) 0) _ HS2.out (fun args W => callFunc_body Try.func35 (by kernel_rfl) (by kernel_rfl) args W) (hide fun j hj W hW => by
            obtain ⟨a, ha, ha6⟩ := domL_val2 d hj
            rw [ha, Int.toNat_natCast]
            exact sing1_any _ _ ce cc w.heap.size wr.heap.size k a ds cs W (((HXX.out.trans hW).cells _ _ ks).trans K0.out) (((HXX.out.trans hW).cells _ _ ks).trans K1.out) (((HX2.out.trans hW).cells _ _ us).trans UI.out) (hM0.out.ext (HXW.out.trans hW)) (((hE0.out.ext HX1.out).ext HXX.out).ext hW) HG.out h4 hlt ha6)).mono ?_
          rintro e w3 ⟨rfl, hx3⟩
          have HX3 := hide (HXX.out.trans hx3)
          have HFB := hide (show anyB (fun j => hasI (probL cs ds k (at0 (domL d) j).toNat) 0) (domL d).length = failB cs ds k by rw [failB, HD.out])
          clear hx3
          rw [HFB.out]
          cases hf : failB cs ds k with
          | true =>
            have HV2 := hide (show sngB ds cs = false by rw [HV.out, anyB_iff.2 ⟨k, hlt, hf⟩]; rfl)
            go_wp2
            go_ret
            exact Ret.mk (ret_b HV2.out.symm) ((HX0.out.trans HX1.out).trans HX3.out)
          | false =>
            have HFF := hide hf
            go_wp2
            go_roundw
            case rel => exact ⟨k + 1, by go_num, by omega, HX3.out, upto_succ HNO.out HFF.out⟩
            case measure => simp [intOf]; omega
        · obtain rfl : k = ds.length := by omega
          have hkI : ¬ ((ds.length : Int) < ds.length) := by omega
          have HV2 := hide (show sngB ds cs = true by rw [HV.out, anyB_false.2 HNO.out]; rfl)
          go_wp2
          go_ret
          exact Ret.mk (ret_b HV2.out.symm) ((HX0.out.trans HX1.out).trans HX.out)
set_option maxRecDepth 100000 in
set_option maxHeartbeats 8000000 in
theorem IsSingletonConsistentS_any (v : Value) (ds : List Int) (cs : List Con) (w : World) (hM : SMod w v ds cs) :
    Calls Try.prog 13 #[v] w (Ret (.bool (sngB ds cs)) w) := by
  have hM0 := hide hM
  obtain ⟨ve, vc, rfl, hE, hC⟩ := hM
  obtain ⟨Ae, ce, rfl, -, hle⟩ := hE.form
  obtain ⟨Ac, cc, rfl, -, hlc⟩ := hC.form
  obtain ⟨w0, hw0⟩ : ∃ w0, w0 = w.alloc (.cells #[.slice Ae ds.length ce, .slice Ac cs.length cc] 26) := ⟨_, rfl⟩
  have hx0 : Ext w w0 := by rw [hw0]; exact (Ext.refl w).alloc _
  have k0 : w0.cell? ⟨w.heap.size, 0, none⟩ = some (.slice Ae ds.length ce) := by rw [hw0]; go_simp
  have k1 : w0.cell? ⟨w.heap.size, 1, none⟩ = some (.slice Ac cs.length cc) := by rw [hw0]; go_simp
  have ks : w.heap.size < w0.heap.size := by rw [hw0]; simp
  have HX0 := hide hx0
  have hE0 := hide (hE.ext hx0)
  clear hE hC hx0
  go_enter Try.func13, Try.ntmps13
  go_wp2_with fail
  rw [← hw0]
  clear hw0
  refine (validModelS_any _ ds cs _ (hM0.out.ext HX0.out)).mono ?_
  rintro e w1 ⟨rfl, hx1⟩
  have HX1 := hide hx1
  have k0 := (hx1.cells _ _ ks).trans k0
  have k1 := (hx1.cells _ _ ks).trans k1
  have ks := Nat.lt_of_lt_of_le ks hx1.size
  clear hx1
  cases hv : vMod ds cs with
  | false =>
    have HV := hide (show sngB ds cs = false by rw [sngB, hv]; rfl)
    clear hv
    go_wp2
    go_ret
    exact Ret.mk (ret_b HV.out.symm) (HX0.out.trans HX1.out)
  | true =>
    obtain ⟨hG, hp, h4⟩ := vMod_good hv
    have HG := hide hG
    cases h0 : hasI ds 0 with
    | true =>
      have HV := hide (show sngB ds cs = false by rw [sngB, hv, h0]; rfl)
      have H0 := hide h0
      clear hv h0
      go_wp2_with (go_at_call 32; refine (hasEmpty_any _ ds _ (hE0.out.ext HX1.out)).mono ?_; rintro e w' ⟨rfl, rfl⟩; rw [H0.out])
      go_ret
      exact Ret.mk (ret_b HV.out.symm) (HX0.out.trans HX1.out)
    | false =>
      have HV := hide (show sngB ds cs = !anyB (failB cs ds) ds.length by rw [sngB, hv, h0]; rfl)
      have H0 := hide h0
      have K0 := hide k0
      have K1 := hide k1
      clear hv h0 hG
      go_wp2_with (go_at_call 32; refine (hasEmpty_any _ ds _ (hE0.out.ext HX1.out)).mono ?_; rintro e w' ⟨rfl, rfl⟩; rw [H0.out])
      go_loopw [3] (fun i wr => ∃ k : Nat, i = .int .i64 k ∧ k ≤ ds.length ∧ Ext w1 wr ∧ ∀ j, j < k → failB cs ds j = false) (fun i _ => ds.length - (intOf i).toNat)
      case atStart => exact ⟨0, rfl, Nat.zero_le _, Ext.refl _, fun j hj => by omega⟩
      case round =>
        obtain ⟨k, rfl, hk, hx, hno⟩ := hrel
        have HX := hide hx
        have HNO := hide hno
        have k0 := (hx.cells _ _ ks).trans K0.out
        have ksr := Nat.lt_of_lt_of_le ks hx.size
        clear hno
        by_cases hlt : k < ds.length
        · have hkI : (k : Int) < ds.length := by omega
          obtain ⟨b, off, rfl, hbl, f1⟩ := ((hE0.out.ext HX1.out).ext hx).at_ hlt
          have hdb := HG.out.2.1 k hlt
          obtain ⟨d, hd⟩ : ∃ d, d = at0 ds k := ⟨_, rfl⟩
          rw [← hd] at f1 hdb
          have HD := hide hd
          clear hd hx
          go_wp2_with fail
          refine (domainValues_any d _ hdb.1 (by omega)).mono ?_
          rintro e w2 ⟨A2, c2, b2, m2, f2, rfl, hc2, hd2, hb2, ho2, hx2⟩
          have HS2 := hide (SInts.own hc2 hd2 ho2 (domL_i64 d))
          have HXX := hide (HX.out.trans hx2)
          clear hc2 hd2 hb2 ho2 hx2
          have HFB := hide (show anyB (fun j => hasI (probL cs ds k (at0 (domL d) j).toNat) 0) (domL d).length = failB cs ds k by rw [failB, HD.out])
          go_wp2_with fail
          have hdl := domL_len d
          go_loopw [5] (fun i wr => ∃ m : Nat, i = .int .i64 m ∧ m ≤ (domL d).length ∧ Ext w1 wr ∧ Ext w2 wr ∧ ∀ j, j < m → hasI (probL cs ds k (at0 (domL d) j).toNat) 0 = false) (fun i _ => (domL d).length - (intOf i).toNat)
          case atStart => exact ⟨0, rfl, Nat.zero_le _, HXX.out, Ext.refl _, fun j hj => by omega⟩
          case round =>
            obtain ⟨m, rfl, hm, hxm, hx2m, hnm⟩ := hrel
            have HXM := hide hxm
            have HX2M := hide hx2m
            have HNM := hide hnm
            have q0 := (hxm.cells _ _ ks).trans K0.out
            have q1 := (hxm.cells _ _ ks).trans K1.out
            have qs := Nat.lt_of_lt_of_le ks hxm.size
            clear hnm k0
            by_cases hml : m < (domL d).length
            · have hmI : (m : Int) < (domL d).length := by omega
              obtain ⟨a, ha, ha6⟩ := domL_val2 d hml
              obtain ⟨b3, o3, rfl, hb3, f3⟩ := (HS2.out.ext hx2m).at_ hml
              rw [ha] at f3
              have HA := hide ha
              clear ha hxm hx2m
              have HG2 := hide (probL_R HG.out h4 hlt ha6)
              have hbx := Nat.lt_of_lt_of_le hb3 (Nat.le_refl _)
              go_wp2_with fail
              refine wp_region_relT (n := 10) (ts := []) (sp := [RS.q [] (fun _ => .agg #[.slice (some ⟨b, off, none⟩) ds.length ce, .slice Ac cs.length cc]), RS.q [] (fun _ => .pointer (some ⟨w.heap.size, 0, none⟩)), RS.q [1] (fun _ => .slice (some ⟨b, off, none⟩) ds.length ce), RS.q [] (fun _ => .int .i64 k), RS.q [] (fun _ => .slice (some ⟨b3, o3, none⟩) (domL d).length c2), RS.q [] (fun _ => .int .i64 m), RS.q [4, 5] (fun _ => .pointer (some ⟨b3, o3 + m, none⟩)), RS.q [6] (fun _ => .int .i64 a), RS.ow [0, 2, 3, 7] (probL cs ds k a) wr, RS.q [8] (fun _ => .bool (hasI (probL cs ds k a) 0))])
                (fun W => Ext wr W) (by kernel_rfl) (relOK (D := [[], [], [1], [], [], [], [4, 5], [6], [0, 2, 3, 7], [8]]) rfl (by kernel_rfl) rfl) (by kernel_rfl) (fun W W' h hx => h.trans hx) (Ext.refl wr).drew ?steps ?ends
              case steps =>
                refine ⟨?_, ?_, ?_, ?_, ?_, ?_, ?_, ?_, ?_, ?_, trivial⟩
                · intro V τ W hC hf ht h0
                  have s1 : τ 1 = .pointer (some ⟨w.heap.size, 0, none⟩) := h0 1 (by kernel_rfl)
                  have q0 := (hC.cells _ _ qs).trans q0
                  have q1 := (hC.cells _ _ qs).trans q1
                  refine Does.val (w' := W) (v := .agg #[.slice (some ⟨b, off, none⟩) ds.length ce, .slice Ac cs.length cc]) ?_ ⟨Ext.refl W, rfl⟩
                  go_simp
                · intro V τ W hC hf ht h0
                  have s1 : τ 1 = .pointer (some ⟨w.heap.size, 0, none⟩) := h0 1 (by kernel_rfl)
                  refine Does.val (w' := W) (v := .pointer (some ⟨w.heap.size, 0, none⟩)) ?_ ⟨Ext.refl W, rfl⟩
                  go_simp
                · intro V τ W hC hf ht h0
                  have f1 : V 1 = .pointer (some ⟨w.heap.size, 0, none⟩) := hf 1 (by simp [RS.at_, RS.q])
                  have s34 := (ht 1 (by simp [RS.at_, RS.q]) 34 rfl).trans f1
                  have q0 := (hC.cells _ _ qs).trans q0
                  refine Does.val (w' := W) (v := .slice (some ⟨b, off, none⟩) ds.length ce) ?_ ⟨Ext.refl W, rfl⟩
                  go_simp
                · intro V τ W hC hf ht h0
                  have s3 : τ 3 = .int .i64 k := h0 3 (by kernel_rfl)
                  refine Does.val (w' := W) (v := .int .i64 k) ?_ ⟨Ext.refl W, rfl⟩
                  go_simp
                · intro V τ W hC hf ht h0
                  have s4 : τ 4 = .slice (some ⟨b3, o3, none⟩) (domL d).length c2 := h0 4 (by kernel_rfl)
                  refine Does.val (w' := W) (v := .slice (some ⟨b3, o3, none⟩) (domL d).length c2) ?_ ⟨Ext.refl W, rfl⟩
                  go_simp
                · intro V τ W hC hf ht h0
                  have s5 : τ 5 = .int .i64 m := h0 5 (by kernel_rfl)
                  refine Does.val (w' := W) (v := .int .i64 m) ?_ ⟨Ext.refl W, rfl⟩
                  go_simp
                · intro V τ W hC hf ht h0
                  have f4 : V 4 = .slice (some ⟨b3, o3, none⟩) (domL d).length c2 := hf 4 (by simp [RS.at_, RS.q])
                  have f5 : V 5 = .int .i64 m := hf 5 (by simp [RS.at_, RS.q])
                  have s37 := (ht 4 (by simp [RS.at_, RS.q]) 37 rfl).trans f4
                  have s38 := (ht 5 (by simp [RS.at_, RS.q]) 38 rfl).trans f5
                  refine Does.val (w' := W) (v := .pointer (some ⟨b3, o3 + m, none⟩)) ?_ ⟨Ext.refl W, rfl⟩
                  go_simp
                · intro V τ W hC hf ht h0
                  have f6 : V 6 = .pointer (some ⟨b3, o3 + m, none⟩) := hf 6 (by simp [RS.at_, RS.q])
                  have s39 := (ht 6 (by simp [RS.at_, RS.q]) 39 rfl).trans f6
                  have f3 := (hC.cells _ _ hb3).trans f3
                  refine Does.val (w' := W) (v := .int .i64 a) ?_ ⟨Ext.refl W, rfl⟩
                  go_simp
                · intro V τ W hC hf ht h0
                  have f0 : V 0 = .agg #[.slice (some ⟨b, off, none⟩) ds.length ce, .slice Ac cs.length cc] := hf 0 (by simp [RS.at_, RS.ow])
                  have f2 : V 2 = .slice (some ⟨b, off, none⟩) ds.length ce := hf 2 (by simp [RS.at_, RS.ow])
                  have f3 : V 3 = .int .i64 k := hf 3 (by simp [RS.at_, RS.ow])
                  have f7 : V 7 = .int .i64 a := hf 7 (by simp [RS.at_, RS.ow])
                  have s33 := (ht 0 (by simp [RS.at_, RS.ow]) 33 rfl).trans f0
                  have s35 := (ht 2 (by simp [RS.at_, RS.ow]) 35 rfl).trans f2
                  have s36 := (ht 3 (by simp [RS.at_, RS.ow]) 36 rfl).trans f3
                  have s40 := (ht 7 (by simp [RS.at_, RS.ow]) 40 rfl).trans f7
                  have hXW := ((HX0.out.trans HX1.out).trans HXM.out).trans hC
                  refine Does.call (w' := W) (f := 27) (args := #[.agg #[.slice (some ⟨b, off, none⟩) ds.length ce, .slice Ac cs.length cc], .slice (some ⟨b, off, none⟩) ds.length ce, .int .i64 k, .int .i64 a]) (by go_simp; all_goals (first | exact rfl | (apply And.intro <;> exact rfl))) ?_
                  refine (probeS_any _ _ ds ds cs k a _ (hM0.out.ext hXW) (((hE0.out.ext HX1.out).ext HXM.out).ext hC) HG.out hlt ha6 h4).mono ?_
                  rintro e wa hres
                  have hr2 := OwnRes.from hres hC
                  obtain ⟨A3, c3, b3, m3, f3, rfl, -, -, -, -, hxa⟩ := hres
                  exact ⟨_, rfl, hxa, hr2⟩
                · intro V τ W hC hf ht h0
                  have f8 : OwnRes (probL cs ds k a) wr (.returned (V 8)) W := hf 8 (by simp [RS.at_, RS.q])
                  have s41 : τ 41 = V 8 := ht 8 (by simp [RS.at_, RS.q]) 41 rfl
                  refine Does.call (w' := W) (f := 32) (args := #[V 8]) (by go_simp; all_goals (first | exact rfl | (apply And.intro <;> exact rfl))) ?_
                  refine (hasEmpty_any _ (probL cs ds k a) _ (f8.ints HG2.out.good.i64)).mono ?_
                  rintro e wa ⟨rfl, rfl⟩
                  exact ⟨_, rfl, Ext.refl _, rfl⟩
              case ends =>
                intro V W hC hf
                have f0 : V 0 = .agg #[.slice (some ⟨b, off, none⟩) ds.length ce, .slice Ac cs.length cc] := hf 0 (by omega)
                have f1 : V 1 = .pointer (some ⟨w.heap.size, 0, none⟩) := hf 1 (by omega)
                have f2 : V 2 = .slice (some ⟨b, off, none⟩) ds.length ce := hf 2 (by omega)
                have g3 : V 3 = .int .i64 k := hf 3 (by omega)
                have f4 : V 4 = .slice (some ⟨b3, o3, none⟩) (domL d).length c2 := hf 4 (by omega)
                have f5 : V 5 = .int .i64 m := hf 5 (by omega)
                have f6 : V 6 = .pointer (some ⟨b3, o3 + m, none⟩) := hf 6 (by omega)
                have f7 : V 7 = .int .i64 a := hf 7 (by omega)
                obtain ⟨A8, c8, f8⟩ := (show OwnRes (probL cs ds k a) wr (.returned (V 8)) W from hf 8 (by omega)).form
                have f9 : V 9 = .bool (hasI (probL cs ds k a) 0) := hf 9 (by omega)
                obtain ⟨L, hL⟩ : ∃ L, L = (probL cs ds k a).length := ⟨_, rfl⟩
                rw [← hL] at f8
                clear hf hL
                simp only [List.take_succ_cons, List.take_zero, putAll, Act.put, List.setIfInBounds_toArray, List.set_cons_succ, List.set_cons_zero, Nat.reduceAdd, f0, f1, f2, g3, f4, f5, f6, f7, f8, f9]
                simp only [nths]
                clear f0 f1 f2 g3 f4 f5 f6 f7 f8 f9
                have HCW := hide hC
                clear hC q0 q1 f3
                cases hf : hasI (probL cs ds k a) 0 with
                | true =>
                  have HV2 := hide (show sngB ds cs = false by
                    have : failB cs ds k = true := by rw [← HFB.out]; exact anyB_iff.2 ⟨m, hml, by rw [HA.out, Int.toNat_natCast]; exact hf⟩
                    rw [HV.out, anyB_iff.2 ⟨k, hlt, this⟩]; rfl)
                  clear hf
                  go_wp2
                  go_ret
                  exact Ret.mk (ret_b HV2.out.symm) (((HX0.out.trans HX1.out).trans HXM.out).trans HCW.out)
                | false =>
                  have HFF := hide (show hasI (probL cs ds k (at0 (domL d) m).toNat) 0 = false by rw [HA.out, Int.toNat_natCast]; exact hf)
                  clear hf
                  go_wp2
                  go_roundw
                  case rel => exact ⟨m + 1, by go_num, by omega, HXM.out.trans HCW.out, HX2M.out.trans HCW.out, upto_succ HNM.out HFF.out⟩
                  case measure => simp [intOf]; omega
            · obtain rfl : m = (domL d).length := by omega
              have hmI : ¬ (((domL d).length : Int) < (domL d).length) := by omega
              have HFF := hide (show failB cs ds k = false by rw [← HFB.out]; exact anyB_false.2 HNM.out)
              go_wp2
              go_roundw
              case rel => exact ⟨k + 1, by go_num, by omega, HXM.out, upto_succ HNO.out HFF.out⟩
              case measure => simp [intOf]; omega
        · obtain rfl : k = ds.length := by omega
          have hkI : ¬ ((ds.length : Int) < ds.length) := by omega
          have HV2 := hide (show sngB ds cs = true by rw [HV.out, anyB_false.2 HNO.out]; rfl)
          go_wp2
          go_ret
          exact Ret.mk (ret_b HV2.out.symm) ((HX0.out.trans HX1.out).trans HX.out)
end Go.Proofs.Ytgeflejmdlipmaa
