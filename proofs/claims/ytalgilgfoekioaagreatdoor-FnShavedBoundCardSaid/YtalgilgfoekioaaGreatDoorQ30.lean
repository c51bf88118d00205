/- Bounds of an objective: plain; LowerBound, Minimize, ObjectiveValue of the program. -/
import Derived.Test.YtalgilgfoekioaaGreatDoorLbW
import Derived.Test.YtalgilgfoekioaaGreatDoorQ2
import Derived.Test.YtalgilgfoekioaaGreatDoorBest
import Derived.Test.YtalgilgfoekioaaGreatDoorFitK
namespace Go.Proofs.YtalgilgfoekioaaGreatDoor
open Go.RowKit

/-! ### plain -/
theorem low_top9 {d : Nat} (h2 : d ≤ 63) {v : Nat} (hv : v < 6) (h : hasB (d : Int) v = true) : lowB d ≤ v ∧ v ≤ topB d ∧ hasB (d : Int) (lowB d) = true ∧ hasB (d : Int) (topB d) = true ∧ lowB d < 6 ∧ topB d < 6 := by
  have key : ((List.range 64).all fun i => (List.range 6).all fun v => !hasB (i : Int) v || (decide (lowB i ≤ v) && (decide (v ≤ topB i) && (hasB (i : Int) (lowB i) && (hasB (i : Int) (topB i) && (decide (lowB i < 6) && decide (topB i < 6))))))) = true := by decide +kernel
  rw [List.all_eq_true] at key
  have k1 := key d (List.mem_range.2 (by omega))
  rw [List.all_eq_true] at k1
  have k2 := k1 v (List.mem_range.2 hv)
  simp only [h, Bool.not_true, Bool.false_or, Bool.and_eq_true, decide_eq_true_eq] at k2
  exact ⟨k2.1, k2.2.1, k2.2.2.1, k2.2.2.2.1, k2.2.2.2.2.1, k2.2.2.2.2.2⟩
theorem endV_val {a d : Int} (h1 : 1 ≤ d) (h2 : d ≤ 63) {v : Nat} (hv : v < 6) (h : hasB d v = true) : a * endV a d ≤ a * v := by
  obtain ⟨n, rfl⟩ : ∃ n : Nat, d = n := ⟨d.toNat, by omega⟩
  obtain ⟨q1, q2, -⟩ := low_top9 (d := n) (by omega) hv h
  unfold endV
  rw [Int.toNat_natCast]
  split
  · rename_i ha
    exact Int.mul_le_mul_of_nonpos_left (by omega) (by exact_mod_cast q2)
  · exact Int.mul_le_mul_of_nonneg_left (by exact_mod_cast q1) (by omega)
theorem endV_mono {a d e : Int} (h1 : 1 ≤ d) (h2 : d ≤ 63) (k1 : 1 ≤ e) (k2 : e ≤ 63) (hs : ∀ v, v < 6 → hasB e v = true → hasB d v = true) : a * endV a d ≤ a * endV a e := by
  obtain ⟨m, rfl⟩ : ∃ m : Nat, e = m := ⟨e.toNat, by omega⟩
  obtain ⟨u, u6, hu⟩ := has_one9 (d := (m : Int)) (by omega) k2 (by omega)
  obtain ⟨-, -, q1, q2, q3, q4⟩ := low_top9 (d := m) (by omega) u6 hu
  by_cases ha : a < 0
  · have he : endV a (m : Int) = (topB m : Int) := by unfold endV; rw [if_pos ha, Int.toNat_natCast]
    rw [he]
    exact endV_val h1 h2 q4 (hs _ q4 q2)
  · have he : endV a (m : Int) = (lowB m : Int) := by unfold endV; rw [if_neg ha, Int.toNat_natCast]
    rw [he]
    exact endV_val h1 h2 q3 (hs _ q3 q1)
theorem lbK_mono {obj d e : List Int} (hd : FullD d) (he : FullD e) (hs : SubD e d) : ∀ k, k ≤ d.length → lbK obj d k ≤ lbK obj e k
  | 0, _ => Int.le_refl _
  | k + 1, hk => by
    have ih := lbK_mono (obj := obj) hd he hs k (by omega)
    have hke : k < e.length := by rw [hs.len]; omega
    have h1 := hd k (by omega)
    have h2 := he k hke
    have := endV_mono (a := at0 obj k) h1.1 h1.2 h2.1 h2.2 (hs.sub k hke)
    rw [lbK, lbK]
    omega
theorem lbK_val {obj d x : List Int} (hd : FullD d) (hx : x ∈ tups d) : ∀ k, k ≤ d.length → lbK obj d k ≤ wsum obj x k
  | 0, _ => Int.le_refl _
  | k + 1, hk => by
    have ih := lbK_val (obj := obj) hd hx k (by omega)
    obtain ⟨v, v6, e, hv⟩ := ((tups_in d x).1 hx).2 k (by omega)
    have h1 := hd k (by omega)
    have := endV_val (a := at0 obj k) h1.1 h1.2 v6 hv
    rw [lbK, wsum, e]
    omega
/-- The lower bound by propagation. -/
def lwG (ds : List Int) (cs : List Con) (obj : List Int) : Bool := (vMod ds cs && objB ds obj) && !hasI (propL cs ds) 0
def lwI (ds : List Int) (cs : List Con) (obj : List Int) : Int := if lwG ds cs obj then lbK obj (propL cs ds) ds.length else 0
/-- The least solution. -/
def mnO (ds : List Int) (cs : List Con) (obj : List Int) : Option (List Int) := if vMod ds cs && objB ds obj then bestF (fun x => wsum obj x x.length) (solL cs ds) else none
theorem zero_tups {d x : List Int} (h : hasI d 0 = true) (hx : x ∈ tups d) : False := by
  obtain ⟨i, hi, e⟩ := hasI_iff.1 h
  obtain ⟨v, v6, -, hv⟩ := ((tups_in d x).1 hx).2 i hi
  rw [e] at hv
  unfold hasB at hv
  simp at hv
/-- Shaving finds nothing: there is no solution. -/
theorem sb_no {ds : List Int} {cs : List Con} {obj : List Int} (h : sbG ds cs obj = false) : mnO ds cs obj = none := by
  unfold mnO
  cases hv : vMod ds cs && objB ds obj with
  | false => rfl
  | true =>
    rw [if_pos rfl]
    unfold sbG at h
    rw [hv, Bool.true_and, Bool.not_eq_false'] at h
    obtain ⟨hG, hp, h4⟩ := vMod_good (by simp only [Bool.and_eq_true] at hv; exact hv.1)
    have hs : solL cs ds = [] := by
      rw [List.eq_nil_iff_forall_not_mem]
      intro x hx
      obtain ⟨h1, h2⟩ := List.mem_filter.1 hx
      exact zero_tups h (shave_keeps h2 hG h4 h1)
    rw [hs]
    rfl
/-- Shaving finds a bound: it is at least the other one, and no solution is below. -/
theorem sb_yes {ds : List Int} {cs : List Con} {obj : List Int} (h : sbG ds cs obj = true) : lwG ds cs obj = true ∧ lwI ds cs obj ≤ sbI ds cs obj ∧ ∀ x, mnO ds cs obj = some x → x.length = ds.length ∧ ValL x ∧ sbI ds cs obj ≤ wsum obj x x.length := by
  have h0 := h
  unfold sbG at h
  simp only [Bool.and_eq_true, Bool.not_eq_true'] at h
  obtain ⟨⟨hv, ho⟩, hz⟩ := h
  obtain ⟨hG, hp, h4⟩ := vMod_good hv
  obtain ⟨hS, hSs, -⟩ := shave_R hG h4
  have hPR := propL_R hG h4
  have hSP := shave_prop hG h4
  have hSF := FullD.of hS hz
  have hPz : hasI (propL cs ds) 0 = false := by
    cases hh : hasI (propL cs ds) 0 with
    | false => rfl
    | true =>
      obtain ⟨i, hi, e⟩ := hasI_iff.1 hh
      have hil : i < (shaveL cs ds).length := by rw [hSP.len]; exact hi
      have h1 := hSF i hil
      obtain ⟨u, u6, hu⟩ := has_one9 (d := at0 (shaveL cs ds) i) (by omega) h1.2 (by omega)
      have := hSP.sub i hil u u6 hu
      rw [e] at this
      unfold hasB at this
      simp at this
  have hPF := FullD.of hPR.good hPz
  have hl : lwG ds cs obj = true := by unfold lwG; rw [hv, ho, hPz]; rfl
  have e1 : lwI ds cs obj = lbK obj (propL cs ds) ds.length := by unfold lwI; rw [if_pos hl]
  have e2 : sbI ds cs obj = lbK obj (shaveL cs ds) ds.length := by unfold sbI; rw [if_pos h0]
  have hpl : (propL cs ds).length = ds.length := hPR.good.1
  have hsl : (shaveL cs ds).length = ds.length := hS.1
  refine ⟨hl, by rw [e1, e2]; exact lbK_mono hPF hSF hSP _ (by omega), fun x hx => ?_⟩
  unfold mnO at hx
  rw [hv, ho, Bool.and_self, if_pos rfl] at hx
  have hm := bestF_mem _ _ none x hx
  rcases hm with hm | hm
  · cases hm
  · obtain ⟨m1, m2⟩ := List.mem_filter.1 hm
    obtain ⟨l1, l2⟩ := tups_val m1
    exact ⟨l1, l2, by rw [e2, l1]; exact lbK_val hSF (shave_keeps m2 hG h4 m1) _ (by omega)⟩
theorem mnO_ok {ds : List Int} {cs : List Con} {obj x : List Int} (h : mnO ds cs obj = some x) : obj.length = x.length ∧ allR obj (-9) 9 = true ∧ ValL x ∧ x.length ≤ 4 ∧ x.length = ds.length := by
  unfold mnO at h
  split at h
  · rename_i hv
    simp only [Bool.and_eq_true] at hv
    obtain ⟨hG, hp, h4⟩ := vMod_good hv.1
    have ho := hv.2
    unfold objB at ho
    simp only [Bool.and_eq_true, decide_eq_true_eq] at ho
    rcases bestF_mem _ _ none x h with hm | hm
    · cases hm
    · obtain ⟨l1, l2⟩ := tups_val (List.mem_filter.1 hm).1
      exact ⟨by omega, ho.2, l2, by omega, l1⟩
  · cases h
theorem lwI_bd (ds : List Int) (cs : List Con) (obj : List Int) : -180 ≤ lwI ds cs obj ∧ lwI ds cs obj ≤ 180 := by
  unfold lwI
  split
  · rename_i h
    unfold lwG at h
    simp only [Bool.and_eq_true, Bool.not_eq_true'] at h
    obtain ⟨⟨hv, ho⟩, hz⟩ := h
    obtain ⟨hG, hp, h4⟩ := vMod_good hv
    have hPR := propL_R hG h4
    unfold objB at ho
    simp only [Bool.and_eq_true, decide_eq_true_eq] at ho
    have hpl : (propL cs ds).length = ds.length := hPR.good.1
    have := lbK_bd (obj := obj) (ds := propL cs ds) ho.2 (by omega) (FullD.of hPR.good hz) ds.length (by omega)
    omega
  · omega
/-! ### the program -/
set_option maxRecDepth 100000 in
set_option maxHeartbeats 8000000 in
theorem LowerBoundI_any (v vo : Value) (ds : List Int) (cs : List Con) (obj : List Int) (w : World) (hM : SMod w v ds cs) (hO : SInts w vo obj) (hT : TzTab w) (hb : 1 < w.heap.size) :
    Calls Tryz.prog 7 #[v, vo] w (Ret (.tuple #[.int .i64 (lwI ds cs obj), .bool (lwG ds cs obj)]) w) := by
  have hM0 := hide hM
  have hO0 := hide hO
  have HT := hide hT
  obtain ⟨vd, vc, rfl, hD, hC⟩ := hM
  have hD0 := hide hD
  obtain ⟨Ad, cd, rfl, -, hld⟩ := hD.form
  obtain ⟨Ac, cc, rfl, -, hlc⟩ := hC.form
  obtain ⟨Ao, co, rfl, -, hlo⟩ := hO.form
  obtain ⟨w0, hw0⟩ : ∃ w0, w0 = w.alloc (.cells #[.slice Ad ds.length cd, .slice Ac cs.length cc] 26) := ⟨_, rfl⟩
  have HX0 := hide (show Ext w w0 by rw [hw0]; exact (Ext.refl w).alloc _)
  have k0 : w0.cell? ⟨w.heap.size, 0, none⟩ = some (.slice Ad ds.length cd) := by rw [hw0]; go_simp
  have k1 : w0.cell? ⟨w.heap.size, 1, none⟩ = some (.slice Ac cs.length cc) := by rw [hw0]; go_simp
  have ks : w.heap.size < w0.heap.size := by rw [hw0]; simp
  obtain ⟨ri, hri⟩ : ∃ r, r = lwI ds cs obj := ⟨_, rfl⟩
  obtain ⟨rb, hrb⟩ : ∃ r, r = lwG ds cs obj := ⟨_, rfl⟩
  have HRI := hide hri
  have HRB := hide hrb
  rw [← hri, ← hrb]
  clear hD hC hO hT hri hrb
  go_enter Tryz.func7, Tryz.ntmps7
  go_wp2_with fail
  rw [← hw0]
  clear hw0
  refine (objectiveOk_any _ _ ds obj cs _ (hM0.out.ext HX0.out) (hO0.out.ext HX0.out)).mono ?_
  rintro e w1 ⟨rfl, hx1⟩
  have HX1 := hide (HX0.out.trans hx1)
  have k0 := (hx1.cells _ _ ks).trans k0
  have k1 := (hx1.cells _ _ ks).trans k1
  have ks := Nat.lt_of_lt_of_le ks hx1.size
  clear hx1
  cases hv : vMod ds cs && objB ds obj with
  | false =>
    have HR2 := hide (show ri = 0 by rw [HRI.out, lwI, lwG, hv]; rfl)
    have HB2 := hide (show rb = false by rw [HRB.out, lwG, hv]; rfl)
    clear hv k0 k1
    go_wp2
    go_ret2
    exact Ret.mk (by rw [HR2.out, HB2.out]; rfl) HX1.out
  | true =>
    have hv2 := hv
    simp only [Bool.and_eq_true] at hv2
    obtain ⟨hG, hp, h4⟩ := vMod_good hv2.1
    have ho := hv2.2
    unfold objB at ho
    simp only [Bool.and_eq_true, decide_eq_true_eq] at ho
    have HG := hide hG
    have HOL := hide ho.1
    have HOR := hide ho.2
    have HPG := hide (propL_R hG h4).good
    have HRB2 := hide (show rb = !hasI (propL cs ds) 0 by rw [HRB.out, lwG, hv, Bool.true_and])
    have HRI2 := hide (show ri = (if hasI (propL cs ds) 0 then 0 else lbK obj (propL cs ds) obj.length) by
      rw [HRI.out, lwI, lwG, hv, Bool.true_and, ho.1]
      cases hasI (propL cs ds) 0 <;> rfl)
    clear hv hv2 hG ho
    go_wp2_with fail
    refine (propagate_any _ _ ds ds cs _ (hM0.out.ext HX1.out) (hD0.out.ext HX1.out) HG.out h4 hp).mono ?_
    rintro e w2 ⟨A2, c2, b2, m2, f2, rfl, hc2, hd2, hb2, ho2, hx2⟩
    have HS := hide (SInts.own hc2 hd2 ho2 HPG.out.i64)
    have HX2 := hide (HX1.out.trans hx2)
    obtain ⟨q, hq⟩ : ∃ q, q = propL cs ds := ⟨_, rfl⟩
    rw [← hq] at HS HPG HRB2 HRI2 ⊢
    have hql : q.length = ds.length := HPG.out.1
    have HQL := hide hql
    clear hx2 ho2 hc2 hd2 hb2 hq k0 k1 hql
    go_wp2_with fail
    refine (boundBy_any _ _ q obj cs _ HS.out (hO0.out.ext HX2.out) (by rw [HQL.out]; exact HOL.out) (by rw [HQL.out]; exact HPG.out) HOR.out (by rw [HQL.out]; exact h4) (TzTab.ext HT.out hb HX2.out) (Nat.lt_of_lt_of_le hb HX2.out.size)).mono ?_
    rintro e w3 ⟨rfl, hx3⟩
    have HX3 := hide (HX2.out.trans hx3)
    clear hx3
    rw [← HRI2.out, ← HRB2.out]
    go_wp2
    go_ret2
    exact Ret.mk rfl HX3.out
end Go.Proofs.YtalgilgfoekioaaGreatDoor
/- Minimize and ObjectiveValue of the program. -/
namespace Go.Proofs.YtalgilgfoekioaaGreatDoor
open Go.RowKit

set_option maxHeartbeats 2000000 in
theorem ObjectiveValueI_any (vo vx : Value) (obj x : List Int) (w : World) (hO : SInts w vo obj) (hX : SInts w vx x) (ho : allR obj (-9) 9 = true) (hx : ValL x) (hl : obj.length = x.length) (h4 : x.length ≤ 4) :
    Calls Tryz.prog 9 #[vo, vx] w (Ret (.int .i64 (wsum obj x x.length)) w) := by
  have hO0 := hide hO
  have hX0 := hide hX
  obtain ⟨Ao, co, rfl, -, hlo⟩ := hO.form
  obtain ⟨Ax, cx, rfl, -, hlx⟩ := hX.form
  have HO := hide ho
  have HV := hide hx
  have HL := hide hl
  have HR := hide (show allR x 0 5 = true by
    unfold allR
    rw [List.all_eq_true]
    intro y hy
    obtain ⟨i, hi, e⟩ := List.mem_iff_getElem.1 hy
    have h1 := hx i hi
    unfold at0 at h1
    rw [getD_lt _ _ hi, e] at h1
    simp [inR]
    omega)
  have hne : ((obj.length : Int) != (x.length : Int)) = false := by simp [hl]
  have hm : ¬ (4 : Int) < obj.length := by omega
  have h4o : (obj.length : Int) ≤ 4 := by omega
  clear hO hX ho hx hl
  go_enter Tryz.func9, Tryz.ntmps9
  go_wp2_with fail
  refine (allIn_any _ obj (-9) 9 _ hO0.out).mono ?_
  rintro e w1 ⟨rfl, hx1⟩
  rw [HO.out]
  go_wp2_with fail
  refine (allIn_any _ x 0 5 _ (hX0.out.ext hx1)).mono ?_
  rintro e w2 ⟨rfl, hx2⟩
  rw [HR.out]
  have HX2 := hide (hx1.trans hx2)
  clear hx1 hx2
  go_wp2_with fail
  refine (weighted_any _ _ obj x _ (hO0.out.ext HX2.out) (hX0.out.ext HX2.out) HO.out HV.out HL.out (by omega)).mono ?_
  rintro e w3 ⟨rfl, rfl⟩
  go_wp2
  go_ret
  exact Ret.mk rfl HX2.out
theorem costW_any (v v' : Value) (obj x : List Int) (b : Nat) (w : World) (hb : w.cell? ⟨b, 0, none⟩ = some v) (hO : SInts w v obj) (hS : SInts w v' x) (ho : allR obj (-9) 9 = true) (hx : ValL x) (hl : obj.length = x.length) (h4 : x.length ≤ 100) :
    Calls Tryz.prog 48 #[v', .pointer (some ⟨b, 0, none⟩)] w (Ret (.int .i64 (wsum obj x x.length)) w) := by
  have hO0 := hide hO
  have hS0 := hide hS
  have HO := hide ho
  have HV := hide hx
  have HL := hide hl
  obtain ⟨A, cp, rfl, -⟩ := hO.form
  obtain ⟨A', cp', rfl, -⟩ := hS.form
  clear hO hS ho hx hl
  go_enter Tryz.func48, Tryz.ntmps48
  go_wp2_with fail
  refine (weighted_any _ _ obj x _ hO0.out hS0.out HO.out HV.out HL.out h4).mono ?_
  rintro e w2 ⟨rfl, rfl⟩
  go_wp2
  go_ret
  exact Ret.mk rfl (Ext.refl _)
set_option maxRecDepth 100000 in
set_option maxHeartbeats 4000000 in
theorem minimize_any (v vo : Value) (ds obj : List Int) (cs : List Con) (w : World) (hM : SMod w v ds cs) (hO : SInts w vo obj) (hG : GoodD cs ds.length ds) (h1 : 0 < ds.length) (h4 : ds.length ≤ 4) (hl : obj.length = ds.length) (ho : allR obj (-9) 9 = true) :
    Calls Tryz.prog 22 #[v, vo] w (TwoRes ((bestF (fun x => wsum obj x x.length) (solL cs ds)).getD []) (bestF (fun x => wsum obj x x.length) (solL cs ds)).isSome w) := by
  have hM0 := hide hM
  have hO0 := hide hO
  obtain ⟨vd, vc, rfl, hD, hC⟩ := hM
  obtain ⟨Ad, cd, rfl, -, hld⟩ := hD.form
  obtain ⟨Ac, cc, rfl, -, hlc⟩ := hC.form
  obtain ⟨Ao, co, rfl, -, hlo⟩ := hO.form
  have HG := hide hG
  have HL := hide hl
  have HO := hide ho
  obtain ⟨rs, hrs⟩ : ∃ rs, rs = solL cs ds := ⟨_, rfl⟩
  have HMEM := hide (show ∀ k, k < rs.length → (rw0 rs k).length = ds.length ∧ ValL (rw0 rs k) from fun k hk => by
    rw [hrs] at hk ⊢
    have hm : rw0 (solL cs ds) k ∈ solL cs ds := by rw [rw0, getD_lt _ _ hk]; exact List.getElem_mem hk
    exact tups_val (List.mem_filter.1 hm).1)
  have HSM := hide (show rs.length ≤ 10000 from by
    rw [hrs]
    refine Nat.le_trans (List.length_filter_le _ _) ?_
    have h2 := tups_smallW ds
    have h3 : 6 ^ ds.length ≤ 6 ^ 4 := Nat.pow_le_pow_right (by omega) h4
    omega)
  have HRS := hide hrs
  rw [← hrs]
  obtain ⟨rr, hrr⟩ : ∃ r, r = bestF (fun x => wsum obj x x.length) rs := ⟨_, rfl⟩
  have HRR := hide hrr
  rw [← hrr]
  obtain ⟨w0, hw0⟩ : ∃ w0, w0 = (w.alloc (.cells #[.slice Ad ds.length cd, .slice Ac cs.length cc] 26)).alloc (.cells #[.slice Ao obj.length co] 23) := ⟨_, rfl⟩
  have HX0 := hide (show Ext w w0 by rw [hw0]; exact ((Ext.refl w).alloc _).alloc _)
  have k0 : w0.cell? ⟨w.heap.size, 0, none⟩ = some (.slice Ad ds.length cd) := by rw [hw0]; go_simp
  have k1 : w0.cell? ⟨w.heap.size, 1, none⟩ = some (.slice Ac cs.length cc) := by rw [hw0]; go_simp
  have k2 : w0.cell? ⟨w.heap.size + 1, 0, none⟩ = some (.slice Ao obj.length co) := by rw [hw0]; go_simp
  have ks : w.heap.size + 1 < w0.heap.size := by rw [hw0]; simp
  clear hD hC hO hG hl ho hrs hrr
  go_enter Tryz.func22, Tryz.ntmps22
  go_wp2_with fail
  rw [← hw0]
  clear hw0
  refine (solutions_any _ ds cs _ (hM0.out.ext HX0.out) HG.out h1 h4).mono ?_
  rw [← HRS.out]
  rintro e w1 ⟨As, ca, rfl, hap, hx1⟩
  have k2 := (hx1.cells _ _ ks).trans k2
  have ks := Nat.lt_of_lt_of_le ks hx1.size
  have HX1 := hide (HX0.out.trans hx1)
  have HROWS := hide (hap.rows (by have := HSM.out; omega) (fun i hi => by have := (HMEM.out i hi).1; omega) (fun i hi j hj => by have := (HMEM.out i hi).2 j hj; unfold I64; omega))
  have K2 := hide k2
  clear hap hx1 k0 k1 k2
  go_wp2_with fail
  refine (best_any _ _ 48 #[.pointer (some ⟨w.heap.size + 1, 0, none⟩)] (fun x => wsum obj x x.length) _ HROWS.out (fun k hk => by have := (HMEM.out k hk).1; omega) (fun args W => callFunc_body Tryz.func48 (by kernel_rfl) (by kernel_rfl) args W)
    (hide (fun k hk v' W' hx hS => costW_any _ v' obj _ (w.heap.size + 1) W' ((hx.cells _ _ ks).trans K2.out) (hO0.out.ext (HX1.out.trans hx)) hS HO.out (HMEM.out k hk).2 (by have := (HMEM.out k hk).1; have := HL.out; omega) (by have := (HMEM.out k hk).1; omega)))).mono ?_
  rw [← HRR.out]
  rintro e w2 ⟨v2, rfl, hres⟩
  have HRES := hide (hres.base HX1.out)
  obtain ⟨A5, c5, b5, m5, f5, hv5, -⟩ := hres
  injection hv5 with hv5
  subst hv5
  go_wp2_with fail
  go_ret2
  exact ⟨_, rfl, HRES.out⟩
set_option maxRecDepth 100000 in
set_option maxHeartbeats 4000000 in
theorem MinimizeI_any (v vo : Value) (ds obj : List Int) (cs : List Con) (w : World) (hM : SMod w v ds cs) (hO : SInts w vo obj) :
    Calls Tryz.prog 8 #[v, vo] w (TwoRes ((mnO ds cs obj).getD []) (mnO ds cs obj).isSome w) := by
  have hM0 := hide hM
  have hO0 := hide hO
  obtain ⟨vd, vc, rfl, hD, hC⟩ := hM
  obtain ⟨Ad, cd, rfl, -, hld⟩ := hD.form
  obtain ⟨Ac, cc, rfl, -, hlc⟩ := hC.form
  obtain ⟨Ao, co, rfl, -, hlo⟩ := hO.form
  obtain ⟨w0, hw0⟩ : ∃ w0, w0 = w.alloc (.cells #[.slice Ad ds.length cd, .slice Ac cs.length cc] 26) := ⟨_, rfl⟩
  have HX0 := hide (show Ext w w0 by rw [hw0]; exact (Ext.refl w).alloc _)
  have k0 : w0.cell? ⟨w.heap.size, 0, none⟩ = some (.slice Ad ds.length cd) := by rw [hw0]; go_simp
  have k1 : w0.cell? ⟨w.heap.size, 1, none⟩ = some (.slice Ac cs.length cc) := by rw [hw0]; go_simp
  have ks : w.heap.size < w0.heap.size := by rw [hw0]; simp
  obtain ⟨mo, hmo⟩ : ∃ m, m = mnO ds cs obj := ⟨_, rfl⟩
  have HMO := hide hmo
  rw [← hmo]
  clear hD hC hO hmo
  go_enter Tryz.func8, Tryz.ntmps8
  go_wp2_with fail
  rw [← hw0]
  clear hw0
  refine (objectiveOk_any _ _ ds obj cs _ (hM0.out.ext HX0.out) (hO0.out.ext HX0.out)).mono ?_
  rintro e w1 ⟨rfl, hx1⟩
  have HX1 := hide (HX0.out.trans hx1)
  have k0 := (hx1.cells _ _ ks).trans k0
  have k1 := (hx1.cells _ _ ks).trans k1
  clear hx1
  cases hv : vMod ds cs && objB ds obj with
  | false =>
    have hno : mo = none := by rw [HMO.out, mnO, hv]; rfl
    subst hno
    clear hv k0 k1
    go_wp2
    go_ret2
    exact ⟨_, rfl, OwnRes.nil_ rfl HX1.out⟩
  | true =>
    have hv2 := hv
    simp only [Bool.and_eq_true] at hv2
    obtain ⟨hG, hp, h4⟩ := vMod_good hv2.1
    have ho := hv2.2
    unfold objB at ho
    simp only [Bool.and_eq_true, decide_eq_true_eq] at ho
    have HG := hide hG
    have HOL := hide ho.1
    have HOR := hide ho.2
    have HM2 := hide (show mo = bestF (fun x => wsum obj x x.length) (solL cs ds) by rw [HMO.out, mnO, hv]; rfl)
    clear hv hv2 hG ho
    go_wp2_with fail
    refine (minimize_any _ _ ds obj cs _ (hM0.out.ext HX1.out) (hO0.out.ext HX1.out) HG.out hp h4 HOL.out HOR.out).mono ?_
    rw [← HM2.out]
    rintro e w2 ⟨v2, rfl, hres⟩
    have HRES := hide (hres.base HX1.out)
    obtain ⟨A5, c5, b5, m5, f5, hv5, -⟩ := hres
    injection hv5 with hv5
    subst hv5
    clear k0 k1
    go_wp2_with fail
    go_ret2
    exact ⟨_, rfl, HRES.out⟩
end Go.Proofs.YtalgilgfoekioaaGreatDoor
