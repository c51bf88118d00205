/- Domains in which literals are made true: both sides. -/
import Derived.Test.YtgpbmggfpbebmaaGreatLits
import Derived.Test.YtgpbmggfpbebmaaGreatQ11
import Derived.Test.YtgpbmggfpbebmaaGreatTail
namespace Go.Proofs.YtgpbmggfpbebmaaGreat
open Go.RowKit
attribute [local go_sem] evalOf

/-- The values that make a literal true. -/
def litD (l : Lt) : Int := if l.n = true then 63 - 2 ^ l.v.toNat else 2 ^ l.v.toNat
theorem bits_litD {d : Int} (h0 : 0 ≤ d) (h1 : d ≤ 63) {l : Lt} (hv : l.v.toNat < 6) : bits .and .i64 d (litD l) = andL d l := by
  unfold litD andL
  split
  · have := fin_dv (p := fun d v => bits .and .i64 d (63 - 2 ^ v) == delV d v) (by decide +kernel) h0 h1 hv
    simpa using this
  · exact bits_and h0 h1 hv
theorem bits_litN {v : Nat} (hv : v < 6) : bits .andNot .i64 63 (2 ^ v) = 63 - 2 ^ v := by
  have := fin_dv (p := fun _ v => bits .andNot .i64 63 (2 ^ v) == 63 - 2 ^ v) (by decide +kernel) (Int.le_refl 0) (by omega) hv
  simpa using this
theorem litD_bd {l : Lt} (hv : l.v.toNat < 6) : 0 ≤ litD l ∧ litD l ≤ 63 := by
  have := pow_bd hv
  unfold litD
  split <;> omega
set_option maxHeartbeats 2000000 in
theorem literalDomain_any (l : Lt) (w : World) (h0 : 0 ≤ l.v) (h5 : l.v ≤ 5) :
    Calls Tryz.prog 86 #[.agg #[.int .i64 l.x, .int .i64 l.v, .bool l.n]] w (Ret (.int .i64 (litD l)) w) := by
  obtain ⟨x, v, n⟩ := l
  obtain ⟨y, rfl⟩ : ∃ y : Nat, v = y := ⟨v.toNat, by simp only at h0; omega⟩
  have hy5 : y ≤ 5 := by simp only at h5; omega
  have hpw := pow_bd (show y < 6 by omega)
  have kp : IntKind.i64.wrap (2 ^ y) = 2 ^ y := IntWalk.i64_in _ (by omega)
  have kq : IntKind.i64.wrap (63 - 2 ^ y) = 63 - 2 ^ y := IntWalk.i64_in _ (by omega)
  clear h0 h5
  cases n with
  | true =>
    have HV := hide (show litD ⟨x, y, true⟩ = 63 - 2 ^ y by rw [litD, if_pos rfl, Int.toNat_natCast])
    go_enter Tryz.func86, Tryz.ntmps86
    go_wp2
    try simp only [kp, kq]
    try go_wp2
    go_ret
    exact Ret.mk (ret_i HV.out.symm) ((Ext.refl w).alloc _)
  | false =>
    have HV := hide (show litD ⟨x, y, false⟩ = 2 ^ y by rw [litD, if_neg (by simp), Int.toNat_natCast])
    go_enter Tryz.func86, Tryz.ntmps86
    go_wp2
    try simp only [kp, kq]
    try go_wp2
    go_ret
    exact Ret.mk (ret_i HV.out.symm) ((Ext.refl w).alloc _)
set_option maxHeartbeats 2000000 in
theorem trues_any (l : Lt) (w : World) (h0 : 0 ≤ l.v) (h5 : l.v ≤ 5) :
    Calls Tryz.prog 31 #[.agg #[.int .i64 l.x, .int .i64 l.v, .bool l.n]] w (Ret (.int .i64 (litD l)) w) := by
  obtain ⟨x, v, n⟩ := l
  obtain ⟨y, rfl⟩ : ∃ y : Nat, v = y := ⟨v.toNat, by simp only at h0; omega⟩
  have hy5 : y ≤ 5 := by simp only at h5; omega
  have hpw := pow_bd (show y < 6 by omega)
  have kp : IntKind.i64.wrap (2 ^ y) = 2 ^ y := IntWalk.i64_in _ (by omega)
  have kb := bits_litN (show y < 6 by omega)
  clear h0 h5
  cases n with
  | true =>
    have HV := hide (show litD ⟨x, y, true⟩ = 63 - 2 ^ y by rw [litD, if_pos rfl, Int.toNat_natCast])
    go_enter Tryz.func31, Tryz.ntmps31
    go_wp2
    try simp only [kp, kb]
    try go_wp2
    go_ret
    exact Ret.mk (ret_i HV.out.symm) ((Ext.refl w).alloc _)
  | false =>
    have HV := hide (show litD ⟨x, y, false⟩ = 2 ^ y by rw [litD, if_neg (by simp), Int.toNat_natCast])
    go_enter Tryz.func31, Tryz.ntmps31
    go_wp2
    try simp only [kp, kb]
    try go_wp2
    go_ret
    exact Ret.mk (ret_i HV.out.symm) ((Ext.refl w).alloc _)
section
variable {cs : List Con} {n : Nat}
theorem lt_nat {ls : List Lt} {n : Nat} (hc : okCl ls n = true) {k : Nat} (hk : k < ls.length) : ∃ x : Nat, ltX ls k = x ∧ x < n ∧ 0 ≤ (lt0 ls k).v ∧ (lt0 ls k).v ≤ 5 := by
  obtain ⟨x, v, hx, hv, hxn, hv6⟩ := okCl_lt hc hk
  refine ⟨x, hx, hxn, ?_, ?_⟩ <;> (show _ ≤ _; unfold ltV at hv; omega)
/-- Domains: so many, each within 0 .. 63. -/
def DomN (n : Nat) (ds : List Int) : Prop := ds.length = n ∧ ∀ i, i < n → 0 ≤ at0 ds i ∧ at0 ds i ≤ 63
theorem DomN.set {ds : List Int} (h : DomN n ds) (x : Nat) {d : Int} (hd : 0 ≤ d ∧ d ≤ 63) : DomN n (ds.set x d) := by
  refine ⟨by rw [List.length_set]; exact h.1, fun i hi => ?_⟩
  by_cases hx : x < ds.length
  · rw [at0_set _ _ _ _ hx]
    split
    · exact hd
    · exact h.2 i hi
  · rw [List.set_eq_of_length_le (by omega)]; exact h.2 i hi
theorem resC_dom {ds : List Int} (h : DomN n ds) {ls : List Lt} (hc : okCl ls n = true) : ∀ k, k ≤ ls.length → DomN n (resC ds ls k)
  | 0, _ => h
  | k + 1, hk => by
    have h1 := resC_dom h hc k (by omega)
    obtain ⟨x, hx, hxn, hv0, hv5⟩ := lt_nat hc (k := k) (by omega)
    have hd := h1.2 x hxn
    rw [resC, hx, Int.toNat_natCast]
    exact h1.set x (andL_bd hd.1 hd.2 (by omega))
end
set_option maxRecDepth 100000 in
set_option maxHeartbeats 4000000 in
theorem restricted_any (v vl : Value) (ds : List Int) (ls : List Lt) (n : Nat) (w : World) (hS : SInts w v ds) (hL : SLt w vl ls) (hD : DomN n ds) (hok : okCl ls n = true) (h0 : 0 < n) (h4 : n ≤ 4) :
    Calls Tryz.prog 68 #[v, vl] w (OwnRes (resCL ds ls) w) := by
  have hS0 := hide hS
  have hL0 := hide hL
  have HOK := hide hok
  have HD := hide hD
  obtain rfl : ds.length = n := hD.1
  obtain ⟨Ad, cd, rfl, -, hld⟩ := hS.form
  obtain ⟨Al, cl, rfl, -, hll⟩ := hL.form
  have hl12 := okCl_len hok
  clear hS hL hok hD
  go_enter Tryz.func68, Tryz.ntmps68
  go_wp2_with fail
  refine (copied_any _ ds _ hS0.out).mono ?_
  rintro e w1 ⟨A1, c1, b1, m1, f1, rfl, hc1, hd1, hb1, ho1, hx1⟩
  obtain ⟨rfl, hr1, hm1, hf1⟩ := ho1 (by omega)
  have hbl := hr1.lt
  have HRS := hide (show RowS w1 b1 m1 (resC ds ls 0) from ⟨f1, hr1, hm1, hf1⟩)
  have HX1 := hide hx1
  clear ho1 hr1 hm1 hf1 hx1 hd1
  go_wp2
  go_loopw [12] (fun i wr => ∃ t : Nat, i = .int .i64 t ∧ t ≤ ls.length ∧ Ext w wr ∧ RowS wr b1 m1 (resC ds ls t)) (fun i _ => ls.length - (intOf i).toNat)
  case atStart => exact ⟨0, rfl, Nat.zero_le _, HX1.out, HRS.out⟩
  case round =>
    obtain ⟨t, rfl, ht, hxt, hrt⟩ := hrel
    have HXT := hide hxt
    obtain ⟨q, hq⟩ : ∃ q, q = resC ds ls t := ⟨_, rfl⟩
    have HQ := hide hq
    have hqd := resC_dom HD.out HOK.out t ht
    rw [← hq] at hrt hqd
    have HRT := hide hrt
    have HQD := hide hqd
    have hql := hqd.1
    clear hrt hq hqd hxt
    by_cases htl : t < ls.length
    · have htI : (t : Int) < ls.length := by omega
      obtain ⟨b, off, rfl, hbr, f1, f2, f3⟩ := (hL0.out.ext HXT.out).at_ htl
      obtain ⟨x, hx, hxn, hv0, hv5⟩ := lt_nat HOK.out htl
      have hxI : (x : Int) < ds.length := by omega
      rw [hx] at f1
      have HNX0 := hide hx
      clear hx
      obtain ⟨f, hr, hm', hf⟩ := HRT.out
      have fx := hr.cell (i := x) (by omega)
      rw [hf x (by omega)] at fx
      have fz := hr.frozen x
      have hbw := hr.lt
      have hdb := HQD.out.2 x hxn
      obtain ⟨d, hd⟩ : ∃ d, d = at0 q x := ⟨_, rfl⟩
      rw [← hd] at fx hdb
      have HNX := hide (show resC ds ls (t + 1) = q.set x (andL d (lt0 ls t)) by rw [resC, ← HQ.out, HNX0.out, Int.toNat_natCast, hd])
      obtain ⟨y, hy⟩ : ∃ y, y = litD (lt0 ls t) := ⟨_, rfl⟩
      have HY := hide hy
      have kb := bits_litD hdb.1 hdb.2 (l := lt0 ls t) (by omega)
      rw [← hy] at kb
      have HV := hide (And.intro hv0 hv5)
      obtain ⟨z, hz⟩ : ∃ z, z = andL d (lt0 ls t) := ⟨_, rfl⟩
      rw [← hz] at kb HNX
      have hxq : x < q.length := by omega
      clear hr hf hd hy hz hv0 hv5
      go_wp2_with fail
      obtain ⟨u, hu⟩ : ∃ u, u = wr.alloc (.cells #[.int .i64 x, .int .i64 (ltV ls t), .bool (ltN ls t)] 56) := ⟨_, rfl⟩
      have hxu : Ext wr u := by rw [hu]; exact (Ext.refl wr).alloc _
      have z0 : u.cell? ⟨wr.heap.size, 0, none⟩ = some (.int .i64 x) := by rw [hu]; go_simp
      have z1 : u.cell? ⟨wr.heap.size, 1, none⟩ = some (.int .i64 (ltV ls t)) := by rw [hu]; go_simp
      have z2 : u.cell? ⟨wr.heap.size, 2, none⟩ = some (.bool (ltN ls t)) := by rw [hu]; go_simp
      have zs : wr.heap.size < u.heap.size := by rw [hu]; simp
      have fz := (hxu.frz _ _ hbw).trans fz
      have fx := (hxu.cells _ _ hbw).trans fx
      have hbw := Nat.lt_of_lt_of_le hbw hxu.size
      have HXT := hide (HXT.out.trans hxu)
      have HRT := hide (HRT.out.ext hxu)
      rw [← hu]
      clear hu hxu f1 f2 f3
      refine wp_region_ext_tail 9 (by kernel_rfl) (by kernel_rfl) ?_
      simp only [List.take_succ_cons, List.take_zero, List.drop_succ_cons, List.drop_zero]
      iterate 6 (apply quiet_val; (focus rfl); (focus (intro w' hw'; have hk' := hw'.cells; go_simp; all_goals exact rfl)); simp only [Act.put, List.setIfInBounds_toArray, List.set_cons_succ, List.set_cons_zero])
      apply quiet_call; (focus rfl); (focus (intro w' hw'; go_simp; all_goals (first | exact rfl | (apply And.intro <;> exact rfl))))
      · exact fun w' hw' => Ret.quiet ((trues_any ⟨x, ltV ls t, ltN ls t⟩ w' HV.out.1 HV.out.2).mono fun e w2 h => by rw [show litD ⟨x, ltV ls t, ltN ls t⟩ = y from HY.out.symm] at h; exact h) hw'
      (simp only [Act.put, List.setIfInBounds_toArray, List.set_cons_succ, List.set_cons_zero])
      iterate 2 (apply quiet_val; (focus rfl); (focus (intro w' hw'; have hk' := hw'.cells; go_simp; all_goals exact rfl)); simp only [Act.put, List.setIfInBounds_toArray, List.set_cons_succ, List.set_cons_zero])
      refine wpQuiet_nil ?_
      intro w5 hx5
      have HX5 := hide (HXT.out.trans hx5)
      have HRT5 := hide (HRT.out.ext hx5)
      have fz := (hx5.frz _ _ hbw).trans fz
      have fx := (hx5.cells _ _ hbw).trans fx
      clear hx5 z0 z1 z2
      try simp only [kb]
      go_wp2
      go_roundw
      case rel => exact ⟨t + 1, by go_num, by omega, HX5.out.set (p := ⟨b1, x, none⟩) hb1 _, by rw [HNX.out]; exact HRT5.out.set x _ hxq⟩
      case measure => simp [intOf]; omega
    · obtain rfl : t = ls.length := by omega
      have htI : ¬ ((ls.length : Int) < ls.length) := by omega
      have hlr : (resCL ds ls).length = ds.length := by rw [resCL, ← HQ.out]; omega
      have HE := hide (show OwnRes (resCL ds ls) w (.returned (.slice (some ⟨b1, 0, none⟩) ds.length c1)) wr by
        have := HRT.out.own (w := w) (c := c1) (by omega) (by omega) hb1 HXT.out
        rw [HQ.out, show resC ds ls ls.length = resCL ds ls from rfl, hlr] at this
        exact this)
      go_wp2
      go_ret
      exact HE.out
end Go.Proofs.YtgpbmggfpbebmaaGreat
