/- One clause's propagation: the reference's walk. -/
import Derived.Test.YtgpbmggfpbebmaaGreatRstL
import Derived.Test.YtgpbmggfpbebmaaGreatClsL
import Derived.Test.YtgpbmggfpbebmaaGreatRfS
import Derived.Test.YtgpbmggfpbebmaaGreatRedA
namespace Go.Proofs.YtgpbmggfpbebmaaGreat
open Go.RowKit
attribute [local go_sem] evalOf

theorem cntO_two (ds : List Int) (ls : List Lt) {k : Nat} (hk : k < ls.length) (h1 : cntO ds ls k = 1) (ho : opB ds ls k = true) : unitL ds ls = ds := by
  have h2 : cntO ds ls (k + 1) = 2 := by rw [cntO, if_pos ho, h1]
  have h3 := cntO_mono ds ls (k + 1) (ls.length - (k + 1))
  rw [show k + 1 + (ls.length - (k + 1)) = ls.length by omega] at h3
  rw [unitL, if_neg (by omega), if_neg (by omega)]
theorem unitL_zero {ds : List Int} {ls : List Lt} (h : cntO ds ls ls.length = 0) : unitL ds ls = zer ds.length := by rw [unitL, if_pos h]
theorem unitL_one {ds : List Int} {ls : List Lt} (h : cntO ds ls ls.length = 1) : unitL ds ls = ds.set (ltX ls (lastO ds ls ls.length)).toNat (andL (at0 ds (ltX ls (lastO ds ls ls.length)).toNat) (lt0 ls (lastO ds ls ls.length))) := by
  rw [unitL, if_neg (by omega), if_pos h]
theorem unitL_many {ds : List Int} {ls : List Lt} (h0 : cntO ds ls ls.length ≠ 0) (h1 : cntO ds ls ls.length ≠ 1) : unitL ds ls = ds := by rw [unitL, if_neg h0, if_neg h1]
set_option maxRecDepth 100000 in
set_option maxHeartbeats 8000000 in
theorem clauseFilter_any (v vl : Value) (ds : List Int) (ls : List Lt) (n : Nat) (w : World) (hS : SInts w v ds) (hL : SLt w vl ls) (hD : DomN n ds) (hok : okCl ls n = true) (h0 : 0 < n) (h4 : n ≤ 4) :
    Calls Tryz.prog 57 #[vl, v] w (OwnRes (unitL ds ls) w) := by
  have hS0 := hide hS
  have hL0 := hide hL
  have HOK := hide hok
  have HD := hide hD
  obtain rfl : ds.length = n := hD.1
  obtain ⟨Ad, cd, rfl, -, hld⟩ := hS.form
  obtain ⟨Al, cl, rfl, -, hll⟩ := hL.form
  have hl12 := okCl_len hok
  clear hS hL hok hD
  go_enter Tryz.func57, Tryz.ntmps57
  go_wp2_with fail
  refine (copyInts_any _ ds _ hS0.out (by omega)).mono ?_
  rintro e w1 ⟨A1, c1, b1, m1, f1, rfl, hc1, hd1, hb1, ho1, hx1⟩
  obtain ⟨rfl, hr1, hm1, hf1⟩ := ho1 (by omega)
  have hbl := hr1.lt
  have HRS := hide (show RowS w1 b1 m1 ds from ⟨f1, hr1, hm1, hf1⟩)
  have HX1 := hide hx1
  clear ho1 hr1 hm1 hf1 hx1 hd1
  go_wp2
  go_loopw [6, 7] (fun f i wr => ∃ t : Nat, i = .int .i64 t ∧ t ≤ ls.length ∧ Ext w1 wr ∧ ((f = .int .i64 (-1) ∧ cntO ds ls t = 0) ∨ (f = .int .i64 (lastO ds ls t) ∧ cntO ds ls t = 1))) (fun _ i _ => ls.length - (intOf i).toNat)
  case atStart => exact ⟨0, rfl, Nat.zero_le _, Ext.refl _, .inl ⟨rfl, rfl⟩⟩
  case round =>
    obtain ⟨t, rfl, ht, hxt, hrel⟩ := hrel
    have HXT := hide hxt
    have HXW := hide (HX1.out.trans hxt)
    clear hxt
    by_cases htl : t < ls.length
    · have htI : (t : Int) < ls.length := by omega
      obtain ⟨b, off, rfl, hbr, f1, f2, f3⟩ := (hL0.out.ext HXW.out).at_ htl
      obtain ⟨x, hx, hxn, hv0, hv5⟩ := lt_nat HOK.out htl
      have hxI : (x : Int) < ds.length := by omega
      rw [hx] at f1
      obtain ⟨bd, od, rfl, hbd, fx⟩ := (hS0.out.ext HXW.out).at_ hxn
      have hdb := HD.out.2 x hxn
      obtain ⟨d, hd⟩ : ∃ d, d = at0 ds x := ⟨_, rfl⟩
      rw [← hd] at fx hdb
      obtain ⟨y, hy⟩ : ∃ y, y = litD (lt0 ls t) := ⟨_, rfl⟩
      have HY := hide hy
      have kb := bits_litD hdb.1 hdb.2 (l := lt0 ls t) (by omega)
      rw [← hy] at kb
      have HV := hide (And.intro hv0 hv5)
      have HOP := hide (show opB ds ls t = (andL d (lt0 ls t) != 0) by rw [opB, hx, Int.toNat_natCast, ← hd]; rfl)
      obtain ⟨z, hz⟩ : ∃ z, z = andL d (lt0 ls t) := ⟨_, rfl⟩
      rw [← hz] at kb HOP
      have HR := hide hrel
      clear hd hy hz hv0 hv5 hx hrel
      go_wp2
      refine wp_region_ext (by kernel_rfl) (by kernel_rfl) ?_
      iterate 12 (apply quiet_val; (focus rfl); (focus (intro w' hw'; have hk' := hw'.cells; go_simp; all_goals exact rfl)); simp only [Act.put, List.setIfInBounds_toArray, List.set_cons_succ, List.set_cons_zero])
      apply quiet_call; (focus rfl); (focus (intro w' hw'; go_simp; all_goals (first | exact rfl | (apply And.intro <;> exact rfl))))
      · exact fun w' hw' => Ret.quiet ((literalDomain_any ⟨x, ltV ls t, ltN ls t⟩ w' HV.out.1 HV.out.2).mono fun e w2 h => by rw [show litD ⟨x, ltV ls t, ltN ls t⟩ = y from HY.out.symm] at h; exact h) hw'
      (simp only [Act.put, List.setIfInBounds_toArray, List.set_cons_succ, List.set_cons_zero])
      (apply quiet_val; (focus rfl); (focus (intro w' hw'; have hk' := hw'.cells; go_simp; all_goals exact rfl)); simp only [Act.put, List.setIfInBounds_toArray, List.set_cons_succ, List.set_cons_zero])
      refine quiet_val (.bool (z != 0)) rfl (fun w' hw' => ?_) ?_
      · go_simp
      (simp only [Act.put, List.setIfInBounds_toArray, List.set_cons_succ, List.set_cons_zero])
      refine wpQuiet_nil ?_
      intro w5 hx5
      have HXT5 := hide (HXT.out.trans hx5)
      rw [← HOP.out]
      clear hx5 f1 f2 f3 fx kb
      cases ho : opB ds ls t with
      | false =>
        have hcs : cntO ds ls (t + 1) = cntO ds ls t ∧ lastO ds ls (t + 1) = lastO ds ls t := by rw [cntO, lastO, ho]; exact ⟨if_neg (by simp), if_neg (by simp)⟩
        have HCS := hide hcs
        clear ho hcs
        go_wp2
        go_roundw
        case rel => exact ⟨t + 1, by go_num, by omega, HXT5.out, by rw [HCS.out.1, HCS.out.2]; exact HR.out⟩
        case measure => simp [intOf]; omega
      | true =>
        have HO := hide ho
        clear ho
        rcases HR.out with ⟨rfl, hc0⟩ | ⟨rfl, hc1'⟩
        · have HCS := hide (show cntO ds ls (t + 1) = 1 ∧ lastO ds ls (t + 1) = t by rw [cntO, lastO, if_pos HO.out, if_pos HO.out, hc0]; exact ⟨rfl, rfl⟩)
          clear hc0
          go_wp2
          go_roundw
          case rel => exact ⟨t + 1, by go_num, by omega, HXT5.out, .inr ⟨by rw [HCS.out.2], HCS.out.1⟩⟩
          case measure => simp [intOf]; omega
        · have HU := hide (cntO_two ds ls htl hc1' HO.out)
          have hge : (0 : Int) ≤ (lastO ds ls t : Nat) := by omega
          obtain ⟨q, hq⟩ : ∃ q, q = lastO ds ls t := ⟨_, rfl⟩
          rw [← hq] at hge ⊢
          have HRT := hide ((HRS.out.ext HXT5.out).own (w := w) (c := c1) hc1 (by omega) hb1 (HX1.out.trans HXT5.out))
          clear hc1' hq HR
          go_wp2
          go_ret
          rw [HU.out]
          exact HRT.out
    · obtain rfl : t = ls.length := by omega
      have htI : ¬ ((ls.length : Int) < ls.length) := by omega
      rcases hrel with ⟨rfl, hc0⟩ | ⟨rfl, hc1'⟩
      · have HU := hide (unitL_zero hc0)
        clear hc0
        go_wp2_with (at_make; go_must (refine wpList_make_gen _ rfl _ _ 23 rfl 3 (.int .i64 0) 1 8 Tryz.underlying23 Tryz.infoI .i64 .i64 ds.length rfl rfl (by omega) (by omega) (fun _ => .int .i64 0) (fun i _ => by simp [Value.cells, Nat.mod_one]) ?_); intro w3 hrow3 hsz3 hx3; rw [Nat.mul_one] at hrow3; have HROW := hide hrow3; have HX3 := hide hx3; clear hrow3 hx3 hsz3)
        go_ret
        rw [HU.out]
        exact zer_own HROW.out HXW.out.size (HXW.out.trans HX3.out) h4
      · have HU := hide (unitL_one hc1')
        have hlt := lastO_lt ds ls ls.length (by omega)
        obtain ⟨t, htt⟩ : ∃ t, t = lastO ds ls ls.length := ⟨_, rfl⟩
        rw [← htt] at HU hlt ⊢
        have hti : (t : Int) < ls.length := by omega
        have hnn : ¬ ((t : Int) < 0) := by omega
        obtain ⟨b, off, rfl, hbr, f1, f2, f3⟩ := (hL0.out.ext HXW.out).at_ hlt
        obtain ⟨x, hx, hxn, hv0, hv5⟩ := lt_nat HOK.out hlt
        have hxI : (x : Int) < ds.length := by omega
        rw [hx] at f1
        have HRT := hide (HRS.out.ext HXT.out)
        obtain ⟨f, hr, hm', hf⟩ := HRT.out
        have fx := hr.cell (i := x) (by omega)
        rw [hf x (by omega)] at fx
        have fz := hr.frozen x
        have hbw := hr.lt
        have hdb := HD.out.2 x hxn
        obtain ⟨d, hd⟩ : ∃ d, d = at0 ds x := ⟨_, rfl⟩
        rw [← hd] at fx hdb
        have HNX := hide (show unitL ds ls = ds.set x (andL d (lt0 ls t)) by rw [HU.out, hx, Int.toNat_natCast, hd])
        obtain ⟨y, hy⟩ : ∃ y, y = litD (lt0 ls t) := ⟨_, rfl⟩
        have HY := hide hy
        have kb := bits_litD hdb.1 hdb.2 (l := lt0 ls t) (by omega)
        rw [← hy] at kb
        have HV := hide (And.intro hv0 hv5)
        obtain ⟨z, hz⟩ : ∃ z, z = andL d (lt0 ls t) := ⟨_, rfl⟩
        rw [← hz] at kb HNX
        clear hr hf hd hy hz hv0 hv5 hc1' htt hx HU
        go_wp2
        refine wp_region_ext_tail 21 (by kernel_rfl) (by kernel_rfl) ?_
        simp only [List.take_succ_cons, List.take_zero, List.drop_succ_cons, List.drop_zero]
        iterate 18 (apply quiet_val; (focus rfl); (focus (intro w' hw'; have hk' := hw'.cells; go_simp; all_goals exact rfl)); simp only [Act.put, List.setIfInBounds_toArray, List.set_cons_succ, List.set_cons_zero])
        apply quiet_call; (focus rfl); (focus (intro w' hw'; go_simp; all_goals (first | exact rfl | (apply And.intro <;> exact rfl))))
        · exact fun w' hw' => Ret.quiet ((literalDomain_any ⟨x, ltV ls t, ltN ls t⟩ w' HV.out.1 HV.out.2).mono fun e w2 h => by rw [show litD ⟨x, ltV ls t, ltN ls t⟩ = y from HY.out.symm] at h; exact h) hw'
        (simp only [Act.put, List.setIfInBounds_toArray, List.set_cons_succ, List.set_cons_zero])
        iterate 2 (apply quiet_val; (focus rfl); (focus (intro w' hw'; have hk' := hw'.cells; go_simp; all_goals exact rfl)); simp only [Act.put, List.setIfInBounds_toArray, List.set_cons_succ, List.set_cons_zero])
        refine wpQuiet_nil ?_
        intro w5 hx5
        have HX5 := hide (HXW.out.trans hx5)
        have HRT5 := hide (HRT.out.ext hx5)
        have fz := (hx5.frz _ _ hbw).trans fz
        have fx := (hx5.cells _ _ hbw).trans fx
        have hsl : (ds.set x z).length = ds.length := List.length_set
        have HSL := hide hsl
        clear hx5 f1 f2 f3 hsl
        try simp only [kb]
        go_wp2
        go_ret
        have hres := (HRT5.out.set x z hxn).own (w := w) (c := c1) (by rw [HSL.out]; exact hc1) (by rw [HSL.out]; omega) hb1 (HX5.out.set (p := ⟨b1, x, none⟩) hb1 _)
        rw [HSL.out] at hres
        rw [HNX.out]
        exact hres
end Go.Proofs.YtgpbmggfpbebmaaGreat
/- One clause's propagation, and a round with clauses: the program's walk. -/
namespace Go.Proofs.YtgpbmggfpbebmaaGreat
open Go.RowKit
attribute [local go_sem] evalOf

set_option maxRecDepth 100000 in
set_option maxHeartbeats 4000000 in
theorem limM_any (vd : Value) (ds : List Int) (i : Nat) (m z : Int) (w : World) (hD : SInts w vd ds) (hi : i < ds.length) (hz : bits .and .i64 (at0 ds i) m = z) :
    Calls Tryz.prog 79 #[vd, .int .i64 i, .int .i64 m] w (OwnRes (ds.set i z) w) := by
  have HZ := hide hz
  obtain ⟨Ad, cd, rfl, -, hld⟩ := hD.form
  have hD0 := hide hD
  have hiI : (i : Int) < ds.length := by omega
  clear hD hz
  go_enter Tryz.func79, Tryz.ntmps79
  go_wp2_with fail
  refine (copied_any _ ds _ hD0.out).mono ?_
  rintro e w1 ⟨A1, c1, b1, m1, f1, rfl, hc1, hd1, hb1, ho1, hx1⟩
  obtain ⟨rfl, hr1, hm1, hf1⟩ := ho1 (by omega)
  have HR := hide (show RowS w1 b1 m1 ds from ⟨f1, hr1, hm1, hf1⟩)
  have HX1 := hide hx1
  have fc := hr1.cell (i := i) (by omega)
  rw [hf1 i hi] at fc
  have fz := hr1.frozen i
  obtain ⟨d, hd⟩ : ∃ d, d = at0 ds i := ⟨_, rfl⟩
  have kb := HZ.out
  rw [← hd] at fc kb
  have hsl : (ds.set i z).length = ds.length := List.length_set
  have HE := hide (show OwnRes (ds.set i z) w (.returned (.slice (some ⟨b1, 0, none⟩) ds.length c1)) (w1.setCell ⟨b1, i, none⟩ (.int .i64 z)) by
    have := (HR.out.set i z hi).own (w := w) (c := c1) (by rw [hsl]; exact hc1) (by rw [hsl]; exact hd1) hb1 (HX1.out.set (p := ⟨b1, i, none⟩) hb1 _)
    rw [hsl] at this
    exact this)
  clear hx1 ho1 hr1 hf1 hd hsl
  go_wp2
  go_ret
  exact HE.out
theorem rowL_one {w : World} {b : Nat} {t : TypeId} {l l' : Lt} (h : w.rowIs b t 3 (lcell [l] 1)) : (((w.setCell ⟨b, 0, none⟩ (.int .i64 l'.x)).setCell ⟨b, 1, none⟩ (.int .i64 l'.v)).setCell ⟨b, 2, none⟩ (.bool l'.n)).rowIs b t 3 (lcell [l'] 1) := by
  refine (((h.set 0 _).set 1 _).set 2 _).congr fun j hj => ?_
  match j, hj with
  | 0, _ => rfl
  | 1, _ => rfl
  | 2, _ => rfl
set_option maxRecDepth 100000 in
set_option maxHeartbeats 8000000 in
theorem unit_any (v vl : Value) (ds : List Int) (ls : List Lt) (n : Nat) (w : World) (hS : SInts w v ds) (hL : SLt w vl ls) (hD : DomN n ds) (hok : okCl ls n = true) (h0 : 0 < n) (h4 : n ≤ 4) :
    Calls Tryz.prog 50 #[vl, v] w (OwnRes (unitL ds ls) w) := by
  have hS0 := hide hS
  have hL0 := hide hL
  have HOK := hide hok
  have HD := hide hD
  obtain rfl : ds.length = n := hD.1
  obtain ⟨Ad, cd, rfl, -, hld⟩ := hS.form
  obtain ⟨Al, cl, rfl, -, hll⟩ := hL.form
  have hl12 := okCl_len hok
  clear hS hL hok hD
  go_enter Tryz.func50, Tryz.ntmps50
  go_wp2_with fail
  obtain ⟨u, hu⟩ : ∃ u, u = w.alloc (.cells #[.int .i64 0, .int .i64 0, .bool false] 56) := ⟨_, rfl⟩
  have HU := hide (show Ext w u by rw [hu]; exact (Ext.refl w).alloc _)
  have HRU := hide (show u.rowIs w.heap.size 56 3 (lcell [⟨0, 0, false⟩] 1) by
    rw [hu]
    exact World.rowIs_alloc w #[.int .i64 0, .int .i64 0, .bool false] _ _ fun i hi => by
      match i, hi with
      | 0, _ => rfl
      | 1, _ => rfl
      | 2, _ => rfl)
  rw [← hu]
  clear hu
  go_loopw [6, 12] (fun c i wr => ∃ (t : Nat) (l : Lt), i = .int .i64 t ∧ t ≤ ls.length ∧ Ext w wr ∧ c = .int .i64 (cntO ds ls t) ∧ wr.rowIs w.heap.size 56 3 (lcell [l] 1) ∧ (0 < cntO ds ls t → l = lt0 ls (lastO ds ls t))) (fun _ i _ => ls.length - (intOf i).toNat)
  case atStart => exact ⟨0, ⟨0, 0, false⟩, rfl, Nat.zero_le _, HU.out, rfl, HRU.out, fun h => by simp [cntO] at h⟩
  case round =>
    obtain ⟨t, l, rfl, ht, hxt, rfl, hrow, hlast⟩ := hrel
    have HXW := hide hxt
    have HROW := hide hrow
    have HLS := hide hlast
    have hcn := cntO_le ds ls t
    clear hxt hrow hlast
    by_cases htl : t < ls.length
    · have htI : (t : Int) < ls.length := by omega
      obtain ⟨b, off, rfl, hbr, f1, f2, f3⟩ := (hL0.out.ext HXW.out).at_ htl
      obtain ⟨x, hx, hxn, hv0, hv5⟩ := lt_nat HOK.out htl
      have hxI : (x : Int) < ds.length := by omega
      rw [hx] at f1
      obtain ⟨c, hc⟩ : ∃ c, c = cntO ds ls t := ⟨_, rfl⟩
      have HC := hide hc
      rw [← hc] at hcn ⊢
      have hdb := HD.out.2 x hxn
      obtain ⟨d, hd⟩ : ∃ d, d = at0 ds x := ⟨_, rfl⟩
      have HDE := hide hd
      rw [← hd] at hdb
      obtain ⟨y, hy⟩ : ∃ y, y = litD (lt0 ls t) := ⟨_, rfl⟩
      have HY := hide hy
      have kb := bits_litD hdb.1 hdb.2 (l := lt0 ls t) (by omega)
      rw [← hy] at kb
      have HV := hide (And.intro hv0 hv5)
      have HOP := hide (show opB ds ls t = (andL d (lt0 ls t) != 0) by rw [opB, hx, Int.toNat_natCast, ← hd]; rfl)
      obtain ⟨z, hz⟩ : ∃ z, z = andL d (lt0 ls t) := ⟨_, rfl⟩
      rw [← hz] at kb HOP
      have HX := hide hx
      clear hd hy hz hv0 hv5 hx hc
      go_wp2_with fail
      obtain ⟨u, hu⟩ : ∃ u, u = wr.alloc (.cells #[.int .i64 x, .int .i64 (ltV ls t), .bool (ltN ls t)] 56) := ⟨_, rfl⟩
      have hxu : Ext wr u := by rw [hu]; exact (Ext.refl wr).alloc _
      have z0 : u.cell? ⟨wr.heap.size, 0, none⟩ = some (.int .i64 x) := by rw [hu]; go_simp
      have z1 : u.cell? ⟨wr.heap.size, 1, none⟩ = some (.int .i64 (ltV ls t)) := by rw [hu]; go_simp
      have z2 : u.cell? ⟨wr.heap.size, 2, none⟩ = some (.bool (ltN ls t)) := by rw [hu]; go_simp
      have zs : wr.heap.size < u.heap.size := by rw [hu]; simp
      have HXU := hide (HXW.out.trans hxu)
      have HRW := hide (hxu.row HROW.out)
      obtain ⟨bd, od, rfl, hbd, fx⟩ := (hS0.out.ext HXU.out).at_ hxn
      rw [← HDE.out] at fx
      rw [← hu]
      clear hu hxu f1 f2 f3
      refine wp_region_ext (by kernel_rfl) (by kernel_rfl) ?_
      iterate 6 (apply quiet_val; (focus rfl); (focus (intro w' hw'; have hk' := hw'.cells; go_simp; all_goals exact rfl)); simp only [Act.put, List.setIfInBounds_toArray, List.set_cons_succ, List.set_cons_zero])
      apply quiet_call; (focus rfl); (focus (intro w' hw'; go_simp; all_goals (first | exact rfl | (apply And.intro <;> exact rfl))))
      · exact fun w' hw' => Ret.quiet ((trues_any ⟨x, ltV ls t, ltN ls t⟩ w' HV.out.1 HV.out.2).mono fun e w2 h => by rw [show litD ⟨x, ltV ls t, ltN ls t⟩ = y from HY.out.symm] at h; exact h) hw'
      (simp only [Act.put, List.setIfInBounds_toArray, List.set_cons_succ, List.set_cons_zero])
      (apply quiet_val; (focus rfl); (focus (intro w' hw'; have hk' := hw'.cells; go_simp; all_goals exact rfl)); simp only [Act.put, List.setIfInBounds_toArray, List.set_cons_succ, List.set_cons_zero])
      refine quiet_val (.bool (z != 0)) rfl (fun w' hw' => ?_) ?_
      · go_simp
      (simp only [Act.put, List.setIfInBounds_toArray, List.set_cons_succ, List.set_cons_zero])
      refine wpQuiet_nil ?_
      intro w5 hx5
      have HX5 := hide (HXU.out.trans hx5)
      have hr5 := hx5.row HRW.out
      have z0 := (hx5.cells _ _ zs).trans z0
      have z1 := (hx5.cells _ _ zs).trans z1
      have z2 := (hx5.cells _ _ zs).trans z2
      have zs := Nat.lt_of_lt_of_le zs hx5.size
      have c0 := hr5.cell (i := 0) (by omega)
      have c1 := hr5.cell (i := 1) (by omega)
      have c2 := hr5.cell (i := 2) (by omega)
      have y0 := hr5.frozen 0
      have y1 := hr5.frozen 1
      have y2 := hr5.frozen 2
      have HR5 := hide hr5
      rw [← HOP.out]
      clear hx5 fx kb hr5
      cases ho : opB ds ls t with
      | false =>
        have HCS := hide (show cntO ds ls (t + 1) = c ∧ lastO ds ls (t + 1) = lastO ds ls t by rw [cntO, lastO, ho, HC.out]; exact ⟨if_neg (by simp), if_neg (by simp)⟩)
        clear ho
        go_wp2
        go_roundw
        case rel => exact ⟨t + 1, l, by go_num, by omega, HX5.out, by rw [HCS.out.1], HR5.out, by rw [HCS.out.1, HCS.out.2, HC.out]; exact HLS.out⟩
        case measure => simp [intOf]; omega
      | true =>
        have HCS := hide (show cntO ds ls (t + 1) = c + 1 ∧ lastO ds ls (t + 1) = t by rw [cntO, lastO, if_pos ho, if_pos ho, HC.out]; exact ⟨rfl, rfl⟩)
        have HR6 := hide (rowL_one (l' := ⟨x, ltV ls t, ltN ls t⟩) HR5.out)
        clear ho
        go_wp2
        go_roundw
        case rel =>
          refine ⟨t + 1, ⟨x, ltV ls t, ltN ls t⟩, by go_num, by omega, ((HX5.out.set (p := ⟨w.heap.size, _, none⟩) (Nat.le_refl _) _).set (p := ⟨w.heap.size, _, none⟩) (Nat.le_refl _) _).set (p := ⟨w.heap.size, _, none⟩) (Nat.le_refl _) _, by rw [HCS.out.1]; go_num, HR6.out, fun _ => ?_⟩
          rw [HCS.out.2]
          show (⟨x, (lt0 ls t).v, (lt0 ls t).n⟩ : Lt) = lt0 ls t
          rw [← show ltX ls t = (x : Int) from HX.out]; rfl
        case measure => simp [intOf]; omega
    · obtain rfl : t = ls.length := by omega
      have htI : ¬ ((ls.length : Int) < ls.length) := by omega
      obtain ⟨c, hc⟩ : ∃ c, c = cntO ds ls ls.length := ⟨_, rfl⟩
      have HC := hide hc
      rw [← hc] at hcn ⊢
      by_cases e0 : c = 0
      · subst e0
        have HUL := hide (unitL_zero HC.out.symm)
        clear hc
        go_wp2_with (at_make; go_must (refine wpList_make_gen _ rfl _ _ 23 rfl 3 (.int .i64 0) 1 8 Tryz.underlying23 Tryz.infoI .i64 .i64 ds.length rfl rfl (by omega) (by omega) (fun _ => .int .i64 0) (fun i _ => by simp [Value.cells, Nat.mod_one]) ?_); intro w3 hrow3 hsz3 hx3; rw [Nat.mul_one] at hrow3; have HROW3 := hide hrow3; have HX3 := hide hx3; clear hrow3 hx3 hsz3)
        go_ret
        rw [HUL.out]
        exact zer_own HROW3.out HXW.out.size (HXW.out.trans HX3.out) h4
      by_cases e1 : c = 1
      · subst e1
        have hlt := lastO_lt ds ls ls.length (by omega)
        obtain ⟨t, htt⟩ : ∃ t, t = lastO ds ls ls.length := ⟨_, rfl⟩
        have HUL := hide (unitL_one HC.out.symm)
        have HLE := hide (HLS.out (by omega))
        rw [← htt] at HUL hlt HLE
        obtain ⟨x, hx, hxn, hv0, hv5⟩ := lt_nat HOK.out hlt
        have hxI : (x : Int) < ds.length := by omega
        have hrow := HROW.out
        rw [HLE.out] at hrow
        have c0 := hrow.cell (i := 0) (by omega)
        have c1 := hrow.cell (i := 1) (by omega)
        have c2 := hrow.cell (i := 2) (by omega)
        rw [show lcell [lt0 ls t] 1 0 = .int .i64 x from by rw [← hx]; rfl] at c0
        rw [show lcell [lt0 ls t] 1 1 = .int .i64 (ltV ls t) from rfl] at c1
        rw [show lcell [lt0 ls t] 1 2 = .bool (ltN ls t) from rfl] at c2
        have hbw := hrow.lt
        have hdb := HD.out.2 x hxn
        obtain ⟨y, hy⟩ : ∃ y, y = litD (lt0 ls t) := ⟨_, rfl⟩
        have HY := hide hy
        have KB := hide (show bits .and .i64 (at0 ds x) y = andL (at0 ds x) (lt0 ls t) by rw [hy]; exact bits_litD hdb.1 hdb.2 (by omega))
        have HV := hide (And.intro hv0 hv5)
        have HNX := hide (show unitL ds ls = ds.set x (andL (at0 ds x) (lt0 ls t)) by rw [HUL.out, hx, Int.toNat_natCast])
        clear hc hrow hy hx hv0 hv5 hdb htt
        go_wp2
        refine wp_region_ext_tail 5 (by kernel_rfl) (by kernel_rfl) ?_
        simp only [List.take_succ_cons, List.take_zero, List.drop_succ_cons, List.drop_zero]
        iterate 4 (apply quiet_val; (focus rfl); (focus (intro w' hw'; have hk' := hw'.cells; go_simp; all_goals exact rfl)); simp only [Act.put, List.setIfInBounds_toArray, List.set_cons_succ, List.set_cons_zero])
        apply quiet_call; (focus rfl); (focus (intro w' hw'; go_simp; all_goals (first | exact rfl | (apply And.intro <;> exact rfl))))
        · exact fun w' hw' => Ret.quiet ((trues_any ⟨x, ltV ls t, ltN ls t⟩ w' HV.out.1 HV.out.2).mono fun e w2 h => by rw [show litD ⟨x, ltV ls t, ltN ls t⟩ = y from HY.out.symm] at h; exact h) hw'
        (simp only [Act.put, List.setIfInBounds_toArray, List.set_cons_succ, List.set_cons_zero])
        refine wpQuiet_nil ?_
        intro w5 hx5
        have HX5 := hide (HXW.out.trans hx5)
        clear hx5 c0 c1 c2
        go_wp2_with fail
        refine (limM_any _ ds x y _ _ (hS0.out.ext HX5.out) hxn KB.out).mono ?_
        rintro e w6 hres
        have hsl : (ds.set x (andL (at0 ds x) (lt0 ls t))).length = ds.length := List.length_set
        have HRES := hide (show OwnRes (unitL ds ls) w e w6 by rw [HNX.out]; exact OwnRes.from hres HX5.out)
        obtain ⟨A3, c3, b3, m3, f3, rfl, -⟩ := hres
        rw [hsl] at HRES ⊢
        clear hsl
        go_wp2
        go_ret
        exact HRES.out
      · have HUL := hide (unitL_many (ds := ds) (ls := ls) (by rw [← hc]; exact e0) (by rw [← hc]; exact e1))
        have d0 : ¬ ((c : Int) = 0) := by omega
        have d1 : ¬ ((c : Int) = 1) := by omega
        clear hc
        go_wp2_with fail
        refine (copied_any _ ds _ (hS0.out.ext HXW.out)).mono ?_
        rintro e w6 hres
        have HRES := hide (show OwnRes (unitL ds ls) w e w6 by rw [HUL.out]; exact OwnRes.from hres HXW.out)
        obtain ⟨A3, c3, b3, m3, f3, rfl, -⟩ := hres
        go_wp2
        go_ret
        exact HRES.out
end Go.Proofs.YtgpbmggfpbebmaaGreat
/- Propagation with clauses: the program's and the reference's walks. -/
namespace Go.Proofs.YtgpbmggfpbebmaaGreat
open Go.RowKit
attribute [local go_sem] evalOf

set_option maxRecDepth 100000 in
set_option maxHeartbeats 8000000 in
theorem with1C_any (Ae Ac : Option Addr) (ce cc bm bc : Nat) (v' vcl : Value) (D now : List Int) (cs : List Con) (cls : List (List Lt)) (w : World) (hm0 : w.cell? ⟨bm, 0, none⟩ = some (.slice Ae D.length ce)) (hm1 : w.cell? ⟨bm, 1, none⟩ = some (.slice Ac cs.length cc))
    (hc0 : w.cell? ⟨bc, 0, none⟩ = some vcl) (hbc : bc < w.heap.size) (hCL : SCls w vcl cls) (hok : ∀ i, i < cls.length → okCl (cl0 cls i) now.length = true)
    (hM : SMod w (.agg #[.slice Ae D.length ce, .slice Ac cs.length cc]) D cs) (hS : SInts w v' now) (hG : GoodD cs now.length now) (h4 : now.length ≤ 4) (h1 : 0 < now.length) :
    Calls Tryz.prog 49 #[v', .pointer (some ⟨bm, 0, none⟩), .pointer (some ⟨bc, 0, none⟩)] w (OwnRes (stC cs cls now) w) := by
  have hM0 := hide hM
  have hS0 := hide hS
  have hCL0 := hide hCL
  have HG := hide hG
  have HOK := hide hok
  obtain ⟨An, cn, rfl, -, hln⟩ := hS.form
  obtain ⟨Al, cl, rfl, -, hll⟩ := hCL.form
  have C0 := hide hc0
  obtain ⟨n, hn⟩ : ∃ n, n = now.length := ⟨_, rfl⟩
  have HN := hide hn
  obtain ⟨P, hP⟩ : ∃ P, P = propL cs now := ⟨_, rfl⟩
  have HP := hide hP
  have HGP := hide (show GoodD cs n P by rw [hP, hn]; exact (propL_R hG h4).good)
  clear hM hS hG hCL hok hP
  go_enter Tryz.func49, Tryz.ntmps49
  go_wp2_with fail
  refine (propagate_any _ _ D now cs _ hM0.out hS0.out HG.out h4 h1).mono ?_
  rintro e w1 hres
  rw [← HP.out] at hres
  have HX1 := hide (OwnRes.ext0 hres)
  have hc0 := (HX1.out.cells _ _ hbc).trans C0.out
  have hbc := Nat.lt_of_lt_of_le hbc HX1.out.size
  have HRES := hide hres
  obtain ⟨A1, c1, b1, m1, f1, rfl, -⟩ := hres
  have hPl := HGP.out.1
  rw [hPl] at HRES ⊢
  rw [← hn] at h4 h1
  clear hm0 hm1 hPl hn
  go_wp2
  go_loopw [0, 12] (fun x i wr => ∃ j : Nat, i = .int .i64 j ∧ j ≤ cls.length ∧ OwnRes (clK cls P j) w (.returned x) wr) (fun _ i _ => cls.length - (intOf i).toNat)
  case atStart => exact ⟨0, rfl, Nat.zero_le _, HRES.out⟩
  case round =>
    obtain ⟨j, rfl, hj, hres⟩ := hrel
    have hgj := (clK_good HGP.out (fun i hi => by rw [HN.out]; exact HOK.out i hi) j hj).1
    have HGJ := hide hgj
    obtain ⟨A, c, rfl⟩ := hres.form
    have HRJ := hide hres
    have HX := hide (OwnRes.ext0 hres)
    have HS := hide (hres.ints hgj.i64)
    have hjl := hgj.1
    rw [hjl] at HRJ HS ⊢
    clear hgj hres
    by_cases hlt : j < cls.length
    · have hjI : (j : Int) < cls.length := by omega
      obtain ⟨b, off, A', c', rfl, hbl, f1, hrow⟩ := (hCL0.out.ext HX.out).at_ hlt
      have HOJ := hide (show okCl (cl0 cls j) n = true by rw [HN.out]; exact HOK.out j hlt)
      have HNX := hide (show clK cls P (j + 1) = unitL (clK cls P j) (cl0 cls j) from rfl)
      have HRW := hide hrow
      clear hrow hjl
      go_wp2_with fail
      refine (unit_any _ _ (clK cls P j) (cl0 cls j) n _ HS.out HRW.out HGJ.out.dom HOJ.out h1 h4).mono ?_
      rintro e w6 hres
      have HR6 := hide (show OwnRes (clK cls P (j + 1)) w e w6 by rw [HNX.out]; exact OwnRes.from hres HX.out)
      obtain ⟨A3, c3, b3, m3, f3, rfl, -⟩ := hres
      obtain ⟨L, hL⟩ : ∃ L, L = (unitL (clK cls P j) (cl0 cls j)).length := ⟨_, rfl⟩
      have HR6 := hide (show OwnRes (clK cls P (j + 1)) w (.returned (.slice A3 L c3)) w6 by rw [hL]; exact HR6.out)
      rw [← hL]
      clear hL
      go_wp2
      go_roundw
      case rel => exact ⟨j + 1, by go_num, by omega, HR6.out⟩
      case measure => simp [intOf]; omega
    · obtain rfl : j = cls.length := by omega
      have hjI : ¬ ((cls.length : Int) < cls.length) := by omega
      have HE := hide (show stC cs cls now = clK cls P cls.length by rw [stC, HP.out])
      clear hjl
      go_wp2
      go_ret
      rw [HE.out]
      exact HRJ.out
set_option maxRecDepth 100000 in
set_option maxHeartbeats 4000000 in
theorem withC_any (v vcl vd : Value) (D ds : List Int) (cs : List Con) (cls : List (List Lt)) (w : World) (hM : SMod w v D cs) (hCL : SCls w vcl cls) (hok : ∀ i, i < cls.length → okCl (cl0 cls i) ds.length = true) (hD : SInts w vd ds) (hG : GoodD cs ds.length ds) (h4 : ds.length ≤ 4) (h1 : 0 < ds.length) :
    Calls Tryz.prog 19 #[v, vcl, vd] w (OwnRes (cluL cs cls ds) w) := by
  have hM0 := hide hM
  have hD0 := hide hD
  have hCL0 := hide hCL
  have HG := hide hG
  have HOK := hide hok
  obtain ⟨ve, vc, rfl, hE, hC⟩ := hM
  obtain ⟨Ae, ce, rfl, -, hle⟩ := hE.form
  obtain ⟨Ac, cc, rfl, -, hlc⟩ := hC.form
  obtain ⟨Ad, cd, rfl, -, hld⟩ := hD.form
  obtain ⟨Al, cl, rfl, -, hll⟩ := hCL.form
  obtain ⟨w0, hw0⟩ : ∃ w0, w0 = (w.alloc (.cells #[.slice Ae D.length ce, .slice Ac cs.length cc] 26)).alloc (.cells #[.slice Al cls.length cl] 27) := ⟨_, rfl⟩
  have hx0 : Ext w w0 := by rw [hw0]; exact ((Ext.refl w).alloc _).alloc _
  have hs0 : w0.heap.size = w.heap.size + 2 := by rw [hw0]; simp
  have K0 := hide (show w0.cell? ⟨w.heap.size, 0, none⟩ = some (.slice Ae D.length ce) by rw [hw0]; go_simp)
  have K1 := hide (show w0.cell? ⟨w.heap.size, 1, none⟩ = some (.slice Ac cs.length cc) by rw [hw0]; go_simp)
  have K2 := hide (show w0.cell? ⟨w.heap.size + 1, 0, none⟩ = some (.slice Al cls.length cl) by rw [hw0]; go_simp)
  have ks : w.heap.size < w0.heap.size := by omega
  have kt : w.heap.size + 1 < w0.heap.size := by omega
  have HX0 := hide hx0
  clear hE hC hD hG hx0 hCL hok
  go_enter Tryz.func19, Tryz.ntmps19
  go_wp2_with fail
  rw [← hw0]
  clear hw0
  refine (fixpointC_any _ ds 49 #[.pointer (some ⟨w.heap.size, 0, none⟩), .pointer (some ⟨w.heap.size + 1, 0, none⟩)] (stC cs cls) (GoodD cs ds.length) _ (hD0.out.ext HX0.out) HG.out (stC_ok h4 HOK.out) h4 h1 (fun args W => callFunc_body Tryz.func49 (by kernel_rfl) (by kernel_rfl) args W)
    (hide fun now v' W hW hS hgn => (with1C_any Ae Ac ce cc w.heap.size (w.heap.size + 1) v' _ D now cs cls W ((hW.cells _ _ ks).trans K0.out) ((hW.cells _ _ ks).trans K1.out) ((hW.cells _ _ kt).trans K2.out) (Nat.lt_of_lt_of_le kt hW.size) (hCL0.out.ext (HX0.out.trans hW)) (by rw [hgn.1]; exact HOK.out) (hM0.out.ext (HX0.out.trans hW)) hS (by rw [hgn.1]; exact hgn) (by rw [hgn.1]; exact h4) (by rw [hgn.1]; exact h1)).mono (fun _ _ h => .inl h))).mono ?_
  rintro e w2 hres
  have HRES := hide (show OwnRes (cluL cs cls ds) w e w2 from OwnRes.from hres HX0.out)
  obtain ⟨A3, c3, b3, m3, f3, rfl, -⟩ := hres
  obtain ⟨L, hL⟩ : ∃ L, L = (fixL (stC cs cls) 300 ds).length := ⟨_, rfl⟩
  rw [← hL]
  have HRES := hide (show OwnRes (cluL cs cls ds) w (.returned (.slice A3 L c3)) w2 by rw [hL]; exact HRES.out)
  clear hL
  go_wp2
  go_ret
  exact HRES.out
set_option maxRecDepth 100000 in
set_option maxHeartbeats 16000000 in
theorem clauseFixpoint_any (v vcl vd : Value) (D ds : List Int) (cs : List Con) (cls : List (List Lt)) (w : World) (hM : SMod w v D cs) (hCL : SCls w vcl cls) (hok : ∀ i, i < cls.length → okCl (cl0 cls i) ds.length = true) (hD : SInts w vd ds) (hG : GoodD cs ds.length ds) (h4 : ds.length ≤ 4) (h1 : 0 < ds.length) :
    Calls Tryz.prog 22 #[v, vcl, vd] w (OwnRes (cluL cs cls ds) w) := by
  have hM0 := hide hM
  have hD0 := hide hD
  have hCL0 := hide hCL
  obtain ⟨ve, vc, rfl, hE, hC⟩ := hM
  have HG := hide hG
  obtain ⟨A1, c1, rfl, -, hle⟩ := hE.form
  obtain ⟨Ac, cc, rfl, -, hlc⟩ := hC.form
  obtain ⟨Ad, cd, rfl, -, hld⟩ := hD.form
  obtain ⟨Al, cl, rfl, -, hll⟩ := hCL.form
  obtain ⟨w0, hw0⟩ : ∃ w0, w0 = w.alloc (.cells #[.slice A1 D.length c1, .slice Ac cs.length cc] 26) := ⟨_, rfl⟩
  have hx0 : Ext w w0 := by rw [hw0]; exact (Ext.refl w).alloc _
  have K0 := hide (show w0.cell? ⟨w.heap.size, 0, none⟩ = some (.slice A1 D.length c1) by rw [hw0]; go_simp)
  have K1 := hide (show w0.cell? ⟨w.heap.size, 1, none⟩ = some (.slice Ac cs.length cc) by rw [hw0]; go_simp)
  have ks : w.heap.size < w0.heap.size := by rw [hw0]; simp
  have HX0 := hide hx0
  obtain ⟨n, hn⟩ : ∃ n, n = ds.length := ⟨_, rfl⟩
  have HN := hide hn
  have HOK := hide (show ∀ i, i < cls.length → okCl (cl0 cls i) n = true by rw [hn]; exact hok)
  obtain ⟨st, hst⟩ : ∃ st, st = stC cs cls := ⟨_, rfl⟩
  have HST := hide (show StOK st (GoodD cs n) n by rw [hst, hn]; exact stC_ok h4 hok)
  have HSTE := hide hst
  have HCL := hide (show cluL cs cls ds = fixL st 300 ds by rw [hst]; rfl)
  clear hE hC hD hx0 hG hCL hok hst
  go_enter Tryz.func22, Tryz.ntmps22
  go_wp2_with fail
  rw [← hw0]
  clear hw0
  refine (copyInts_any _ ds _ (hD0.out.ext HX0.out) h1).mono ?_
  rintro e w1 ⟨A1', c1', b1, m1, f1, rfl, hc1, hb1, hn1, ho1, hx1⟩
  have HO := hide (show OwnRes ds w0 (.returned (.slice A1' n c1')) w1 from by rw [hn]; exact ⟨A1', c1', b1, m1, f1, rfl, hc1, hb1, hn1, ho1, hx1⟩)
  have HG2 := hide (show GoodD cs n ds by rw [hn]; exact HG.out)
  rw [← hn] at h4 h1 ⊢
  clear hn ho1 hx1 hb1 hn1 hc1
  go_wp2_with fail
  go_loopg [7] 300 (fun gk v wr => ∃ now : List Int, OwnRes now w0 (.returned v) wr ∧ GoodD cs n now ∧ fixL st gk now = cluL cs cls ds ∧ sumL now < gk)
  case atStart => exact ⟨ds, HO.out, HG2.out, HCL.out.symm, by have := sumL_bd ds HG2.out.2.1; have := HN.out; omega⟩
  case round =>
    obtain ⟨now, how, hgn, hit, hsum⟩ := hrel
    obtain ⟨A, cc2, rfl⟩ := how.form
    have HOW := hide how
    have HGN := hide hgn
    have HIT := hide hit
    have HS := hide (how.ints hgn.i64)
    have hx := how.ext0
    have HX := hide hx
    have k0 := (hx.cells _ _ ks).trans K0.out
    have k1 := (hx.cells _ _ ks).trans K1.out
    have hsb := (sumL_bd now hgn.2.1).1
    obtain ⟨k, rfl⟩ : ∃ k, gk = k + 1 := ⟨gk - 1, by omega⟩
    have hnl : now.length = n := hgn.1
    rw [hnl] at HS HOW ⊢
    clear hgn hit hx how
    go_wp2_with fail
    refine (fixpointS_any _ _ D now cs _ (hM0.out.ext (HX0.out.trans HX.out)) HS.out (by rw [hnl]; exact HGN.out) (by rw [hnl]; exact h4) (by rw [hnl]; exact h1)).mono ?_
    rintro e w3 hres
    obtain ⟨P, hP⟩ : ∃ P, P = propL cs now := ⟨_, rfl⟩
    have HGP := hide (show GoodD cs n P by rw [hP]; exact (propL_R HGN.out h4).good)
    have HNX := hide (show st now = clK cls P cls.length by rw [HSTE.out, stC, hP])
    rw [← hP] at hres
    have hsl : P.length = n := HGP.out.1
    have HO3 := hide (show OwnRes P w0 e w3 from OwnRes.from hres HX.out)
    have HX13 := hide (OwnRes.ext0 hres)
    obtain ⟨A3, c3, b3, m3, f3, rfl, -⟩ := hres
    rw [hsl] at HO3 ⊢
    clear hP hsl k0 k1
    go_wp2_with fail
    go_loopw [8, 9] (fun x i wr => ∃ j : Nat, i = .int .i64 j ∧ j ≤ cls.length ∧ Ext w3 wr ∧ OwnRes (clK cls P j) w0 (.returned x) wr) (fun _ i _ => cls.length - (intOf i).toNat)
    case atStart => exact ⟨0, rfl, Nat.zero_le _, Ext.refl _, HO3.out⟩
    case round =>
      obtain ⟨j, rfl, hj, hxj, hres⟩ := hrel
      have hgj := (clK_good HGP.out HOK.out j hj).1
      have HGJ := hide hgj
      obtain ⟨A4, c4, rfl⟩ := hres.form
      have HRJ := hide hres
      have HXJ := hide hxj
      have HX0J := hide (HX0.out.trans (OwnRes.ext0 hres))
      have HS4 := hide (hres.ints hgj.i64)
      have hjl := hgj.1
      rw [hjl] at HRJ HS4 ⊢
      clear hgj hres hxj
      by_cases hlt : j < cls.length
      · have hjI : (j : Int) < cls.length := by omega
        obtain ⟨b, off, A', c', rfl, hbl, f1, hrow⟩ := (hCL0.out.ext HX0J.out).at_ hlt
        have HOJ := hide (HOK.out j hlt)
        have HNX1 := hide (show clK cls P (j + 1) = unitL (clK cls P j) (cl0 cls j) from rfl)
        have HRW := hide hrow
        clear hrow hjl
        go_wp2_with fail
        refine (clauseFilter_any _ _ (clK cls P j) (cl0 cls j) n _ HS4.out HRW.out HGJ.out.dom HOJ.out h1 h4).mono ?_
        rintro e w6 hres
        have HX6 := hide (HXJ.out.trans (OwnRes.ext0 hres))
        have HR6 := hide (show OwnRes (clK cls P (j + 1)) w0 e w6 by rw [HNX1.out]; exact OwnRes.from hres (OwnRes.ext0 HRJ.out))
        obtain ⟨A5, c5, b5, m5, f5, rfl, -⟩ := hres
        obtain ⟨L, hL⟩ : ∃ L, L = (unitL (clK cls P j) (cl0 cls j)).length := ⟨_, rfl⟩
        have HR6 := hide (show OwnRes (clK cls P (j + 1)) w0 (.returned (.slice A5 L c5)) w6 by rw [hL]; exact HR6.out)
        rw [← hL]
        clear hL
        go_wp2
        go_roundw
        case rel => exact ⟨j + 1, by go_num, by omega, HX6.out, HR6.out⟩
        case measure => simp [intOf]; omega
      · obtain rfl : j = cls.length := by omega
        have hjI : ¬ ((cls.length : Int) < cls.length) := by omega
        obtain ⟨nx, hnx⟩ : ∃ nx, nx = clK cls P cls.length := ⟨_, rfl⟩
        rw [← hnx] at HRJ HS4 HGJ HNX hjl
        have HSN := hide (show SInts wr (.slice A n cc2) now from HS.out.ext (HX13.out.trans HXJ.out))
        have HOWN := hide (HOW.out.grow (HX13.out.trans HXJ.out))
        clear hnx
        cases he : hasI nx 0 with
        | true =>
          have HE := hide (show cluL cs cls ds = zer n by rw [← HIT.out]; exact ref_empty HST.out HGN.out hsum (by rw [HNX.out]; exact he))
          have HH := hide he
          clear he hjl
          go_wp2_with (first | (go_at_call 58; refine (hasEmpty_any _ nx _ HS4.out).mono ?_; rintro e w' ⟨rfl, rfl⟩; rw [HH.out]) | (at_make; go_must (refine wpList_make_gen _ rfl _ _ 23 rfl 3 (.int .i64 0) 1 8 Tryz.underlying23 Tryz.infoI .i64 .i64 n rfl rfl (by omega) (by omega) (fun _ => .int .i64 0) (fun i _ => by simp [Value.cells, Nat.mod_one]) ?_); intro w7 hrow3 hsz3 hx3; rw [Nat.mul_one] at hrow3; have HROW := hide hrow3; have HX7 := hide hx3; clear hrow3 hx3 hsz3))
          go_ret
          rw [HE.out]
          exact zer_own HROW.out HX0J.out.size (HX0J.out.trans HX7.out) h4
        | false =>
          have HH := hide he
          by_cases hne : nx = now
          · have HE := hide (show cluL cs cls ds = now by rw [← HIT.out]; exact ref_full (by rw [HNX.out]; exact he) (by rw [HNX.out]; exact hne))
            have HEQ := hide (show decide (nx = now) = true from decide_eq_true hne)
            clear he hne hjl
            go_wp2_with (go_at_call 58; refine (hasEmpty_any _ nx _ HS4.out).mono ?_; rintro e w' ⟨rfl, rfl⟩; rw [HH.out])
            refine (equalIntsS_any _ _ nx now _ HS4.out HSN.out).mono ?_
            rintro e w8 ⟨rfl, hx8⟩
            have HX8 := hide hx8
            rw [HEQ.out]
            clear hx8
            go_wp2
            go_ret
            rw [HE.out]
            exact (HOWN.out.grow HX8.out).from HX0.out
          · have HE := hide (ref_on HST.out HGN.out hsum (by rw [HNX.out]; exact he) (by rw [HNX.out]; exact hne))
            have HEQ := hide (show decide (nx = now) = false from decide_eq_false hne)
            clear he hne hjl
            go_wp2_with (go_at_call 58; refine (hasEmpty_any _ nx _ HS4.out).mono ?_; rintro e w' ⟨rfl, rfl⟩; rw [HH.out])
            refine (equalIntsS_any _ _ nx now _ HS4.out HSN.out).mono ?_
            rintro e w8 ⟨rfl, hx8⟩
            have HX8 := hide hx8
            rw [HEQ.out]
            clear hx8
            go_wp2
            go_roundg k
            case measure => omega
            case rel => exact ⟨nx, HRJ.out.grow HX8.out, HGJ.out, by rw [← HIT.out, HE.out.1, HNX.out], by have := HE.out.2; rw [HNX.out] at this; exact this⟩
end Go.Proofs.YtgpbmggfpbebmaaGreat
/- PropagateClauses: whether clauses are valid, and the results of both sides. -/
namespace Go.Proofs.YtgpbmggfpbebmaaGreat
open Go.RowKit
attribute [local go_sem] evalOf

/-- f answers as p at the clauses. -/
def OnCls (f : Nat) (caps : Array Value) (cls : List (List Lt)) (p : Nat → Bool) (w : World) : Prop :=
  ∀ i, i < cls.length → ∀ v W, Ext w W → SLt W v (cl0 cls i) → Calls Tryz.prog f (#[v] ++ caps) W (Ret (.bool (p i)) W)
set_option maxHeartbeats 1000000 in
theorem IndexFuncL_any (v : Value) (cls : List (List Lt)) (g : Nat) (caps : Array Value) (p : Nat → Bool) (w : World) (hS : SCls w v cls)
    (hg : ∀ args W, (callFunc g args).run Tryz.prog W = .ok (.enter g args) W) (hp : Hid (OnCls g caps cls p w)) :
    Calls Tryz.prog 76 #[v, .func (.func g) #[] caps] w (Ret (.int .i64 (fidx p cls.length)) w) := by
  have hS0 := hide hS
  obtain ⟨A, cp, rfl, hl, hlen⟩ := hS.form
  clear hS
  go_enter Tryz.func76, Tryz.ntmps76
  go_wp2
  go_loopw [8] (fun i wr => ∃ k : Nat, k ≤ cls.length ∧ i = .int .i64 k ∧ (∀ j, j < k → p j = false) ∧ Ext w wr) (fun i _ => cls.length - (intOf i).toNat)
  case atStart => exact ⟨0, Nat.zero_le _, rfl, fun j hj => absurd hj (by omega), Ext.refl w⟩
  case round =>
    obtain ⟨k, hk, rfl, hv, hx⟩ := hrel
    have Hv := hide hv; clear hv
    by_cases hlt : k < cls.length
    · obtain ⟨b, off, A', c', rfl, hbl, f1, hrow⟩ := (hS0.out.ext hx).at_ hlt
      have S1 := hide hrow
      clear hrow
      by_cases hpk : p k = true
      · go_wp2_with fail
        refine (hp.out k hlt _ _ hx S1.out).mono ?_
        rintro e w2 ⟨rfl, hx2⟩
        go_wp2
        go_ret
        exact Ret.mk (ret_i (fidx_some hlt hpk Hv.out).symm) (hx.trans hx2)
      · have hpk' : p k = false := Bool.eq_false_iff.2 hpk
        clear hpk
        go_wp2_with fail
        refine (hp.out k hlt _ _ hx S1.out).mono ?_
        rintro e w2 ⟨rfl, hx2⟩
        go_wp2
        go_roundw
        case rel => exact ⟨k + 1, by omega, by go_num, upto_succ Hv.out hpk', hx.trans hx2⟩
        case measure => simp [intOf]; omega
    · have hkl : k = cls.length := by omega
      subst hkl
      go_wp2
      go_ret
      exact Ret.mk (ret_i (fidx_none Hv.out).symm) hx
theorem ContainsFuncL_any (v : Value) (cls : List (List Lt)) (g : Nat) (caps : Array Value) (p : Nat → Bool) (w : World) (hS : SCls w v cls)
    (hg : ∀ args W, (callFunc g args).run Tryz.prog W = .ok (.enter g args) W) (hp : Hid (OnCls g caps cls p w)) :
    Calls Tryz.prog 46 #[v, .func (.func g) #[] caps] w (Ret (.bool (anyB p cls.length)) w) := by
  go_enter Tryz.func46, Tryz.ntmps46
  go_wp2_with fail
  refine (IndexFuncL_any v cls g caps p w hS hg hp).mono ?_
  rintro e w2 ⟨rfl, hx2⟩
  go_wp2
  go_ret
  exact Ret.mk (ret_b (fidx_any p _)) hx2
def cbB (ls : List Lt) (n : Int) : Bool := inR n 1 4 && okCl ls n
theorem proofOk1_any (v : Value) (ls : List Lt) (n : Int) (bn : Nat) (w : World) (hS : SLt w v ls) (hn0 : 0 ≤ n) (hn1 : n ≤ 140737488355328) (hm : w.cell? ⟨bn, 0, none⟩ = some (.int .i64 n)) :
    Calls Tryz.prog 47 #[v, .pointer (some ⟨bn, 0, none⟩)] w (Ret (.bool (!cbB ls n)) w) := by
  have hS0 := hide hS
  obtain ⟨A, c, rfl, -, hll⟩ := hS.form
  clear hS
  go_enter Tryz.func47, Tryz.ntmps47
  go_wp2_with fail
  refine (ValidClauseI_any _ ls n _ hS0.out hn0 hn1).mono ?_
  rintro e w2 ⟨rfl, hx2⟩
  have HX := hide hx2
  rw [show (inR n 1 4 && okCl ls n) = cbB ls n from rfl]
  clear hx2
  go_wp2
  go_ret
  exact Ret.mk rfl HX.out
set_option maxHeartbeats 2000000 in
theorem proofOk_any (v : Value) (cls : List (List Lt)) (n : Int) (w : World) (hS : SCls w v cls) (hn0 : 0 ≤ n) (hn1 : n ≤ 140737488355328) :
    Calls Tryz.prog 18 #[.int .i64 n, v] w (Ret (.bool (decide (cls.length ≤ 200) && !anyB (fun i => !cbB (cl0 cls i) n) cls.length)) w) := by
  have hS0 := hide hS
  obtain ⟨A, c, rfl, -, hll⟩ := hS.form
  clear hS
  obtain ⟨w0, hw0⟩ : ∃ w0, w0 = w.alloc (.cells #[.int .i64 n] 3) := ⟨_, rfl⟩
  have HX0 := hide (show Ext w w0 by rw [hw0]; exact (Ext.refl w).alloc _)
  have K0 := hide (show w0.cell? ⟨w.heap.size, 0, none⟩ = some (.int .i64 n) by rw [hw0]; go_simp)
  have ks : w.heap.size < w0.heap.size := by rw [hw0]; simp
  by_cases h200 : cls.length ≤ 200
  · have h2I : (cls.length : Int) ≤ 200 := by omega
    have HV := hide (show (decide (cls.length ≤ 200) && !anyB (fun i => !cbB (cl0 cls i) n) cls.length) = !anyB (fun i => !cbB (cl0 cls i) n) cls.length by rw [decide_eq_true h200, Bool.true_and])
    clear h200
    go_enter Tryz.func18, Tryz.ntmps18
    go_wp2_with fail
    rw [← hw0]
    clear hw0
    refine (ContainsFuncL_any _ cls 47 #[.pointer (some ⟨w.heap.size, 0, none⟩)] (fun i => !cbB (cl0 cls i) n) _ (hS0.out.ext HX0.out) (callFunc_body Tryz.func47 (by decide) rfl)
      (hide fun i hi v W hW hs => proofOk1_any v (cl0 cls i) n w.heap.size W hs hn0 hn1 ((hW.cells _ _ ks).trans K0.out))).mono ?_
    rintro e w3 ⟨rfl, hx3⟩
    have HX3 := hide (HX0.out.trans hx3)
    clear hx3
    go_wp2
    go_ret
    exact Ret.mk (ret_b HV.out.symm) HX3.out
  · have h2I : ¬ (cls.length : Int) ≤ 200 := by omega
    have HV := hide (show (decide (cls.length ≤ 200) && !anyB (fun i => !cbB (cl0 cls i) n) cls.length) = false by rw [decide_eq_false h200, Bool.false_and])
    clear h200
    go_enter Tryz.func18, Tryz.ntmps18
    go_wp2_with fail
    go_ret
    exact Ret.mk (ret_b HV.out.symm) (by rw [← hw0]; exact HX0.out)
set_option maxHeartbeats 2000000 in
theorem validProof_any (v : Value) (cls : List (List Lt)) (n : Int) (w : World) (hS : SCls w v cls) (hn0 : 0 ≤ n) (hn1 : n ≤ 140737488355328) :
    Calls Tryz.prog 21 #[v, .int .i64 n] w (Ret (.bool (okCls cls n)) w) := by
  have hS0 := hide hS
  obtain ⟨A, cp, rfl, hl, hlen⟩ := hS.form
  clear hS
  go_enter Tryz.func21, Tryz.ntmps21
  go_wp2
  go_loopw [5] (fun i wr => ∃ k : Nat, k ≤ cls.length ∧ i = .int .i64 k ∧ (∀ j, j < k → (!okCl (cl0 cls j) n) = false) ∧ Ext w wr) (fun i _ => cls.length - (intOf i).toNat)
  case atStart => exact ⟨0, Nat.zero_le _, rfl, fun j hj => absurd hj (by omega), Ext.refl w⟩
  case round =>
    obtain ⟨k, hk, rfl, hv, hx⟩ := hrel
    have Hv := hide hv
    have HX := hide hx
    clear hv hx
    by_cases hlt : k < cls.length
    · have hkI : (k : Int) < cls.length := by omega
      obtain ⟨b, off, A', c', rfl, hbl, f1, hrow⟩ := (hS0.out.ext HX.out).at_ hlt
      have S1 := hide hrow
      clear hrow
      go_wp2_with fail
      refine (validClause_any _ (cl0 cls k) n _ S1.out hn0 hn1).mono ?_
      rintro e w2 ⟨rfl, hx2⟩
      have HX2 := hide (HX.out.trans hx2)
      clear hx2
      cases hq : okCl (cl0 cls k) n with
      | true =>
        have HQ := hide (show (!okCl (cl0 cls k) n) = false by rw [hq]; rfl)
        clear hq
        go_wp2
        go_roundw
        case rel => exact ⟨k + 1, by omega, by go_num, upto_succ Hv.out HQ.out, HX2.out⟩
        case measure => simp [intOf]; omega
      | false =>
        have HV := hide (show okCls cls n = false by rw [okCls, anyB_iff.2 ⟨k, hlt, by rw [hq]; rfl⟩]; simp)
        clear hq
        go_wp2
        go_ret
        exact Ret.mk (ret_b HV.out.symm) HX2.out
    · obtain rfl : k = cls.length := by omega
      have hkI : ¬ ((cls.length : Int) < cls.length) := by omega
      have HV := hide (show okCls cls n = decide ((cls.length : Int) ≤ 200) by rw [okCls, anyB_false.2 Hv.out, Bool.not_false, Bool.and_true]; congr 1; simp only [eq_iff_iff]; omega)
      go_wp2
      go_ret
      exact Ret.mk (ret_b HV.out.symm) HX.out
theorem proof_same {cls : List (List Lt)} {n : Int} (h : inR n 1 4 = true) : (decide (cls.length ≤ 200) && !anyB (fun i => !cbB (cl0 cls i) n) cls.length) = okCls cls n := by
  unfold cbB okCls
  rw [h]; simp only [Bool.true_and]
def pclOk (ds : List Int) (cs : List Con) (cls : List (List Lt)) : Bool := vMod ds cs && okCls cls ds.length
def pclL (ds : List Int) (cs : List Con) (cls : List (List Lt)) : List Int := if pclOk ds cs cls = true then cluL cs cls ds else []
theorem pcl_good {ds : List Int} {cs : List Con} {cls : List (List Lt)} (h : pclOk ds cs cls = true) : GoodD cs ds.length (pclL ds cs cls) ∧ ds.length ≤ 4 := by
  rw [pclL, if_pos h]
  simp only [pclOk, Bool.and_eq_true] at h
  obtain ⟨hg, h0, h4⟩ := vMod_good h.1
  exact ⟨(fixL_cas h4 (stC_ok h4 fun i hi => okCls_at h.2 hi) hg).1, h4⟩
theorem pcl_len (ds : List Int) (cs : List Con) (cls : List (List Lt)) : (pclL ds cs cls).length ≤ 24 := by
  cases h : pclOk ds cs cls with
  | true => obtain ⟨h1, h2⟩ := pcl_good h; rw [h1.1]; omega
  | false => rw [pclL, h]; simp
theorem pcl_i64 (ds : List Int) (cs : List Con) (cls : List (List Lt)) : ∀ j, j < (pclL ds cs cls).length → I64 (at0 (pclL ds cs cls) j) := by
  cases h : pclOk ds cs cls with
  | true => exact (pcl_good h).1.i64
  | false => rw [pclL, h]; intro j hj; simp at hj
end Go.Proofs.YtgpbmggfpbebmaaGreat
/- PropagateClauses: both sides; marks of clauses. -/
namespace Go.Proofs.YtgpbmggfpbebmaaGreat
open Go.RowKit
attribute [local go_sem] evalOf

set_option maxRecDepth 100000 in
set_option maxHeartbeats 4000000 in
theorem PropagateClausesS_any (v vcl : Value) (ds : List Int) (cs : List Con) (cls : List (List Lt)) (w : World) (hM : SMod w v ds cs) (hCL : SCls w vcl cls) :
    Calls Tryz.prog 7 #[v, vcl] w (OwnRes (pclL ds cs cls) w) := by
  have hM0 := hide hM
  have hCL0 := hide hCL
  obtain ⟨vd, vc, rfl, hD, hC⟩ := hM
  have hD0 := hide hD
  have hC0 := hide hC
  have hbd := hD.bytes
  obtain ⟨Ad, cd, rfl, -, hld⟩ := hD.form
  obtain ⟨Ac, cc, rfl, -, hlc⟩ := hC.form
  obtain ⟨Al, cl, rfl, -, hll⟩ := hCL.form
  obtain ⟨w0, hw0⟩ : ∃ w0, w0 = w.alloc (.cells #[.slice Ad ds.length cd, .slice Ac cs.length cc] 26) := ⟨_, rfl⟩
  have hx0 : Ext w w0 := by rw [hw0]; exact (Ext.refl w).alloc _
  have k0 : w0.cell? ⟨w.heap.size, 0, none⟩ = some (.slice Ad ds.length cd) := by rw [hw0]; go_simp
  have k1 : w0.cell? ⟨w.heap.size, 1, none⟩ = some (.slice Ac cs.length cc) := by rw [hw0]; go_simp
  have ks : w.heap.size < w0.heap.size := by rw [hw0]; simp
  have HX0 := hide hx0
  clear hD hC hCL hx0
  go_enter Tryz.func7, Tryz.ntmps7
  go_wp2_with fail
  rw [← hw0]
  clear hw0
  refine (validModelS_any _ ds cs _ (hM0.out.ext HX0.out)).mono ?_
  rintro e w1 ⟨rfl, hx1⟩
  have k0 := (hx1.cells _ _ ks).trans k0
  have k1 := (hx1.cells _ _ ks).trans k1
  have ks := Nat.lt_of_lt_of_le ks hx1.size
  have HX1 := hide (HX0.out.trans hx1)
  clear hx1
  cases hq : vMod ds cs with
  | false =>
    have HP := hide (show pclL ds cs cls = [] by rw [pclL, pclOk, hq]; rfl)
    clear hq
    go_wp2
    go_ret
    rw [HP.out]
    exact OwnRes.nil_ rfl HX1.out
  | true =>
    have HQ := hide hq
    have HG := hide (vMod_good hq)
    have HIN := hide (show inR ds.length 1 4 = true by have := HG.out.2; simp [inR]; omega)
    clear hq
    go_wp2_with fail
    refine (validProof_any _ cls ds.length _ (hCL0.out.ext HX1.out) (by omega) (by omega)).mono ?_
    rintro e w2 ⟨rfl, hx2⟩
    have k0 := (hx2.cells _ _ ks).trans k0
    have k1 := (hx2.cells _ _ ks).trans k1
    have ks := Nat.lt_of_lt_of_le ks hx2.size
    have HX2 := hide (HX1.out.trans hx2)
    clear hx2
    cases hq2 : okCls cls ds.length with
    | false =>
      have HP := hide (show pclL ds cs cls = [] by rw [pclL, pclOk, hq2, Bool.and_false]; rfl)
      clear hq2
      go_wp2
      go_ret
      rw [HP.out]
      exact OwnRes.nil_ rfl HX2.out
    | true =>
      have HP := hide (show pclL ds cs cls = cluL cs cls ds by rw [pclL, pclOk, hq2, HQ.out]; rfl)
      have HOK := hide hq2
      clear hq2
      go_wp2_with fail
      refine (clauseFixpoint_any _ _ _ ds ds cs cls _ (hM0.out.ext HX2.out) (hCL0.out.ext HX2.out) (fun i hi => okCls_at HOK.out hi) (hD0.out.ext HX2.out) HG.out.1 HG.out.2.2 HG.out.2.1).mono ?_
      rintro e w3 hres
      have HRES := hide (show OwnRes (pclL ds cs cls) w e w3 by rw [HP.out]; exact OwnRes.from hres HX2.out)
      obtain ⟨A3, c3, b3, m3, f3, rfl, -⟩ := hres
      obtain ⟨L, hL⟩ : ∃ L, L = (cluL cs cls ds).length := ⟨_, rfl⟩
      have HRES := hide (show OwnRes (pclL ds cs cls) w (.returned (.slice A3 L c3)) w3 by rw [hL]; exact HRES.out)
      rw [← hL]
      clear hL
      go_wp2
      go_ret
      exact HRES.out
set_option maxRecDepth 100000 in
set_option maxHeartbeats 4000000 in
theorem PropagateClausesI_any (v vcl : Value) (ds : List Int) (cs : List Con) (cls : List (List Lt)) (w : World) (hM : SMod w v ds cs) (hCL : SCls w vcl cls) (hF : ∀ i, i < cs.length → FitsOK (con0 cs i)) :
    Calls Tryz.prog 5 #[v, vcl] w (OwnRes (pclL ds cs cls) w) := by
  have hM0 := hide hM
  have hCL0 := hide hCL
  have HFI := hide hF
  obtain ⟨vd, vc, rfl, hD, hC⟩ := hM
  have hD0 := hide hD
  have hC0 := hide hC
  have hbd := hD.bytes
  obtain ⟨Ad, cd, rfl, -, hld⟩ := hD.form
  obtain ⟨Ac, cc, rfl, -, hlc⟩ := hC.form
  obtain ⟨Al, cl, rfl, -, hll⟩ := hCL.form
  obtain ⟨w0, hw0⟩ : ∃ w0, w0 = w.alloc (.cells #[.slice Ad ds.length cd, .slice Ac cs.length cc] 26) := ⟨_, rfl⟩
  have hx0 : Ext w w0 := by rw [hw0]; exact (Ext.refl w).alloc _
  have k0 : w0.cell? ⟨w.heap.size, 0, none⟩ = some (.slice Ad ds.length cd) := by rw [hw0]; go_simp
  have k1 : w0.cell? ⟨w.heap.size, 1, none⟩ = some (.slice Ac cs.length cc) := by rw [hw0]; go_simp
  have ks : w.heap.size < w0.heap.size := by rw [hw0]; simp
  have HX0 := hide hx0
  clear hD hC hCL hx0 hF
  go_enter Tryz.func5, Tryz.ntmps5
  go_wp2_with fail
  rw [← hw0]
  clear hw0
  refine (ValidModelI_any _ _ ds cs _ (hD0.out.ext HX0.out) (hC0.out.ext HX0.out) HFI.out).mono ?_
  rintro e w1 ⟨rfl, hx1⟩
  have k0 := (hx1.cells _ _ ks).trans k0
  have k1 := (hx1.cells _ _ ks).trans k1
  have ks := Nat.lt_of_lt_of_le ks hx1.size
  have HX1 := hide (HX0.out.trans hx1)
  clear hx1
  cases hq : vMod ds cs with
  | false =>
    have HP := hide (show pclL ds cs cls = [] by rw [pclL, pclOk, hq]; rfl)
    clear hq
    go_wp2
    go_ret
    rw [HP.out]
    exact OwnRes.nil_ rfl HX1.out
  | true =>
    have HQ := hide hq
    have HG := hide (vMod_good hq)
    have HIN := hide (show inR ds.length 1 4 = true by have := HG.out.2; simp [inR]; omega)
    clear hq
    go_wp2_with fail
    refine (proofOk_any _ cls ds.length _ (hCL0.out.ext HX1.out) (by omega) (by omega)).mono ?_
    rintro e w2 ⟨rfl, hx2⟩
    rw [proof_same HIN.out]
    have k0 := (hx2.cells _ _ ks).trans k0
    have k1 := (hx2.cells _ _ ks).trans k1
    have ks := Nat.lt_of_lt_of_le ks hx2.size
    have HX2 := hide (HX1.out.trans hx2)
    clear hx2
    cases hq2 : okCls cls ds.length with
    | false =>
      have HP := hide (show pclL ds cs cls = [] by rw [pclL, pclOk, hq2, Bool.and_false]; rfl)
      clear hq2
      go_wp2
      go_ret
      rw [HP.out]
      exact OwnRes.nil_ rfl HX2.out
    | true =>
      have HP := hide (show pclL ds cs cls = cluL cs cls ds by rw [pclL, pclOk, hq2, HQ.out]; rfl)
      have HOK := hide hq2
      clear hq2
      go_wp2_with fail
      refine (withC_any _ _ _ ds ds cs cls _ (hM0.out.ext HX2.out) (hCL0.out.ext HX2.out) (fun i hi => okCls_at HOK.out hi) (hD0.out.ext HX2.out) HG.out.1 HG.out.2.2 HG.out.2.1).mono ?_
      rintro e w3 hres
      have HRES := hide (show OwnRes (pclL ds cs cls) w e w3 by rw [HP.out]; exact OwnRes.from hres HX2.out)
      obtain ⟨A3, c3, b3, m3, f3, rfl, -⟩ := hres
      obtain ⟨L, hL⟩ : ∃ L, L = (cluL cs cls ds).length := ⟨_, rfl⟩
      have HRES := hide (show OwnRes (pclL ds cs cls) w (.returned (.slice A3 L c3)) w3 by rw [hL]; exact HRES.out)
      rw [← hL]
      clear hL
      go_wp2
      go_ret
      exact HRES.out
theorem pcl_out {ds : List Int} {cs : List Con} {cls : List (List Lt)} {w w' : World} {e : Ending} (h : OwnRes (pclL ds cs cls) w e w') :
    ∃ A c, e = .returned (.slice A (pclL ds cs cls).length c) ∧ SInts w' (.slice A (pclL ds cs cls).length c) (pclL ds cs cls) ∧ Ext w w' := by
  obtain ⟨A, c, b, m, f, rfl, h1, h2, h3, h4, h5⟩ := h
  exact ⟨A, c, rfl, SInts.own h1 h2 h4 (pcl_i64 ds cs cls), h5⟩
/-- Blocks of literals within a span stay such; headers and what lies outside stay. -/
structure MkL (B E : Nat) (W W' : World) : Prop where
  keep : Keep (fun k => k < B ∨ E ≤ k) W W'
  lits : ∀ b n f, W.rowIs b 56 n f → ∃ f', W'.rowIs b 56 n f'
  hdrs : ∀ b n f, W.rowIs b 35 n f → W'.rowIs b 35 n f
theorem MkL.trans {B E : Nat} {W W' W'' : World} (h : MkL B E W W') (k : MkL B E W' W'') : MkL B E W W'' := by
  refine ⟨h.keep.trans k.keep, fun b n f hr => ?_, fun b n f hr => k.hdrs b n f (h.hdrs b n f hr)⟩
  obtain ⟨f1, h1⟩ := h.lits b n f hr
  exact k.lits b n f1 h1
theorem MkL.ofMarked {B E : Nat} {W W' : World} {r k0 : Int} {b n m : Nat} {f : Nat → Value} {e : Ending} (hr : W.rowIs b 56 m f) (hb : B ≤ b) (he : b < E) (hm : MarkedL r k0 b n m f W e W') : MkL B E W W' := by
  obtain ⟨-, hg, hro⟩ := hm
  have hoff : ∀ b', b' ≠ b → ∀ {t : TypeId} {n : Nat} {f : Nat → Value}, W.rowIs b' t n f → W'.rowIs b' t n f := fun b' hb' _ _ _ h9 => upd_row hg h9 (fun _ => hb')
  refine ⟨Keep.mono (Keep.ofG hg) (fun k _ hk e => ?_), fun b' n' f' h => ?_, fun b' n' f' h => hoff b' (rowNe h hr (by decide)) h⟩
  · unfold rowOf at e
    split at e
    · cases e
    · injection e with e; have hk : k < B ∨ E ≤ k := hk; omega
  · by_cases e : b' = b
    · subst e
      by_cases h0 : 0 < n
      · have := rowLen h hr
        subst this
        exact ⟨_, hro h0⟩
      · rw [rowOf, if_pos (by omega)] at hg
        exact ⟨f', h.of_block (hg.block _ h.lt (by simp))⟩
    · exact ⟨f', hoff b' e h⟩
/-- Clauses in blocks within a span. -/
def ShL (B E : Nat) (W : World) (rs : List (List Lt)) (br : Nat) : Prop := ∃ g, W.rowIs br 35 rs.length g ∧ ∀ i, i < rs.length → ∃ bi, B ≤ bi ∧ bi < E ∧ g i = .slice (some ⟨bi, 0, none⟩) (cl0 rs i).length (cl0 rs i).length ∧ ∃ f, W.rowIs bi 56 ((cl0 rs i).length * 3) f
theorem ShL.step {B E : Nat} {W W' : World} {rs : List (List Lt)} {br : Nat} (h : ShL B E W rs br) (k : MkL B E W W') : ShL B E W' rs br := by
  obtain ⟨g, h1, h2⟩ := h
  refine ⟨g, k.hdrs _ _ _ h1, fun i hi => ?_⟩
  obtain ⟨bi, e1, e2, e3, f, h3⟩ := h2 i hi
  obtain ⟨f', h4⟩ := k.lits _ _ _ h3
  exact ⟨bi, e1, e2, e3, f', h4⟩
theorem szL_le2 {rs : List (List Lt)} : ∀ {k n : Nat}, k ≤ n → szL rs k ≤ szL rs n := by
  intro k n h
  induction n with
  | zero =>
    obtain rfl : k = 0 := by omega
    exact Nat.le_refl _
  | succ n ih =>
    by_cases e : k = n + 1
    · subst e; exact Nat.le_refl _
    · have := ih (by omega); rw [szL]; omega
theorem ShL.of_own {B : Nat} {W : World} {rs : List (List Lt)} {b : Nat} (h : OwnL B W b rs rs.length) : ShL B W.heap.size W rs b := by
  obtain ⟨g, h1, -, h3⟩ := h
  refine ⟨g, h1, fun i hi => ?_⟩
  obtain ⟨bi, e1, e2, e3, e4⟩ := h3 i hi
  exact ⟨bi, e1, e4.lt, e3, _, e4⟩
theorem ShL.kp {B E : Nat} {S : Nat → Prop} {W W' : World} {rs : List (List Lt)} {b : Nat} (h : ShL B E W rs b) (hk : Keep S W W') (hb : S b) (hS : ∀ j, B ≤ j → S j) : ShL B E W' rs b := by
  obtain ⟨g, h1, h3⟩ := h
  refine ⟨g, hk.row hb h1, fun i hi => ?_⟩
  obtain ⟨bi, e1, e2, e3, f, e4⟩ := h3 i hi
  exact ⟨bi, e1, e2, e3, f, hk.row (hS _ e1) e4⟩
theorem ShL.ext {B E : Nat} {W W' : World} {rs : List (List Lt)} {b : Nat} (h : ShL B E W rs b) (hx : Ext W W') : ShL B E W' rs b := by
  obtain ⟨g, h1, h3⟩ := h
  refine ⟨g, hx.row h1, fun i hi => ?_⟩
  obtain ⟨bi, e1, e2, e3, f, e4⟩ := h3 i hi
  exact ⟨bi, e1, e2, e3, f, hx.row e4⟩
def POut (xs : List Int) (w : World) (e : Ending) (w' : World) : Prop := ∃ A c, e = .returned (.slice A xs.length c) ∧ SInts w' (.slice A xs.length c) xs ∧ Ext w w'
theorem PropagateClausesSO_any (v vcl : Value) (ds : List Int) (cs : List Con) (cls : List (List Lt)) (w : World) (hM : SMod w v ds cs) (hCL : SCls w vcl cls) :
    Calls Tryz.prog 7 #[v, vcl] w (POut (pclL ds cs cls) w) := (PropagateClausesS_any v vcl ds cs cls w hM hCL).mono fun _ _ h => pcl_out h
end Go.Proofs.YtgpbmggfpbebmaaGreat
