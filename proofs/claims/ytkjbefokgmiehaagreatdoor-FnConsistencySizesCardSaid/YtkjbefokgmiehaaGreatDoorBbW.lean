/- The values that the solutions take, and how many values domains have: the walks of both sides. -/
import Derived.Test.YtkjbefokgmiehaaGreatDoorSolW
import Derived.Test.YtkjbefokgmiehaaGreatDoorBbP
import Derived.Test.YtkjbefokgmiehaaGreatDoorBitZ
namespace Go.Proofs.YtkjbefokgmiehaaGreatDoor
open Go.RowKit

/-- The first v places have been turned. -/
def pmL (g : Nat → Int) (l : List Int) (v : Nat) : List Int := (List.range l.length).map fun i => if i < v then g i else at0 l i
theorem pmL_len (g : Nat → Int) (l : List Int) (v : Nat) : (pmL g l v).length = l.length := by simp [pmL]
theorem pmL_at (g : Nat → Int) (l : List Int) (v : Nat) {i : Nat} (hi : i < l.length) : at0 (pmL g l v) i = if i < v then g i else at0 l i := by
  unfold pmL
  simp [at0, hi]
theorem pmL_zero (g : Nat → Int) (l : List Int) : pmL g l 0 = l :=
  at0_ext (pmL_len _ _ _) fun i hi => by rw [pmL_len] at hi; rw [pmL_at _ _ _ hi, if_neg (by omega)]
theorem pmL_all (g : Nat → Int) (l t : List Int) (hl : t.length = l.length) (h : ∀ i, i < l.length → at0 t i = g i) : pmL g l l.length = t :=
  at0_ext (by rw [pmL_len, hl]) fun i hi => by rw [pmL_len] at hi; rw [pmL_at _ _ _ hi, if_pos hi, h i hi]
theorem pmL_succ (g : Nat → Int) (l : List Int) {v : Nat} (hv : v < l.length) : pmL g l (v + 1) = (pmL g l v).set v (g v) :=
  at0_ext (by rw [pmL_len, List.length_set, pmL_len]) fun i hi => by
    rw [pmL_len] at hi
    rw [at0_set _ _ _ _ (by rw [pmL_len]; exact hv), pmL_at _ _ _ hi]
    by_cases e : v = i
    · subst e; rw [if_pos rfl, if_pos (by omega)]
    · rw [if_neg e, pmL_at _ _ _ hi]
      by_cases h : i < v
      · rw [if_pos h, if_pos (by omega)]
      · rw [if_neg h, if_neg (by omega)]
theorem pmL_skip (g : Nat → Int) (l : List Int) {v : Nat} (hv : v < l.length) (h : g v = at0 l v) : pmL g l (v + 1) = pmL g l v :=
  at0_ext (by rw [pmL_len, pmL_len]) fun i hi => by
    rw [pmL_len] at hi
    rw [pmL_at _ _ _ hi, pmL_at _ _ _ hi]
    by_cases e : i = v
    · subst e; rw [if_pos (by omega), if_neg (by omega), h]
    · by_cases h2 : i < v
      · rw [if_pos h2, if_pos (by omega)]
      · rw [if_neg h2, if_neg (by omega)]
theorem AppRS.at_ {S : Nat → Prop} {w : World} {A : Option Addr} {n c : Nat} {rs : List (List Int)} (h : AppRS S w (.slice A n c) rs) {k : Nat} (hk : k < rs.length) :
    ∃ g bx cx m f, A = some ⟨g, 0, none⟩ ∧ g < w.heap.size ∧ w.cell? ⟨g, k, none⟩ = some (.slice (some ⟨bx, 0, none⟩) (rw0 rs k).length cx) ∧ S g ∧ S bx ∧ (rw0 rs k).length ≤ m ∧ w.rowIs bx 3 m f ∧ ∀ i, i < (rw0 rs k).length → f i = vI (at0 (rw0 rs k) i) := by
  obtain ⟨cells, h1, hv, h2⟩ := h
  rcases h1.2 with ⟨e1, e2⟩ | ⟨g, cap, cur, e1, hg, hh, hnc, hm, hcs, htk⟩
  · omega
  · injection e1 with e1 e2 e3
    obtain ⟨cv, h3, ⟨bx, cx, m, f, k1, k2, k3, k4, k5⟩, h6⟩ := h2 k hk
    have e4 : (cur.toList.take (rs.length * 1))[k]? = cells[k]? := by rw [htk]
    rw [List.getElem?_take, if_pos (by omega), h3, Array.getElem?_toList] at e4
    refine ⟨g, bx, cx, m, f, e1, (Array.getElem?_eq_some_iff.1 hh).1, by simp [World.cell?, hh, e4, k1], hv g (by rw [e1]; rfl), h6 bx (by rw [k1]; rfl), k3, k4, k5⟩
set_option maxRecDepth 100000 in
set_option maxHeartbeats 8000000 in
theorem ones64x_any (d : Nat) (h2 : d ≤ 63) (w : World) :
    Calls Tryz.prog 114 #[.int .u64 d] w fun e w' => e = .returned (.int .i64 ((domL d).length : Nat)) ∧ w = w' := by
  go_enter Tryz.func114, Tryz.ntmps114
  go_wp2
  go_ret
  refine ⟨?_, rfl⟩
  by_cases h0 : d = 0
  · subst h0; kernel_rfl
  · rcases dom_cases (d := d) (by omega) h2 with rfl | rfl | rfl | rfl | rfl | rfl | rfl | rfl | rfl | rfl | rfl | rfl | rfl | rfl | rfl | rfl | rfl | rfl | rfl | rfl | rfl | rfl | rfl | rfl | rfl | rfl | rfl | rfl | rfl | rfl | rfl | rfl | rfl | rfl | rfl | rfl | rfl | rfl | rfl | rfl | rfl | rfl | rfl | rfl | rfl | rfl | rfl | rfl | rfl | rfl | rfl | rfl | rfl | rfl | rfl | rfl | rfl | rfl | rfl | rfl | rfl | rfl | rfl <;> kernel_rfl
theorem size_any (d : Nat) (h2 : d ≤ 63) (w : World) :
    Calls Tryz.prog 37 #[.int .i64 d] w fun e w' => e = .returned (.int .i64 ((domL d).length : Nat)) ∧ w = w' := by
  have hw := u64_wrap h2
  go_enter Tryz.func37, Tryz.ntmps37
  go_wp2_with fail
  refine (show Calls Tryz.prog 73 #[.int .u64 d] _ fun e w' => e = .returned (.int .i64 ((domL d).length : Nat)) ∧ w = w' from ?_).mono ?_
  · go_enter Tryz.func73, Tryz.ntmps73
    go_wp2_with fail
    refine (ones64x_any d h2 _).mono ?_
    rintro e w' ⟨rfl, rfl⟩
    go_wp2
    go_ret
    exact ⟨rfl, rfl⟩
  rintro e w' ⟨rfl, rfl⟩
  go_wp2
  go_ret
  exact ⟨rfl, rfl⟩
set_option maxRecDepth 100000 in
set_option maxHeartbeats 4000000 in
theorem totalSize_any (v : Value) (ds : List Int) (w : World) (hD : SInts w v ds) (hd : DomL ds) (h4 : ds.length ≤ 4) :
    Calls Tryz.prog 38 #[v] w (Ret (.int .i64 (tsK ds ds.length)) w) := by
  have hD0 := hide hD
  have HD := hide hd
  obtain ⟨Ad, cd, rfl, -, hld⟩ := hD.form
  clear hD hd
  go_enter Tryz.func38, Tryz.ntmps38
  go_wp2_with fail
  go_loopw [3, 4] (fun s i wr => ∃ k : Nat, k ≤ ds.length ∧ i = .int .i64 k ∧ s = .int .i64 (tsK ds k) ∧ Ext w wr) (fun _ i _ => ds.length - (intOf i).toNat)
  case atStart => exact ⟨0, Nat.zero_le _, rfl, rfl, Ext.refl w⟩
  case round =>
    obtain ⟨k, hk, rfl, rfl, hx⟩ := hrel
    have HX := hide hx
    clear hx
    by_cases hlt : k < ds.length
    · have hkI : (k : Int) < ds.length := by omega
      obtain ⟨bd, od, rfl, hbd, fd⟩ := (hD0.out.ext HX.out).at_ hlt
      have hdb := HD.out k hlt
      have hsb := tsK_bd ds k
      have HNX := hide (show tsK ds (k + 1) = tsK ds k + ((domL (at0 ds k)).length : Int) from rfl)
      have hl6 := domL_len (at0 ds k)
      obtain ⟨d, hd⟩ : ∃ d, d = at0 ds k := ⟨_, rfl⟩
      obtain ⟨s, hs⟩ : ∃ s, s = tsK ds k := ⟨_, rfl⟩
      rw [← hd] at fd hdb HNX hl6
      rw [← hs] at hsb HNX ⊢
      clear hd hs
      go_wp2_with fail
      refine (domainValues_any d _ hdb.1 (by omega)).mono ?_
      rintro e w1 ⟨A1, c1, b1, m1, f1, rfl, hc1, hd1, hb1, ho1, hx1⟩
      have HX1 := hide (HX.out.trans hx1)
      obtain ⟨L, hL⟩ : ∃ L, L = (domL d).length := ⟨_, rfl⟩
      rw [← hL] at HNX hl6 ⊢
      have ks : IntKind.i64.wrap (s + (L : Int)) = s + L := IntWalk.i64_in _ (by omega)
      clear ho1 hx1 hd1 hc1 hb1 hL fd
      go_wp2_with fail
      go_roundw
      case rel => exact ⟨k + 1, by omega, by go_num, by rw [HNX.out], HX1.out⟩
      case measure => simp [intOf]; omega
    · obtain rfl : k = ds.length := by omega
      have hkI : ¬ ((ds.length : Int) < ds.length) := by omega
      go_wp2
      go_ret
      exact Ret.mk rfl HX.out
set_option maxRecDepth 100000 in
set_option maxHeartbeats 16000000 in
theorem backboneI_any (v : Value) (D : List Int) (cs : List Con) (w : World) (hM : SMod w v D cs) (hG : GoodD cs D.length D) (h1 : 0 < D.length) (h4 : D.length ≤ 4) :
    Calls Tryz.prog 36 #[v] w (OwnRes (bbL cs D) w) := by
  have hM0 := hide hM
  have HG := hide hG
  obtain ⟨vd, vc, rfl, hD, hC⟩ := hM
  obtain ⟨Ad, cd, rfl, -, hld⟩ := hD.form
  obtain ⟨Ac, cc, rfl, -, hlc⟩ := hC.form
  obtain ⟨w0, hw0⟩ : ∃ w0, w0 = w.alloc (.cells #[.slice Ad D.length cd, .slice Ac cs.length cc] 26) := ⟨_, rfl⟩
  have HX0 := hide (show Ext w w0 by rw [hw0]; exact (Ext.refl w).alloc _)
  have K0 := hide (show w0.cell? ⟨w.heap.size, 0, none⟩ = some (.slice Ad D.length cd) by rw [hw0]; go_simp)
  have K1 := hide (show w0.cell? ⟨w.heap.size, 1, none⟩ = some (.slice Ac cs.length cc) by rw [hw0]; go_simp)
  have ks : w.heap.size < w0.heap.size := by rw [hw0]; simp
  have HW0 := hide hw0
  have HBB := hide (show bbL cs D = bbK (solL cs D) D.length (solL cs D).length from rfl)
  have HRG := hide (show ∀ i, i < (solL cs D).length → (rw0 (solL cs D) i).length = D.length ∧ ValL (rw0 (solL cs D) i) from fun i hi => rw0_sol hi)
  obtain ⟨n, hn⟩ : ∃ n, n = D.length := ⟨_, rfl⟩
  have HN := hide hn
  rw [← hn] at K0 HBB HRG h1 h4 hM0 HW0
  have hn8 : n ≤ 100 := by omega
  clear hD hC hG hw0 hld
  go_enter Tryz.func36, Tryz.ntmps36
  rw [← hn]
  clear hn
  go_wp2_with (at_make; rw [← HW0.out]; go_must (refine wpList_make_gen _ rfl _ _ 23 rfl 3 (.int .i64 0) 1 8 Tryz.underlying23 Tryz.infoI .i64 .i64 n rfl rfl (by omega) (by omega) (fun _ => .int .i64 0) (fun i _ => by simp [Value.cells, Nat.mod_one]) ?_); intro w1 hrow1 hsz1 hx1; rw [Nat.mul_one] at hrow1; have HROW1 := hide hrow1; have HX1 := hide hx1; have k0 := (hx1.cells _ _ ks).trans K0.out; have k1 := (hx1.cells _ _ ks).trans K1.out; have ks1 := Nat.lt_of_lt_of_le ks hx1.size; have hb1l := hrow1.lt; clear hrow1 hsz1 hx1)
  refine (solutions_any _ D cs _ (by have h := hM0.out.ext (HX0.out.trans HX1.out); exact h) HG.out (by rw [← HN.out]; exact h1) (by rw [← HN.out]; exact h4)).mono ?_
  rintro e w2 ⟨A, c, rfl, hA, hx2⟩
  have HA := hide hA
  have hw01 := HX1.out.size
  have hsm := solL_small (cs := cs) (ds := D) (by rw [← HN.out]; exact h4)
  have HX2 := hide (HX1.out.trans hx2)
  have HRS := hide (show RowS w2 w0.heap.size n (zer n) from ⟨_, hx2.row HROW1.out, by rw [zer_len]; exact Nat.le_refl _, fun j _ => by rw [zer_at]⟩)
  have hb2l := Nat.lt_of_lt_of_le hb1l hx2.size
  obtain ⟨rs, hrs⟩ : ∃ rs, rs = solL cs D := ⟨_, rfl⟩
  rw [← hrs] at HA HRG HBB hsm ⊢
  clear hA hx2 hrs k0 k1
  go_wp2
  go_loopw [15] (fun i wr => ∃ k : Nat, i = .int .i64 k ∧ k ≤ rs.length ∧ Keep (fun j => j ≠ w0.heap.size) w2 wr ∧ RowS wr w0.heap.size n (bbK rs n k)) (fun i _ => rs.length - (intOf i).toNat)
  case atStart => exact ⟨0, rfl, Nat.zero_le _, Keep.refl _ _, HRS.out⟩
  case round =>
    obtain ⟨k, rfl, hk, hkp, hrow⟩ := hrel
    have HKP := hide hkp
    obtain ⟨hql, hqd⟩ := bbK_good HRG.out k hk
    have HXW := hide (show Ext w wr from Below.trans (HX0.out.trans HX2.out) (hkp.below (HX0.out.trans HX2.out).size (fun j hj => by have := HX0.out.size; omega)))
    obtain ⟨q, hq⟩ : ∃ q, q = bbK rs n k := ⟨_, rfl⟩
    rw [← hq] at hrow hql hqd
    have HQ := hide hq
    have HROW := hide hrow
    have HQD := hide hqd
    have HQL := hide hql
    clear hkp hrow hq hqd hql
    by_cases hlt : k < rs.length
    · have hkI : (k : Int) < rs.length := by omega
      have HAW := hide (HA.out.keep HKP.out (fun j hj => by omega))
      obtain ⟨g, bx, cx, m, f, rfl, hgl, fg, hgS, hbS, hm, hrx, hfx⟩ := HAW.out.at_ hlt
      obtain ⟨hxl, hxv⟩ := HRG.out k hlt
      have HXV := hide hxv
      have HNX := hide (show bbK rs n (k + 1) = orT q (rw0 rs k) by rw [HQ.out]; rfl)
      obtain ⟨x, hx⟩ : ∃ x, x = rw0 rs k := ⟨_, rfl⟩
      rw [← hx] at fg hm hfx hxl HXV HNX
      rw [hxl] at fg hm hfx
      have HXL := hide hxl
      have HRX := hide hrx
      have HFX := hide hfx
      have hbxn : bx ≠ w0.heap.size := by omega
      clear hx hxv hxl hrx hfx
      go_wp2_with fail
      go_loopw [21] (fun i wr2 => ∃ t : Nat, i = .int .i64 t ∧ t ≤ n ∧ Keep (fun j => j ≠ w0.heap.size) wr wr2 ∧ RowS wr2 w0.heap.size n (pmL (fun i => orV (at0 q i) (at0 x i)) q t)) (fun i _ => n - (intOf i).toNat)
      case atStart => exact ⟨0, rfl, Nat.zero_le _, Keep.refl _ _, by rw [pmL_zero]; exact HROW.out⟩
      case round =>
        obtain ⟨t, rfl, ht, hkt, hrt⟩ := hrel
        have HKT := hide hkt
        have HRT := hide hrt
        by_cases htl : t < n
        · have htI : (t : Int) < n := by omega
          have hrx2 := hkt.row hbxn HRX.out
          have fa := hrx2.cell (i := t) (by omega)
          rw [HFX.out t htl] at fa
          have hbxl := hrx2.lt
          obtain ⟨a, ha6, ha⟩ := HXV.out.at_ (i := t) (by rw [HXL.out]; exact htl)
          rw [ha] at fa
          obtain ⟨g2, hrg, hmg, hfg⟩ := hrt
          have hml : (pmL (fun i => orV (at0 q i) (at0 x i)) q t).length = n := by rw [pmL_len]; exact HQL.out
          have fk := hrg.cell (i := t) (by omega)
          rw [hfg t (by omega), pmL_at _ _ _ (by rw [HQL.out]; exact htl), if_neg (by omega)] at fk
          have fz := hrg.frozen t
          have hb1t := hrg.lt
          have hdb := HQD.out t (by rw [HQL.out]; exact htl)
          have HSC := hide (pmL_succ (fun i => orV (at0 q i) (at0 x i)) q (v := t) (by rw [HQL.out]; exact htl))
          have HLL := hide hml
          obtain ⟨d, hd⟩ : ∃ d, d = at0 q t := ⟨_, rfl⟩
          rw [← hd] at fk hdb
          have kb := bits_or hdb.1 hdb.2 ha6
          have hpw := pow_bd ha6
          have kp : IntKind.i64.wrap (2 ^ a) = 2 ^ a := IntWalk.i64_in _ (by omega)
          obtain ⟨o, ho⟩ : ∃ o, o = orV d a := ⟨_, rfl⟩
          rw [← ho] at kb
          have HO := hide (show o = orV (at0 q t) (at0 x t) by rw [ho, hd, ha])
          change _ = some (Value.int .i64 _) at fa
          clear hkt hrx2 hrg hfg hml hmg hd ho ha
          go_wp2_with fail
          refine wp_region_ext_tail 8 (by kernel_rfl) (by kernel_rfl) ?_
          simp only [List.take_succ_cons, List.take_zero, List.drop_succ_cons, List.drop_zero]
          iterate 8 (apply quiet_val; (focus rfl); (focus (intro w' hw'; have hk' := hw'.cells; go_simp; all_goals exact rfl)); simp only [Act.put, List.setIfInBounds_toArray, List.set_cons_succ, List.set_cons_zero])
          refine wpQuiet_nil ?_
          intro w5 hx5
          have HRT5 := hide (HRT.out.ext hx5)
          have HKT5 := hide (HKT.out.trans (hx5.keep _))
          have fz := (hx5.frz _ _ hb1t).trans fz
          have fk := (hx5.cells _ _ hb1t).trans fk
          clear hx5 fa
          try simp only [kp, kb]
          go_wp2
          go_roundw
          case rel => exact ⟨t + 1, by go_num, by omega, HKT5.out.set (fun _ hh => hh rfl) _, by rw [HSC.out, ← HO.out]; exact HRT5.out.set t o (by rw [HLL.out]; exact htl)⟩
          case measure => simp [intOf]; omega
        · obtain rfl : t = n := by omega
          have htI : ¬ ((t : Int) < t) := by omega
          have HAL := hide (show pmL (fun i => orV (at0 q i) (at0 x i)) q t = bbK rs t (k + 1) by
            have h := pmL_all (fun i => orV (at0 q i) (at0 x i)) q (orT q x) (orT_len _ _) (fun i hi => orT_at x hi)
            rw [HQL.out] at h
            rw [h, HNX.out])
          clear hkt hrt
          go_wp2
          go_roundw
          case rel => exact ⟨k + 1, by go_num, by omega, HKP.out.trans HKT.out, by rw [← HAL.out]; exact HRT.out⟩
          case measure => simp [intOf]; omega
    · obtain rfl : k = rs.length := by omega
      have hkI : ¬ ((rs.length : Int) < rs.length) := by omega
      have HE := hide (show OwnRes (bbL cs D) w (.returned (.slice (some ⟨w0.heap.size, 0, none⟩) n n)) wr by
        have h := HROW.out.own (c := n) (w := w) (by rw [HQL.out]; exact Nat.le_refl _) (by rw [HQL.out]; omega) HX0.out.size HXW.out
        rw [HQL.out] at h
        rw [HBB.out, ← HQ.out]; exact h)
      go_wp2
      go_ret
      exact HE.out
def bbV (ds : List Int) (cs : List Con) : List Int := if vMod ds cs = true then bbL cs ds else []
set_option maxRecDepth 100000 in
set_option maxHeartbeats 16000000 in
theorem BackboneS_any (v : Value) (D : List Int) (cs : List Con) (w : World) (hM : SMod w v D cs) :
    Calls Tryz.prog 41 #[v] w (OwnRes (bbV D cs) w) := by
  have hM0 := hide hM
  obtain ⟨vd, vc, rfl, hD, hC⟩ := hM
  obtain ⟨Ad, cd, rfl, -, hld⟩ := hD.form
  obtain ⟨Ac, cc, rfl, -, hlc⟩ := hC.form
  obtain ⟨w0, hw0⟩ : ∃ w0, w0 = w.alloc (.cells #[.slice Ad D.length cd, .slice Ac cs.length cc] 26) := ⟨_, rfl⟩
  have HX0 := hide (show Ext w w0 by rw [hw0]; exact (Ext.refl w).alloc _)
  have k0 : w0.cell? ⟨w.heap.size, 0, none⟩ = some (.slice Ad D.length cd) := by rw [hw0]; go_simp
  have k1 : w0.cell? ⟨w.heap.size, 1, none⟩ = some (.slice Ac cs.length cc) := by rw [hw0]; go_simp
  have ks : w.heap.size < w0.heap.size := by rw [hw0]; simp
  clear hD hC
  go_enter Tryz.func41, Tryz.ntmps41
  go_wp2_with fail
  rw [← hw0]
  clear hw0
  refine (validModelS_any _ D cs _ (hM0.out.ext HX0.out)).mono ?_
  rintro e w9 ⟨rfl, hx9⟩
  have k0 := (hx9.cells _ _ ks).trans k0
  have k1 := (hx9.cells _ _ ks).trans k1
  have ks := Nat.lt_of_lt_of_le ks hx9.size
  have HX9 := hide (HX0.out.trans hx9)
  clear hx9
  cases hv : vMod D cs with
  | false =>
    have HV := hide (show bbV D cs = [] by rw [bbV, hv]; rfl)
    clear hv
    go_wp2
    go_ret
    rw [HV.out]
    exact OwnRes.nil_ rfl HX9.out
  | true =>
    have HV := hide (show bbV D cs = bbL cs D by rw [bbV, hv]; rfl)
    obtain ⟨hG, h1, h4⟩ := vMod_good hv
    have HG := hide hG
    have HBB := hide (show bbL cs D = bbK (solL cs D) D.length (solL cs D).length from rfl)
    have HRG := hide (show ∀ i, i < (solL cs D).length → (rw0 (solL cs D) i).length = D.length ∧ ValL (rw0 (solL cs D) i) from fun i hi => rw0_sol hi)
    obtain ⟨n, hn⟩ : ∃ n, n = D.length := ⟨_, rfl⟩
    have HN := hide hn
    have K0 := hide k0
    have K1 := hide k1
    rw [← hn] at K0 HBB HRG h1 h4 hM0 ⊢
    have hn8 : n ≤ 100 := by omega
    clear hv hG hn hld k0
    have k0 := K0.out
    go_wp2_with (at_make; go_must (refine wpList_make_gen _ rfl _ _ 23 rfl 3 (.int .i64 0) 1 8 Tryz.underlying23 Tryz.infoI .i64 .i64 n rfl rfl (by omega) (by omega) (fun _ => .int .i64 0) (fun i _ => by simp [Value.cells, Nat.mod_one]) ?_); intro w1 hrow1 hsz1 hx1; rw [Nat.mul_one] at hrow1; have HROW1 := hide hrow1; have HX1 := hide hx1; have k0 := (hx1.cells _ _ ks).trans K0.out; have k1 := (hx1.cells _ _ ks).trans K1.out; have ks1 := Nat.lt_of_lt_of_le ks hx1.size; have hb1l := hrow1.lt; clear hrow1 hsz1 hx1)
    refine (solveS_any _ D cs 4096 _ (by have h := hM0.out.ext (HX9.out.trans HX1.out); exact h) HG.out (by rw [← HN.out]; exact h1) (by rw [← HN.out]; exact h4) (by omega) (by omega)).mono ?_
    rintro e w2 ⟨A, c, m9, rfl, hA, hx2⟩
    have hsm := solL_small (cs := cs) (ds := D) (by rw [← HN.out]; exact h4)
    rw [List.take_of_length_le (by omega)] at hA
    rw [show ((solL cs D).take 4096).length = (solL cs D).length by rw [List.take_of_length_le (by omega)]]
    have HA := hide hA
    have hw01 := HX1.out.size
    have HX2 := hide (HX1.out.trans hx2)
    have HRS := hide (show RowS w2 w9.heap.size n (zer n) from ⟨_, hx2.row HROW1.out, by rw [zer_len]; exact Nat.le_refl _, fun j _ => by rw [zer_at]⟩)
    have hb2l := Nat.lt_of_lt_of_le hb1l hx2.size
    obtain ⟨rs, hrs⟩ : ∃ rs, rs = solL cs D := ⟨_, rfl⟩
    rw [← hrs] at HA HRG HBB hsm ⊢
    clear hA hx2 hrs k0 k1
    go_wp2
    go_loopw [6] (fun i wr => ∃ k : Nat, i = .int .i64 k ∧ k ≤ rs.length ∧ Keep (fun j => j ≠ w9.heap.size) w2 wr ∧ RowS wr w9.heap.size n (bbK rs n k)) (fun i _ => rs.length - (intOf i).toNat)
    case atStart => exact ⟨0, rfl, Nat.zero_le _, Keep.refl _ _, HRS.out⟩
    case round =>
      obtain ⟨k, rfl, hk, hkp, hrow⟩ := hrel
      have HKP := hide hkp
      obtain ⟨hql, hqd⟩ := bbK_good HRG.out k hk
      have HXW := hide (show Ext w wr from Below.trans (HX9.out.trans HX2.out) (hkp.below (HX9.out.trans HX2.out).size (fun j hj => by have := HX9.out.size; omega)))
      obtain ⟨q, hq⟩ : ∃ q, q = bbK rs n k := ⟨_, rfl⟩
      rw [← hq] at hrow hql hqd
      have HQ := hide hq
      have HROW := hide hrow
      have HQD := hide hqd
      have HQL := hide hql
      clear hkp hrow hq hqd hql
      by_cases hlt : k < rs.length
      · have hkI : (k : Int) < rs.length := by omega
        have HAW := hide (HA.out.keep HKP.out (fun j hj => by omega))
        obtain ⟨g, bx, cx, m, f, rfl, hgl, fg, hgS, hbS, hm, hrx, hfx⟩ := HAW.out.at_ hlt
        obtain ⟨hxl, hxv⟩ := HRG.out k hlt
        have HXV := hide hxv
        have HNX := hide (show bbK rs n (k + 1) = orT q (rw0 rs k) by rw [HQ.out]; rfl)
        obtain ⟨x, hx⟩ : ∃ x, x = rw0 rs k := ⟨_, rfl⟩
        rw [← hx] at fg hm hfx hxl HXV HNX
        rw [hxl] at fg hm hfx
        have HXL := hide hxl
        have HRX := hide hrx
        have HFX := hide hfx
        have HFG := hide fg
        have hbxn : bx ≠ w9.heap.size := by omega
        have hgn : g ≠ w9.heap.size := by omega
        clear hx hxv hxl hrx hfx fg
        go_wp2_with fail
        go_loopw [7] (fun i wr2 => ∃ t : Nat, i = .int .i64 t ∧ t ≤ n ∧ Keep (fun j => j ≠ w9.heap.size) wr wr2 ∧ RowS wr2 w9.heap.size n (pmL (fun i => orV (at0 q i) (at0 x i)) q t)) (fun i _ => n - (intOf i).toNat)
        case atStart => exact ⟨0, rfl, Nat.zero_le _, Keep.refl _ _, by rw [pmL_zero]; exact HROW.out⟩
        case round =>
          obtain ⟨t, rfl, ht, hkt, hrt⟩ := hrel
          have HKT := hide hkt
          have HRT := hide hrt
          by_cases htl : t < n
          · have htI : (t : Int) < n := by omega
            have hrx2 := hkt.row hbxn HRX.out
            have fg := (hkt.cell (p := ⟨g, k, none⟩) hgl hgn).trans HFG.out
            have hgl2 := Nat.lt_of_lt_of_le hgl hkt.size
            have fa := hrx2.cell (i := t) (by omega)
            rw [HFX.out t htl] at fa
            have hbxl := hrx2.lt
            obtain ⟨a, ha6, ha⟩ := HXV.out.at_ (i := t) (by rw [HXL.out]; exact htl)
            rw [ha] at fa
            obtain ⟨g2, hrg, hmg, hfg⟩ := hrt
            have hml : (pmL (fun i => orV (at0 q i) (at0 x i)) q t).length = n := by rw [pmL_len]; exact HQL.out
            have fk := hrg.cell (i := t) (by omega)
            rw [hfg t (by omega), pmL_at _ _ _ (by rw [HQL.out]; exact htl), if_neg (by omega)] at fk
            have fz := hrg.frozen t
            have hb1t := hrg.lt
            have hdb := HQD.out t (by rw [HQL.out]; exact htl)
            have HSC := hide (pmL_succ (fun i => orV (at0 q i) (at0 x i)) q (v := t) (by rw [HQL.out]; exact htl))
            have HSK := hide (pmL_skip (fun i => orV (at0 q i) (at0 x i)) q (v := t) (by rw [HQL.out]; exact htl))
            have HLL := hide hml
            obtain ⟨d, hd⟩ : ∃ d, d = at0 q t := ⟨_, rfl⟩
            rw [← hd] at fk hdb
            have hpw := pow_bd ha6
            have kp : IntKind.i64.wrap (2 ^ a) = 2 ^ a := IntWalk.i64_in _ (by omega)
            have HO := hide (show orV (at0 q t) (at0 x t) = orV d a by rw [hd, ha])
            have HDD := hide hd
            have hob := orV_bd hdb.1 hdb.2 ha6
            change _ = some (Value.int .i64 _) at fa
            clear hkt hrx2 hrg hfg hml hmg hd ha
            obtain ⟨hh, hhe⟩ : ∃ hh, hh = hasB d a := ⟨_, rfl⟩
            have HHE := hide hhe
            clear hhe
            go_wp2_with fail
            refine wp_region_ext (by kernel_rfl) (by kernel_rfl) ?_
            iterate 11 (apply quiet_val; (focus rfl); (focus (intro w' hw'; have hk' := hw'.cells; go_simp; all_goals exact rfl)); simp only [Act.put, List.setIfInBounds_toArray, List.set_cons_succ, List.set_cons_zero])
            apply quiet_call; (focus rfl); (focus (intro w' hw'; go_simp; all_goals (first | exact rfl | (apply And.intro <;> exact rfl))))
            · exact fun w' hw' => same_quiet ((domainHas_any d a w' hdb.1 (by omega) (by omega)).mono fun e w2 h => by rw [← HHE.out] at h; exact h) hw'
            (simp only [Act.put, List.setIfInBounds_toArray, List.set_cons_succ, List.set_cons_zero])
            (apply quiet_val; (focus rfl); (focus (intro w' hw'; have hk' := hw'.cells; go_simp; all_goals exact rfl)); simp only [Act.put, List.setIfInBounds_toArray, List.set_cons_succ, List.set_cons_zero])
            refine wpQuiet_nil ?_
            intro w4 hx4
            have HRT4 := hide (HRT.out.ext hx4)
            have HKT4 := hide (HKT.out.trans (hx4.keep _))
            have fz := (hx4.frz _ _ hb1t).trans fz
            have fk := (hx4.cells _ _ hb1t).trans fk
            have fa := (hx4.cells _ _ hbxl).trans fa
            have fg := (hx4.cells _ _ hgl2).trans fg
            have hb1t := Nat.lt_of_lt_of_le hb1t hx4.size
            have hbxl := Nat.lt_of_lt_of_le hbxl hx4.size
            have hgl2 := Nat.lt_of_lt_of_le hgl2 hx4.size
            clear hx4
            cases hq : hh with
            | true =>
              have HS2 := hide (HSK.out (by rw [HO.out, orV_has' (by rw [← HHE.out]; exact hq), HDD.out]))
              clear hq fa fg fk fz
              go_wp2
              go_roundw
              case rel => exact ⟨t + 1, by go_num, by omega, HKT4.out, by rw [HS2.out]; exact HRT4.out⟩
              case measure => simp [intOf]; omega
            | false =>
              have hoe := orV_no (d := d) (v := a) (by rw [← HHE.out]; exact hq)
              rw [hoe] at hob
              have ka : IntKind.i64.wrap (d + 2 ^ a) = d + 2 ^ a := IntWalk.i64_in _ (by omega)
              have HO2 := hide (show orV (at0 q t) (at0 x t) = d + 2 ^ a by rw [HO.out, hoe])
              clear hq hoe
              go_wp2_with fail
              refine wp_region_ext_tail 16 (by kernel_rfl) (by kernel_rfl) ?_
              simp only [List.take_succ_cons, List.take_zero, List.drop_succ_cons, List.drop_zero]
              iterate 16 (apply quiet_val; (focus rfl); (focus (intro w' hw'; have hk' := hw'.cells; go_simp; all_goals exact rfl)); simp only [Act.put, List.setIfInBounds_toArray, List.set_cons_succ, List.set_cons_zero])
              refine wpQuiet_nil ?_
              intro w5 hx5
              have HRT5 := hide (HRT4.out.ext hx5)
              have HKT5 := hide (HKT4.out.trans (hx5.keep _))
              have fz := (hx5.frz _ _ hb1t).trans fz
              have fk := (hx5.cells _ _ hb1t).trans fk
              clear hx5 fa fg
              try simp only [kp, ka]
              go_wp2
              go_roundw
              case rel => exact ⟨t + 1, by go_num, by omega, HKT5.out.set (fun _ hh => hh rfl) _, by rw [HSC.out, HO2.out]; exact HRT5.out.set t _ (by rw [HLL.out]; exact htl)⟩
              case measure => simp [intOf]; omega
          · obtain rfl : t = n := by omega
            have htI : ¬ ((t : Int) < t) := by omega
            have HAL := hide (show pmL (fun i => orV (at0 q i) (at0 x i)) q t = bbK rs t (k + 1) by
              have h := pmL_all (fun i => orV (at0 q i) (at0 x i)) q (orT q x) (orT_len _ _) (fun i hi => orT_at x hi)
              rw [HQL.out] at h
              rw [h, HNX.out])
            clear hkt hrt
            go_wp2
            go_roundw
            case rel => exact ⟨k + 1, by go_num, by omega, HKP.out.trans HKT.out, by rw [← HAL.out]; exact HRT.out⟩
            case measure => simp [intOf]; omega
      · obtain rfl : k = rs.length := by omega
        have hkI : ¬ ((rs.length : Int) < rs.length) := by omega
        have HE := hide (show OwnRes (bbV D cs) w (.returned (.slice (some ⟨w9.heap.size, 0, none⟩) n n)) wr by
          have h := HROW.out.own (c := n) (w := w) (by rw [HQL.out]; exact Nat.le_refl _) (by rw [HQL.out]; omega) HX9.out.size HXW.out
          rw [HQL.out] at h
          rw [HV.out, HBB.out, ← HQ.out]; exact h)
        go_wp2
        go_ret
        exact HE.out
end Go.Proofs.YtkjbefokgmiehaaGreatDoor
