/- The values that the solutions take, and how many values domains have: the walks of both sides. -/
import Derived.Test.YtgeflejmdlipmaaGreatSolW
import Derived.Test.YtgeflejmdlipmaaGreatBbP
import Derived.Test.YtgeflejmdlipmaaGreatLeast
namespace Go.Proofs.YtgeflejmdlipmaaGreat
open Go.RowKit

/-- The first v places have been turned. -/
def pmL (g : Nat → Int) (l : List Int) (v : Nat) : List Int := (List.range l.length).map fun i => if i < v then g i else at0 l i
theorem pmL_len (g : Nat → Int) (l : List Int) (v : Nat) : (pmL g l v).length = l.length := by simp [pmL]
theorem pmL_at (g : Nat → Int) (l : List Int) (v : Nat) {i : Nat} (hi : i < l.length) : at0 (pmL g l v) i = if i < v then g i else at0 l i := by
  unfold pmL
  simp [at0, hi]
theorem pmL_zero (g : Nat → Int) (l : List Int) : pmL g l 0 = l :=
  at0_ext (pmL_len _ _ _) fun i hi => by rw [pmL_len] at hi; rw [pmL_at _ _ _ hi, if_neg (by omega)]
theorem pmL_all (g : Nat → Int) (l t : List Int) (hl : t.length = l.length) (h : ∀ i, i < l.length → at0 t i = g i) : pmL g l l.length = t :=
  at0_ext (by rw [pmL_len, hl]) fun i hi => by rw [pmL_len] at hi; rw [pmL_at _ _ _ hi, if_pos hi, h i hi]
theorem pmL_succ (g : Nat → Int) (l : List Int) {v : Nat} (hv : v < l.length) : pmL g l (v + 1) = (pmL g l v).set v (g v) :=
  at0_ext (by rw [pmL_len, List.length_set, pmL_len]) fun i hi => by
    rw [pmL_len] at hi
    rw [at0_set _ _ _ _ (by rw [pmL_len]; exact hv), pmL_at _ _ _ hi]
    by_cases e : v = i
    · subst e; rw [if_pos rfl, if_pos (by omega)]
    · rw [if_neg e, pmL_at _ _ _ hi]
      by_cases h : i < v
      · rw [if_pos h, if_pos (by omega)]
      · rw [if_neg h, if_neg (by omega)]
theorem pmL_skip (g : Nat → Int) (l : List Int) {v : Nat} (hv : v < l.length) (h : g v = at0 l v) : pmL g l (v + 1) = pmL g l v :=
  at0_ext (by rw [pmL_len, pmL_len]) fun i hi => by
    rw [pmL_len] at hi
    rw [pmL_at _ _ _ hi, pmL_at _ _ _ hi]
    by_cases e : i = v
    · subst e; rw [if_pos (by omega), if_neg (by omega), h]
    · by_cases h2 : i < v
      · rw [if_pos h2, if_pos (by omega)]
      · rw [if_neg h2, if_neg (by omega)]
theorem AppRS.at_ {S : Nat → Prop} {w : World} {A : Option Addr} {n c : Nat} {rs : List (List Int)} (h : AppRS S w (.slice A n c) rs) {k : Nat} (hk : k < rs.length) :
    ∃ g bx cx m f, A = some ⟨g, 0, none⟩ ∧ g < w.heap.size ∧ w.cell? ⟨g, k, none⟩ = some (.slice (some ⟨bx, 0, none⟩) (rw0 rs k).length cx) ∧ S g ∧ S bx ∧ (rw0 rs k).length ≤ m ∧ w.rowIs bx 3 m f ∧ ∀ i, i < (rw0 rs k).length → f i = vI (at0 (rw0 rs k) i) := by
  obtain ⟨cells, h1, hv, h2⟩ := h
  rcases h1.2 with ⟨e1, e2⟩ | ⟨g, cap, cur, e1, hg, hh, hnc, hm, hcs, htk⟩
  · omega
  · injection e1 with e1 e2 e3
    obtain ⟨cv, h3, ⟨bx, cx, m, f, k1, k2, k3, k4, k5⟩, h6⟩ := h2 k hk
    have e4 : (cur.toList.take (rs.length * 1))[k]? = cells[k]? := by rw [htk]
    rw [List.getElem?_take, if_pos (by omega), h3, Array.getElem?_toList] at e4
    refine ⟨g, bx, cx, m, f, e1, (Array.getElem?_eq_some_iff.1 hh).1, by simp [World.cell?, hh, e4, k1], hv g (by rw [e1]; rfl), h6 bx (by rw [k1]; rfl), k3, k4, k5⟩
set_option maxRecDepth 100000 in
set_option maxHeartbeats 16000000 in
theorem backboneI_any (v : Value) (D : List Int) (cs : List Con) (w : World) (hM : SMod w v D cs) (hG : GoodD cs D.length D) (h1 : 0 < D.length) (h4 : D.length ≤ 4) :
    Calls Tryz.prog 19 #[v] w (OwnRes (bbL cs D) w) := by
  have hM0 := hide hM
  have HG := hide hG
  obtain ⟨vd, vc, rfl, hD, hC⟩ := hM
  obtain ⟨Ad, cd, rfl, -, hld⟩ := hD.form
  obtain ⟨Ac, cc, rfl, -, hlc⟩ := hC.form
  obtain ⟨w0, hw0⟩ : ∃ w0, w0 = w.alloc (.cells #[.slice Ad D.length cd, .slice Ac cs.length cc] 26) := ⟨_, rfl⟩
  have HX0 := hide (show Ext w w0 by rw [hw0]; exact (Ext.refl w).alloc _)
  have K0 := hide (show w0.cell? ⟨w.heap.size, 0, none⟩ = some (.slice Ad D.length cd) by rw [hw0]; go_simp)
  have K1 := hide (show w0.cell? ⟨w.heap.size, 1, none⟩ = some (.slice Ac cs.length cc) by rw [hw0]; go_simp)
  have ks : w.heap.size < w0.heap.size := by rw [hw0]; simp
  have HW0 := hide hw0
  have HBB := hide (show bbL cs D = bbK (solL cs D) D.length (solL cs D).length from rfl)
  have HRG := hide (show ∀ i, i < (solL cs D).length → (rw0 (solL cs D) i).length = D.length ∧ ValL (rw0 (solL cs D) i) from fun i hi => rw0_sol hi)
  obtain ⟨n, hn⟩ : ∃ n, n = D.length := ⟨_, rfl⟩
  have HN := hide hn
  rw [← hn] at K0 HBB HRG h1 h4 hM0 HW0
  have hn8 : n ≤ 100 := by omega
  clear hD hC hG hw0 hld
  go_enter Tryz.func19, Tryz.ntmps19
  rw [← hn]
  clear hn
  go_wp2_with (at_make; rw [← HW0.out]; go_must (refine wpList_make_gen _ rfl _ _ 23 rfl 3 (.int .i64 0) 1 8 Tryz.underlying23 Tryz.infoI .i64 .i64 n rfl rfl (by omega) (by omega) (fun _ => .int .i64 0) (fun i _ => by simp [Value.cells, Nat.mod_one]) ?_); intro w1 hrow1 hsz1 hx1; rw [Nat.mul_one] at hrow1; have HROW1 := hide hrow1; have HX1 := hide hx1; have k0 := (hx1.cells _ _ ks).trans K0.out; have k1 := (hx1.cells _ _ ks).trans K1.out; have ks1 := Nat.lt_of_lt_of_le ks hx1.size; have hb1l := hrow1.lt; clear hrow1 hsz1 hx1)
  refine (solutions_any _ D cs _ (by have h := hM0.out.ext (HX0.out.trans HX1.out); exact h) HG.out (by rw [← HN.out]; exact h1) (by rw [← HN.out]; exact h4)).mono ?_
  rintro e w2 ⟨A, c, rfl, hA, hx2⟩
  have HA := hide hA
  have hw01 := HX1.out.size
  have hsm := solL_small (cs := cs) (ds := D) (by rw [← HN.out]; exact h4)
  have HX2 := hide (HX1.out.trans hx2)
  have HRS := hide (show RowS w2 w0.heap.size n (zer n) from ⟨_, hx2.row HROW1.out, by rw [zer_len]; exact Nat.le_refl _, fun j _ => by rw [zer_at]⟩)
  have hb2l := Nat.lt_of_lt_of_le hb1l hx2.size
  obtain ⟨rs, hrs⟩ : ∃ rs, rs = solL cs D := ⟨_, rfl⟩
  rw [← hrs] at HA HRG HBB hsm ⊢
  clear hA hx2 hrs k0 k1
  go_wp2
  go_loopw [15] (fun i wr => ∃ k : Nat, i = .int .i64 k ∧ k ≤ rs.length ∧ Keep (fun j => j ≠ w0.heap.size) w2 wr ∧ RowS wr w0.heap.size n (bbK rs n k)) (fun i _ => rs.length - (intOf i).toNat)
  case atStart => exact ⟨0, rfl, Nat.zero_le _, Keep.refl _ _, HRS.out⟩
  case round =>
    obtain ⟨k, rfl, hk, hkp, hrow⟩ := hrel
    have HKP := hide hkp
    obtain ⟨hql, hqd⟩ := bbK_good HRG.out k hk
    have HXW := hide (show Ext w wr from Below.trans (HX0.out.trans HX2.out) (hkp.below (HX0.out.trans HX2.out).size (fun j hj => by have := HX0.out.size; omega)))
    obtain ⟨q, hq⟩ : ∃ q, q = bbK rs n k := ⟨_, rfl⟩
    rw [← hq] at hrow hql hqd
    have HQ := hide hq
    have HROW := hide hrow
    have HQD := hide hqd
    have HQL := hide hql
    clear hkp hrow hq hqd hql
    by_cases hlt : k < rs.length
    · have hkI : (k : Int) < rs.length := by omega
      have HAW := hide (HA.out.keep HKP.out (fun j hj => by omega))
      obtain ⟨g, bx, cx, m, f, rfl, hgl, fg, hgS, hbS, hm, hrx, hfx⟩ := HAW.out.at_ hlt
      obtain ⟨hxl, hxv⟩ := HRG.out k hlt
      have HXV := hide hxv
      have HNX := hide (show bbK rs n (k + 1) = orT q (rw0 rs k) by rw [HQ.out]; rfl)
      obtain ⟨x, hx⟩ : ∃ x, x = rw0 rs k := ⟨_, rfl⟩
      rw [← hx] at fg hm hfx hxl HXV HNX
      rw [hxl] at fg hm hfx
      have HXL := hide hxl
      have HRX := hide hrx
      have HFX := hide hfx
      have hbxn : bx ≠ w0.heap.size := by omega
      clear hx hxv hxl hrx hfx
      go_wp2_with fail
      go_loopw [21] (fun i wr2 => ∃ t : Nat, i = .int .i64 t ∧ t ≤ n ∧ Keep (fun j => j ≠ w0.heap.size) wr wr2 ∧ RowS wr2 w0.heap.size n (pmL (fun i => orV (at0 q i) (at0 x i)) q t)) (fun i _ => n - (intOf i).toNat)
      case atStart => exact ⟨0, rfl, Nat.zero_le _, Keep.refl _ _, by rw [pmL_zero]; exact HROW.out⟩
      case round =>
        obtain ⟨t, rfl, ht, hkt, hrt⟩ := hrel
        have HKT := hide hkt
        have HRT := hide hrt
        by_cases htl : t < n
        · have htI : (t : Int) < n := by omega
          have hrx2 := hkt.row hbxn HRX.out
          have fa := hrx2.cell (i := t) (by omega)
          rw [HFX.out t htl] at fa
          have hbxl := hrx2.lt
          obtain ⟨a, ha6, ha⟩ := HXV.out.at_ (i := t) (by rw [HXL.out]; exact htl)
          rw [ha] at fa
          obtain ⟨g2, hrg, hmg, hfg⟩ := hrt
          have hml : (pmL (fun i => orV (at0 q i) (at0 x i)) q t).length = n := by rw [pmL_len]; exact HQL.out
          have fk := hrg.cell (i := t) (by omega)
          rw [hfg t (by omega), pmL_at _ _ _ (by rw [HQL.out]; exact htl), if_neg (by omega)] at fk
          have fz := hrg.frozen t
          have hb1t := hrg.lt
          have hdb := HQD.out t (by rw [HQL.out]; exact htl)
          have HSC := hide (pmL_succ (fun i => orV (at0 q i) (at0 x i)) q (v := t) (by rw [HQL.out]; exact htl))
          have HLL := hide hml
          obtain ⟨d, hd⟩ : ∃ d, d = at0 q t := ⟨_, rfl⟩
          rw [← hd] at fk hdb
          have kb := bits_or hdb.1 hdb.2 ha6
          have hpw := pow_bd ha6
          have kp : IntKind.i64.wrap (2 ^ a) = 2 ^ a := IntWalk.i64_in _ (by omega)
          obtain ⟨o, ho⟩ : ∃ o, o = orV d a := ⟨_, rfl⟩
          rw [← ho] at kb
          have HO := hide (show o = orV (at0 q t) (at0 x t) by rw [ho, hd, ha])
          change _ = some (Value.int .i64 _) at fa
          clear hkt hrx2 hrg hfg hml hmg hd ho ha
          go_wp2_with fail
          refine wp_region_ext_tail 8 (by kernel_rfl) (by kernel_rfl) ?_
          simp only [List.take_succ_cons, List.take_zero, List.drop_succ_cons, List.drop_zero]
          iterate 8 (apply quiet_val; (focus rfl); (focus (intro w' hw'; have hk' := hw'.cells; go_simp; all_goals exact rfl)); simp only [Act.put, List.setIfInBounds_toArray, List.set_cons_succ, List.set_cons_zero])
          refine wpQuiet_nil ?_
          intro w5 hx5
          have HRT5 := hide (HRT.out.ext hx5)
          have HKT5 := hide (HKT.out.trans (hx5.keep _))
          have fz := (hx5.frz _ _ hb1t).trans fz
          have fk := (hx5.cells _ _ hb1t).trans fk
          clear hx5 fa
          try simp only [kp, kb]
          go_wp2
          go_roundw
          case rel => exact ⟨t + 1, by go_num, by omega, HKT5.out.set (fun _ hh => hh rfl) _, by rw [HSC.out, ← HO.out]; exact HRT5.out.set t o (by rw [HLL.out]; exact htl)⟩
          case measure => simp [intOf]; omega
        · obtain rfl : t = n := by omega
          have htI : ¬ ((t : Int) < t) := by omega
          have HAL := hide (show pmL (fun i => orV (at0 q i) (at0 x i)) q t = bbK rs t (k + 1) by
            have h := pmL_all (fun i => orV (at0 q i) (at0 x i)) q (orT q x) (orT_len _ _) (fun i hi => orT_at x hi)
            rw [HQL.out] at h
            rw [h, HNX.out])
          clear hkt hrt
          go_wp2
          go_roundw
          case rel => exact ⟨k + 1, by go_num, by omega, HKP.out.trans HKT.out, by rw [← HAL.out]; exact HRT.out⟩
          case measure => simp [intOf]; omega
    · obtain rfl : k = rs.length := by omega
      have hkI : ¬ ((rs.length : Int) < rs.length) := by omega
      have HE := hide (show OwnRes (bbL cs D) w (.returned (.slice (some ⟨w0.heap.size, 0, none⟩) n n)) wr by
        have h := HROW.out.own (c := n) (w := w) (by rw [HQL.out]; exact Nat.le_refl _) (by rw [HQL.out]; omega) HX0.out.size HXW.out
        rw [HQL.out] at h
        rw [HBB.out, ← HQ.out]; exact h)
      go_wp2
      go_ret
      exact HE.out
def bbV (ds : List Int) (cs : List Con) : List Int := if vMod ds cs = true then bbL cs ds else []
end Go.Proofs.YtgeflejmdlipmaaGreat
