/- The order of literals, and whether literals are a clause: both sides. -/
import Derived.Test.YtgpbmggfpbebmaaGreatLits
import Derived.Test.YtgpbmggfpbebmaaGreatTail
import Derived.Test.YtgpbmggfpbebmaaGreatRelZ
namespace Go.Proofs.YtgpbmggfpbebmaaGreat
open Go.RowKit
attribute [local go_sem] evalOf

set_option maxHeartbeats 2000000 in
theorem literalLess_any (a b : Lt) (w : World) :
    Calls Tryz.prog 83 #[.agg #[.int .i64 a.x, .int .i64 a.v, .bool a.n], .agg #[.int .i64 b.x, .int .i64 b.v, .bool b.n]] w (Ret (.bool (lsB a b)) w) := by
  obtain ⟨ax, av, an⟩ := a
  have HX := fun q : Bool => hide (((Ext.refl w).alloc (.cells #[.int .i64 ax, .int .i64 av, .bool q] 56)).alloc (.cells #[.int .i64 b.x, .int .i64 b.v, .bool b.n] 56))
  by_cases h1 : ax = b.x
  · have hb1 : (ax != b.x) = false := by simp [h1]
    by_cases h2 : av = b.v
    · have hb2 : (av != b.v) = false := by simp [h2]
      cases an with
      | true =>
        have HV := hide (show lsB ⟨ax, av, true⟩ b = false by simp [lsB, h1, h2])
        clear h1 h2
        go_enter Tryz.func83, Tryz.ntmps83
        go_wp2
        go_ret
        exact Ret.mk (ret_b HV.out.symm) (HX true).out
      | false =>
        have HV := hide (show lsB ⟨ax, av, false⟩ b = b.n by simp [lsB, h1, h2])
        clear h1 h2
        go_enter Tryz.func83, Tryz.ntmps83
        go_wp2
        go_ret
        exact Ret.mk (ret_b HV.out.symm) (HX false).out
    · have hb2 : (av != b.v) = true := by simp [h2]
      have HV := hide (show lsB ⟨ax, av, an⟩ b = decide (av < b.v) by simp [lsB, h1, h2])
      clear h1 h2
      go_enter Tryz.func83, Tryz.ntmps83
      go_wp2
      go_ret
      exact Ret.mk (ret_b HV.out.symm) (HX an).out
  · have hb1 : (ax != b.x) = true := by simp [h1]
    have HV := hide (show lsB ⟨ax, av, an⟩ b = decide (ax < b.x) by simp [lsB, h1])
    clear h1
    go_enter Tryz.func83, Tryz.ntmps83
    go_wp2
    go_ret
    exact Ret.mk (ret_b HV.out.symm) (HX an).out
def cmpI (x y : Int) : Int := if x < y then -1 else if y < x then 1 else 0
def bN (b : Bool) : Int := if b then 1 else 0
def cmpL (a b : Lt) : Int := if cmpI a.x b.x ≠ 0 then cmpI a.x b.x else if cmpI a.v b.v ≠ 0 then cmpI a.v b.v else cmpI (bN a.n) (bN b.n)
theorem cmpI_zero {x y : Int} : cmpI x y = 0 ↔ x = y := by unfold cmpI; split <;> (try split) <;> omega
theorem cmpI_neg {x y : Int} : cmpI x y < 0 ↔ x < y := by unfold cmpI; split <;> (try split) <;> omega
theorem cmpI_bd (x y : Int) : -1 ≤ cmpI x y ∧ cmpI x y ≤ 1 := by unfold cmpI; split <;> (try split) <;> omega
theorem cmpL_ls (a b : Lt) : decide (0 ≤ cmpL a b) = !lsB a b := by
  unfold cmpL lsB
  by_cases h1 : a.x = b.x
  · rw [if_neg (by simp [cmpI_zero, h1])]
    by_cases h2 : a.v = b.v
    · rw [if_neg (by simp [cmpI_zero, h2])]
      simp only [h1, h2, decide_true, Bool.true_and]
      have e : ∀ x y : Bool, decide (0 ≤ cmpI (bN x) (bN y)) = !(!x && y) := by decide
      rw [e]; simp
    · rw [if_pos (by rw [ne_eq, cmpI_zero]; exact h2)]
      have := cmpI_neg (x := a.v) (y := b.v)
      by_cases h3 : a.v < b.v
      · have h4 := this.2 h3; simp [h1, h2, h3]; omega
      · have h4 : ¬ cmpI a.v b.v < 0 := fun h => h3 (this.1 h)
        simp [h1, h2, h3]; omega
  · rw [if_pos (by rw [ne_eq, cmpI_zero]; exact h1)]
    have := cmpI_neg (x := a.x) (y := b.x)
    by_cases h3 : a.x < b.x
    · have h4 := this.2 h3; simp [h1, h3]; omega
    · have h4 : ¬ cmpI a.x b.x < 0 := fun h => h3 (this.1 h)
      simp [h1, h3]; omega
theorem isNaN_any (x : Int) (w : World) : Calls Tryz.prog 111 #[.int .i64 x] w fun e w' => e = .returned (.bool false) ∧ w = w' := by
  have h : (x != x) = false := by simp
  go_enter Tryz.func111, Tryz.ntmps111
  go_wp2
  go_ret
  exact ⟨rfl, rfl⟩
set_option maxHeartbeats 1000000 in
theorem Compare_any (x y : Int) (w : World) : Calls Tryz.prog 96 #[.int .i64 x, .int .i64 y] w fun e w' => e = .returned (.int .i64 (cmpI x y)) ∧ w = w' := by
  by_cases h1 : x < y
  · have HV := hide (show cmpI x y = -1 by rw [cmpI, if_pos h1])
    go_enter Tryz.func96, Tryz.ntmps96
    go_wp2_with (go_at_call 111; refine (isNaN_any _ _).mono ?_; rintro e w' ⟨rfl, rfl⟩)
    go_ret
    exact ⟨ret_i HV.out.symm, rfl⟩
  · by_cases h2 : y < x
    · have HV := hide (show cmpI x y = 1 by rw [cmpI, if_neg h1, if_pos h2])
      go_enter Tryz.func96, Tryz.ntmps96
      go_wp2_with (go_at_call 111; refine (isNaN_any _ _).mono ?_; rintro e w' ⟨rfl, rfl⟩)
      go_ret
      exact ⟨ret_i HV.out.symm, rfl⟩
    · have HV := hide (show cmpI x y = 0 by rw [cmpI, if_neg h1, if_neg h2])
      go_enter Tryz.func96, Tryz.ntmps96
      go_wp2_with (go_at_call 111; refine (isNaN_any _ _).mono ?_; rintro e w' ⟨rfl, rfl⟩)
      go_ret
      exact ⟨ret_i HV.out.symm, rfl⟩
/-- The first one of three that is not zero. -/
def or3 (x y z : Int) : Int := if x ≠ 0 then x else if y ≠ 0 then y else z
set_option maxHeartbeats 2000000 in
theorem Or_any (b c : Nat) (x y z : Int) (w : World) (hb : b < w.heap.size) (h0 : w.cell? ⟨b, 0, none⟩ = some (.int .i64 x)) (h1 : w.cell? ⟨b, 1, none⟩ = some (.int .i64 y)) (h2 : w.cell? ⟨b, 2, none⟩ = some (.int .i64 z)) (_hc : 3 ≤ c) :
    Calls Tryz.prog 95 #[.slice (some ⟨b, 0, none⟩) 3 c] w fun e w' => e = .returned (.int .i64 (or3 x y z)) ∧ w = w' := by
  have _hb := hb
  go_enter Tryz.func95, Tryz.ntmps95
  go_wp2
  go_loop [8] (fun i => i = .int .i64 0 ∨ (i = .int .i64 1 ∧ x = 0) ∨ (i = .int .i64 2 ∧ x = 0 ∧ y = 0) ∨ (i = .int .i64 3 ∧ x = 0 ∧ y = 0 ∧ z = 0)) (fun i => 3 - (intOf i).toNat)
  case atStart => exact .inl rfl
  case round =>
    rcases hrel with rfl | ⟨rfl, hx⟩ | ⟨rfl, hx, hy⟩ | ⟨rfl, hx, hy, hz⟩
    · by_cases hq : x = 0
      · have HQ := hide hq
        have hn : (x != 0) = false := by simp [hq]
        clear hq
        go_wp2
        go_round
        case rel => exact .inr (.inl ⟨by go_num, HQ.out⟩)
        case measure => simp [intOf]
      · have hn : (x != 0) = true := by simp [hq]
        have HQ := hide (show or3 x y z = x by rw [or3, if_pos hq])
        clear hq
        go_wp2
        go_ret
        exact ⟨ret_i HQ.out.symm, rfl⟩
    · have HX := hide hx
      clear hx
      by_cases hq : y = 0
      · have HQ := hide hq
        have hn : (y != 0) = false := by simp [hq]
        clear hq
        go_wp2
        go_round
        case rel => exact .inr (.inr (.inl ⟨by go_num, HX.out, HQ.out⟩))
        case measure => simp [intOf]
      · have hn : (y != 0) = true := by simp [hq]
        have HQ := hide (show or3 x y z = y by rw [or3, if_neg (by simp [HX.out]), if_pos hq])
        clear hq
        go_wp2
        go_ret
        exact ⟨ret_i HQ.out.symm, rfl⟩
    · have HX := hide hx
      have HY := hide hy
      clear hx hy
      by_cases hq : z = 0
      · have HQ := hide hq
        have hn : (z != 0) = false := by simp [hq]
        clear hq
        go_wp2
        go_round
        case rel => exact .inr (.inr (.inr ⟨by go_num, HX.out, HY.out, HQ.out⟩))
        case measure => simp [intOf]
      · have hn : (z != 0) = true := by simp [hq]
        have HQ := hide (show or3 x y z = z by rw [or3, if_neg (by simp [HX.out]), if_neg (by simp [HY.out])])
        clear hq
        go_wp2
        go_ret
        exact ⟨ret_i HQ.out.symm, rfl⟩
    · have HQ := hide (show or3 x y z = 0 by rw [or3, if_neg (by simp [hx]), if_neg (by simp [hy]), hz])
      clear hx hy hz
      go_wp2
      go_ret
      exact ⟨ret_i HQ.out.symm, rfl⟩
theorem zeroI (w : World) : (zeroValue 3).run Tryz.prog w = .ok (.int .i64 0) w := by kernel_rfl
theorem lawB : Go.Maps.Keyed Tryz.prog 4 := Go.Maps.bool_keyed Tryz.underlying4
theorem ownsMap_ext {H : Type} {P : Program} {k : TypeId} {R : Value → Option (DataW H × List MemPlace)} {w w' : World} {b n : Nat} {D : DataW H} (h : w.ownsMap P k R b n D) (hx : Ext w w') : w'.ownsMap P k R b n D := by
  have hlt := h.lt
  obtain ⟨es, clock, hb, F, hs, hD⟩ := h
  exact ⟨es, clock, (Below.block hx b hlt).trans hb, F, hs, hD⟩
/-- The map {true: 1}. -/
def tD (H : Type) : DataW H := (DataW.map []).put (.bool true) (.lit (.int .i64 1))
theorem tD_at {H : Type} {q : Bool} {c : Int} (h : (tD H).atKey (.bool q) (.lit (.int .i64 0)) = .lit (.int .i64 c)) : c = bN q := by
  cases q with
  | true =>
    have e : (tD H).atKey (.bool true) (.lit (.int .i64 0)) = .lit (.int .i64 1) := by rfl
    rw [e] at h
    injection h with h; injection h with _ h; exact h.symm
  | false =>
    have e : (tD H).atKey (.bool false) (.lit (.int .i64 0)) = .lit (.int .i64 0) := by rfl
    rw [e] at h
    injection h with h; injection h with _ h; exact h.symm
set_option maxRecDepth 100000 in
set_option maxHeartbeats 4000000 in
theorem compare_any (a b : Lt) (w : World) :
    Calls Tryz.prog 65 #[.agg #[.int .i64 a.x, .int .i64 a.v, .bool a.n], .agg #[.int .i64 b.x, .int .i64 b.v, .bool b.n]] w (Ret (.int .i64 (cmpL a b)) w) := by
  have HV := hide (show or3 (cmpI a.x b.x) (cmpI a.v b.v) (cmpI (bN a.n) (bN b.n)) = cmpL a b by unfold or3 cmpL; rfl)
  obtain ⟨w0, hw0⟩ : ∃ w0, w0 = (w.alloc (.cells #[.int .i64 a.x, .int .i64 a.v, .bool a.n] 56)).alloc (.cells #[.int .i64 b.x, .int .i64 b.v, .bool b.n] 56) := ⟨_, rfl⟩
  have hx0 : Ext w w0 := by rw [hw0]; exact ((Ext.refl w).alloc _).alloc _
  have hs0 : w0.heap.size = w.heap.size + 2 := by rw [hw0]; simp
  have k0 : w0.cell? ⟨w.heap.size, 0, none⟩ = some (.int .i64 a.x) := by rw [hw0]; go_simp
  have k1 : w0.cell? ⟨w.heap.size, 1, none⟩ = some (.int .i64 a.v) := by rw [hw0]; go_simp
  have k2 : w0.cell? ⟨w.heap.size, 2, none⟩ = some (.bool a.n) := by rw [hw0]; go_simp
  have j0 : w0.cell? ⟨w.heap.size + 1, 0, none⟩ = some (.int .i64 b.x) := by rw [hw0]; go_simp
  have j1 : w0.cell? ⟨w.heap.size + 1, 1, none⟩ = some (.int .i64 b.v) := by rw [hw0]; go_simp
  have j2 : w0.cell? ⟨w.heap.size + 1, 2, none⟩ = some (.bool b.n) := by rw [hw0]; go_simp
  have HX0 := hide hx0
  have HS0 := hide hs0
  have K0 := hide k0
  have K1 := hide k1
  have K2 := hide k2
  have J0 := hide j0
  have J1 := hide j1
  have J2 := hide j2
  clear hx0 hs0 k0 k1 k2 j0 j1 j2
  go_enter Tryz.func65, Tryz.ntmps65
  go_wp2_with fail
  rw [← hw0]
  clear hw0
  obtain ⟨w1, hrun, hown1, hgrow1⟩ := (World.ownsMap_made (H := Unit) w0 Tryz.prog 4 (plainElem Tryz.prog 3)).update (t := 101) (e := 3) lawB Tryz.underlying101 (by unfold maxLen; omega) (key := .bool true) (val := .int .i64 1) (Go.Maps.keyOf_bool_mk Tryz.underlying4 true) (plainElem_int Tryz.underlying3 (by decide))
  have hg2 := (World.grownBy_alloc w0 (.map #[] 0) (some w0.heap.size)).trans hgrow1
  have HX1 := hide (show Ext w0 w1 from ⟨hg2.os, hg2.tape, hg2.output, hg2.size, fun i hi => hg2.block i hi (fun e => by injection e with e; omega)⟩)
  clear hg2
  have HO1 := hide hown1
  clear hown1 hgrow1
  rw [run_makeMap]
  go_wp2
  clear hrun
  have hlook : ∀ w', Ext w1 w' → ∀ q : Bool, (Instr.lookup 101 (.map (some w0.heap.size)) (.bool q) false).run Tryz.prog w' = .ok (.int .i64 (bN q)) w' := fun w' hx q => by
    obtain ⟨c, h1, h2, -⟩ := (ownsMap_ext HO1.out hx).lookup_int lawB Tryz.underlying101 Tryz.underlying3 (zeroI w') (Go.Maps.keyOf_bool_mk Tryz.underlying4 q)
    rw [h1, tD_at h2]
  have HL := hide hlook
  clear hlook
  have hs1 : w.heap.size + 1 < w1.heap.size := by have := HX1.out.size; have := HS0.out; omega
  have hs2 : w.heap.size < w1.heap.size := by omega
  have k0 := (HX1.out.cells _ _ (by have := HS0.out; omega)).trans K0.out
  have k1 := (HX1.out.cells _ _ (by have := HS0.out; omega)).trans K1.out
  have k2 := (HX1.out.cells _ _ (by have := HS0.out; omega)).trans K2.out
  have j0 := (HX1.out.cells _ _ (by have := HS0.out; omega)).trans J0.out
  have j1 := (HX1.out.cells _ _ (by have := HS0.out; omega)).trans J1.out
  have j2 := (HX1.out.cells _ _ (by have := HS0.out; omega)).trans J2.out
  obtain ⟨B, hB⟩ : ∃ B, B = w0.heap.size := ⟨_, rfl⟩
  rw [← hB] at HL ⊢
  have HXX := hide (HX0.out.trans HX1.out)
  clear HX0 HS0 HX1 HO1 hB K0 K1 K2 J0 J1 J2
  refine wp_region_ext_tail 19 (by kernel_rfl) (by kernel_rfl) ?_
  simp only [List.take_succ_cons, List.take_zero, List.drop_succ_cons, List.drop_zero]
  iterate 4 (apply quiet_val; (focus rfl); (focus (intro w' hw'; have hk' := hw'.cells; go_simp; all_goals exact rfl)); simp only [Act.put, List.setIfInBounds_toArray, List.set_cons_succ, List.set_cons_zero])
  apply quiet_call; (focus rfl); (focus (intro w' hw'; go_simp; all_goals (first | exact rfl | (apply And.intro <;> exact rfl))))
  · exact fun w' hw' => (Compare_any _ _ w').mono fun e w2 h => ⟨h.1, h.2 ▸ hw'⟩
  (simp only [Act.put, List.setIfInBounds_toArray, List.set_cons_succ, List.set_cons_zero])
  iterate 4 (apply quiet_val; (focus rfl); (focus (intro w' hw'; have hk' := hw'.cells; go_simp; all_goals exact rfl)); simp only [Act.put, List.setIfInBounds_toArray, List.set_cons_succ, List.set_cons_zero])
  apply quiet_call; (focus rfl); (focus (intro w' hw'; go_simp; all_goals (first | exact rfl | (apply And.intro <;> exact rfl))))
  · exact fun w' hw' => (Compare_any _ _ w').mono fun e w2 h => ⟨h.1, h.2 ▸ hw'⟩
  (simp only [Act.put, List.setIfInBounds_toArray, List.set_cons_succ, List.set_cons_zero])
  iterate 3 (apply quiet_val; (focus rfl); (focus (intro w' hw'; have hk' := hw'.cells; go_simp; all_goals exact rfl)); simp only [Act.put, List.setIfInBounds_toArray, List.set_cons_succ, List.set_cons_zero])
  apply quiet_val (v := .int .i64 (bN a.n)); (focus rfl); (focus (intro w' hw'; have hl' := HL.out w' hw' a.n; go_simp; all_goals exact rfl)); (simp only [Act.put, List.setIfInBounds_toArray, List.set_cons_succ, List.set_cons_zero])
  iterate 3 (apply quiet_val; (focus rfl); (focus (intro w' hw'; have hk' := hw'.cells; go_simp; all_goals exact rfl)); simp only [Act.put, List.setIfInBounds_toArray, List.set_cons_succ, List.set_cons_zero])
  apply quiet_val (v := .int .i64 (bN b.n)); (focus rfl); (focus (intro w' hw'; have hl' := HL.out w' hw' b.n; go_simp; all_goals exact rfl)); (simp only [Act.put, List.setIfInBounds_toArray, List.set_cons_succ, List.set_cons_zero])
  apply quiet_call; (focus rfl); (focus (intro w' hw'; go_simp; all_goals (first | exact rfl | (apply And.intro <;> exact rfl))))
  · exact fun w' hw' => (Compare_any _ _ w').mono fun e w2 h => ⟨h.1, h.2 ▸ hw'⟩
  (simp only [Act.put, List.setIfInBounds_toArray, List.set_cons_succ, List.set_cons_zero])
  refine wpQuiet_nil ?_
  intro w2 hx2
  have HX2 := hide (HXX.out.trans hx2)
  clear hx2
  go_wp2_with fail
  refine (Or_any w2.heap.size 3 (cmpI a.x b.x) (cmpI a.v b.v) (cmpI (bN a.n) (bN b.n)) _ (by simp) (by go_simp) (by go_simp) (by go_simp) (Nat.le_refl _)).mono ?_
  rintro e w3 ⟨rfl, rfl⟩
  rw [HV.out]
  go_wp2
  go_ret
  exact Ret.mk rfl (HX2.out.alloc _)
end Go.Proofs.YtgpbmggfpbebmaaGreat
