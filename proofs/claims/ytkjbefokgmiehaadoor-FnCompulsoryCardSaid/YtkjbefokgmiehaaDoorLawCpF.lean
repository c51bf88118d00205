/- The law's walk: FnCompulsory returns true. Printed by gencpf.py. -/
import Derived.Test.YtkjbefokgmiehaaDoorDwT
import Derived.Test.YtkjbefokgmiehaaDoorCompS
import Derived.Test.YtkjbefokgmiehaaDoorValidI
import Derived.Test.YtkjbefokgmiehaaDoorDvI
import Derived.Deep.CutBlock
import Derived.Deep.DeepCutAuto
namespace Go.Proofs.YtkjbefokgmiehaaDoor
open Go.RowKit

/-- The task runs at k for the first n starts. -/
def allC (s d : Int) (k : Nat) : Nat → Bool
  | 0 => true
  | n + 1 => allC s d k n && (decide (at0 (domL s) n ≤ k) && decide ((k : Int) < at0 (domL s) n + d))
theorem comp_all {t : Tk} (hv : vTk t = true) {k : Nat} (hk : k < 11) : (allC t.s t.d k (domL t.s).length != (decide ((compB t).1 ≤ k) && decide ((k : Int) < (compB t).2))) = false := by
  have key : ((List.range 64).all fun i => decide (i = 0) || (List.range 7).all fun d => decide (d = 0) || (List.range 11).all fun k => (allC (i : Int) (d : Int) k (domL (i : Int)).length == (decide ((if decide ((topB i : Int) < lowB i + (d : Int)) = true then ((topB i : Int), (lowB i : Int) + d) else (0, 0)).1 ≤ (k : Int)) && decide ((k : Int) < (if decide ((topB i : Int) < lowB i + (d : Int)) = true then ((topB i : Int), (lowB i : Int) + d) else (0, 0)).2)))) = true := by decide +kernel
  obtain ⟨s, d, m⟩ := t
  have hv0 := hv
  simp only [vTk, vDom, inR, Bool.and_eq_true, decide_eq_true_eq, Bool.not_eq_true', beq_eq_false_iff_ne, ne_eq] at hv
  rw [List.all_eq_true] at key
  have k1 := key s.toNat (List.mem_range.2 (by omega))
  rw [decide_eq_false (by omega), Bool.false_or, List.all_eq_true] at k1
  have k2 := k1 d.toNat (List.mem_range.2 (by omega))
  rw [decide_eq_false (by omega), Bool.false_or, List.all_eq_true] at k2
  have k3 := k2 k (List.mem_range.2 hk)
  rw [show ((s.toNat : Nat) : Int) = s by omega, show ((d.toNat : Nat) : Int) = d by omega, beq_iff_eq] at k3
  unfold compB
  rw [hv0, Bool.true_and]
  simp only
  rw [k3]
  simp
/-- A task came. -/
def DTaskGot (w : World) (e : Ending) (w' : World) : Prop := ∃ s d m : Int, e = .returned (.agg #[.int .i64 s, .int .i64 d, .int .i64 m]) ∧ I64 s ∧ I64 d ∧ I64 m ∧ Ext w w'
set_option maxRecDepth 100000 in
set_option maxHeartbeats 4000000 in
theorem DrawCompulsoryPart_any (v : Value) (n : Nat) (w : World) (hB : SBytes w v n) : Calls Tryd.prog 4 #[v] w (DTaskGot w) := by
  have HB := hide hB
  obtain ⟨A, c, rfl, -⟩ := hB
  go_enter Tryd.func4, Tryd.ntmps4
  go_wp2_with fail
  obtain ⟨w0, hw0⟩ : ∃ w0, w0 = w.alloc (.cells #[.int .i64 0, .int .i64 0, .int .i64 0] 24) := ⟨_, rfl⟩
  have hx0 : Ext w w0 := by rw [hw0]; exact (Ext.refl w).alloc _
  have r0 : w0.cell? ⟨w.heap.size, 0, none⟩ = some (.int .i64 0) := by rw [hw0]; exact World.cell?_alloc_at _ _ _ _ rfl
  have r1 : w0.cell? ⟨w.heap.size, 1, none⟩ = some (.int .i64 0) := by rw [hw0]; exact World.cell?_alloc_at _ _ _ _ rfl
  have r2 : w0.cell? ⟨w.heap.size, 2, none⟩ = some (.int .i64 0) := by rw [hw0]; exact World.cell?_alloc_at _ _ _ _ rfl
  have zz : ∀ i, w0.frozen? ⟨w.heap.size, i, none⟩ = false := by rw [hw0]; exact fun i => World.frozen?_alloc_new _ _ _ _
  have hs0 : w0.heap.size = w.heap.size + 1 := by rw [hw0]; simp
  rw [← hw0]
  clear hw0
  have HX0 := hide hx0
  refine (newReader_any w w0 _ n HB.out hx0).mono ?_
  rintro e w1 ⟨br, rfl, hR, hx1, hbr⟩
  have HX1 := hide hx1
  have hl0 : w.heap.size < w0.heap.size := by omega
  have r0 := (hx1.cells _ _ hl0).trans r0
  have r1 := (hx1.cells _ _ hl0).trans r1
  have r2 := (hx1.cells _ _ hl0).trans r2
  have zz := fun i => (hx1.frz w.heap.size i hl0).trans (zz i)
  have hs1 := hx1.size
  clear hx1 hx0
  go_wp2_with fail
  refine (anyTasks_any w br 0 _ (by omega) hR).mono ?_
  intro e w2 h
  have hbr2 : w.heap.size + 1 ≤ br := by omega
  have hd := TasksGot.to h (HX0.out.trans HX1.out) (by omega)
  have hK : Keep (fun k => k ≠ br) w1 w2 := by
    obtain ⟨_, _, _, _, _, _, _, _, _, _, h8⟩ := h
    exact h8
  have hsl : w.heap.size < w1.heap.size := by omega
  have r0 := (hK.cell (p := ⟨w.heap.size, 0, none⟩) hsl (by show w.heap.size ≠ br; omega)).trans r0
  have r1 := (hK.cell (p := ⟨w.heap.size, 1, none⟩) hsl (by show w.heap.size ≠ br; omega)).trans r1
  have r2 := (hK.cell (p := ⟨w.heap.size, 2, none⟩) hsl (by show w.heap.size ≠ br; omega)).trans r2
  have zz := fun i => (hK.frz (p := ⟨w.heap.size, i, none⟩) hsl (by show w.heap.size ≠ br; omega)).trans (zz i)
  have z0 := zz 0
  have z1 := zz 1
  have z2 := zz 2
  obtain ⟨v2, ts, c2, rfl, ht1, ht8, -, -, ⟨A2, cc2, rfl, hlc, h24, hI, hcells⟩, hx2⟩ := hd
  obtain ⟨b, off, rfl, hbl, hc⟩ := hcells (by omega)
  obtain ⟨f0, f1, f2⟩ := hc 0 (by omega)
  obtain ⟨i0, i1, i2⟩ := hI 0 (by omega)
  rw [Nat.zero_mul, Nat.add_zero] at f0 f1 f2
  generalize tkS ts 0 = s at f0 i0
  generalize tkD ts 0 = d at f1 i1
  generalize tkM ts 0 = m at f2 i2
  have HX2 := hide hx2
  have hts : (0 : Int) < ts.length := by omega
  clear h hK hcells hc hI zz hx2 HB
  go_wp2_with fail
  refine bodyPost_ret (v := .agg #[.int .i64 s, .int .i64 d, .int .i64 m]) (by simp only [results, Tryd.results4]; go_simp) rfl ?_
  exact ⟨s, d, m, rfl, i0, i1, i2, ((HX2.out.set (by show w.heap.size ≤ w.heap.size; omega) _).set (by show w.heap.size ≤ w.heap.size; omega) _).set (by show w.heap.size ≤ w.heap.size; omega) _⟩
set_option maxRecDepth 100000 in
set_option maxHeartbeats 16000000 in
theorem lawCompulsory (v : Value) (n : Nat) (w : World) (hT : TzTab w) (hb : 1 < w.heap.size) (hB : SBytes w v n) (_hn : n ≤ 140737488351232) :
    Calls Tryd.prog 3 #[v] w (Ret (.bool true) w) := by
  have HB := hide hB
  have HT := hide hT
  clear hT
  obtain ⟨A, c, rfl, -⟩ := hB
  by_cases hl : (1048576 : Int) < n
  · go_enter Tryd.func3, Tryd.ntmps3
    go_wp2
    go_ret
    exact Ret.mk rfl (Ext.refl _)
  · go_enter Tryd.func3, Tryd.ntmps3
    go_wp2_with fail
    refine (DrawCompulsoryPart_any _ n _ HB.out).mono ?_
    rintro e w1 ⟨s, d, m, rfl, is, id, im, hx1⟩
    have HX1 := hide hx1
    clear hx1
    go_upto_region 4 with fail
    obtain ⟨w0, hw0⟩ : ∃ w0, w0 = w1.alloc (.cells #[.int .i64 s, .int .i64 d, .int .i64 m] 24) := ⟨_, rfl⟩
    have hx0 : Ext w1 w0 := by rw [hw0]; exact (Ext.refl w1).alloc _
    have k0 : w0.cell? ⟨w1.heap.size, 0, none⟩ = some (.int .i64 s) := by rw [hw0]; exact World.cell?_alloc_at _ _ _ _ rfl
    have k1 : w0.cell? ⟨w1.heap.size, 1, none⟩ = some (.int .i64 d) := by rw [hw0]; exact World.cell?_alloc_at _ _ _ _ rfl
    have k2 : w0.cell? ⟨w1.heap.size, 2, none⟩ = some (.int .i64 m) := by rw [hw0]; exact World.cell?_alloc_at _ _ _ _ rfl
    have ks : w1.heap.size < w0.heap.size := by rw [hw0]; simp
    rw [← hw0]
    clear hw0
    have HX0 := hide (HX1.out.trans hx0)
    clear hx0
    go_wp2_with fail
    refine (CompulsoryPartI_any s d m _ (TzTab.ext HT.out hb HX0.out) (Nat.lt_of_lt_of_le hb HX0.out.size)).mono ?_
    rintro e w2 ⟨rfl, hx2⟩
    have HX2 := hide (HX0.out.trans hx2)
    have k0 := (hx2.cells _ _ ks).trans k0
    have k1 := (hx2.cells _ _ ks).trans k1
    have k2 := (hx2.cells _ _ ks).trans k2
    have ks := Nat.lt_of_lt_of_le ks hx2.size
    clear hx2
    obtain ⟨lo, hi, hp⟩ : ∃ lo hi, compB ⟨s, d, m⟩ = (lo, hi) := ⟨_, _, rfl⟩
    have HP := hide hp
    rw [hp, show pairV (lo, hi) = .tuple #[.int .i64 lo, .int .i64 hi] from rfl]
    clear hp
    go_wp2_with fail
    refine (CompulsoryPartS_any s d m _ is id im).mono ?_
    rintro e w3 ⟨rfl, hx3⟩
    have HX3 := hide (HX2.out.trans hx3)
    have k0 := (hx3.cells _ _ ks).trans k0
    have k1 := (hx3.cells _ _ ks).trans k1
    have k2 := (hx3.cells _ _ ks).trans k2
    have ks := Nat.lt_of_lt_of_le ks hx3.size
    clear hx3
    rw [HP.out, show pairV (lo, hi) = .tuple #[.int .i64 lo, .int .i64 hi] from rfl]
    have e1 : (lo != lo) = false := by simp
    have e2 : (hi != hi) = false := by simp
    have e3 : (lo == lo) = true := by simp
    have e4 : (hi == hi) = true := by simp
    have HT1 := hide (show STasks (w3.alloc (.cells #[.int .i64 s, .int .i64 d, .int .i64 m] 24)) (.slice (some ⟨w3.heap.size, 0, none⟩) 1 1) [⟨s, d, m⟩] from
      ⟨_, _, rfl, Nat.le_refl _, by simp, fun i hi => by
        obtain rfl : i = 0 := by simpa using hi
        exact ⟨is, id, im⟩, fun _ => ⟨w3.heap.size, 0, rfl, by simp, fun i hi => by
        obtain rfl : i = 0 := by simpa using hi
        exact ⟨World.cell?_alloc_at _ _ _ _ rfl, World.cell?_alloc_at _ _ _ _ rfl, World.cell?_alloc_at _ _ _ _ rfl⟩⟩⟩)
    have hx3a : Ext w3 (w3.alloc (.cells #[.int .i64 s, .int .i64 d, .int .i64 m] 24)) := (Ext.refl w3).alloc _
    go_wp2_with fail
    refine (ValidTasksI_any _ [⟨s, d, m⟩] 0 _ HT1.out).mono ?_
    rintro e w4 ⟨rfl, hx4⟩
    rw [show (vTks [(⟨s, d, m⟩ : Tk)] && inR 0 0 9) = vTk ⟨s, d, m⟩ by simp [vTks, inR]]
    have hx4 := hx3a.trans hx4
    have HX4 := hide (HX3.out.trans hx4)
    have k0 := (hx4.cells _ _ ks).trans k0
    have k1 := (hx4.cells _ _ ks).trans k1
    have k2 := (hx4.cells _ _ ks).trans k2
    have ks := Nat.lt_of_lt_of_le ks hx4.size
    clear hx4 hx3a
    cases hv : vTk ⟨s, d, m⟩ with
    | false =>
      go_wp2_with fail
      go_ret
      exact Ret.mk rfl HX4.out
    | true =>
      have HALL := hide (fun (k : Nat) (hk : k < 11) => comp_all hv hk)
      have hsd : (1 ≤ s ∧ s ≤ 63) ∧ (1 ≤ d ∧ d ≤ 6) := by
        simp only [vTk, vDom, inR, Bool.and_eq_true, decide_eq_true_eq, Bool.not_eq_true', beq_eq_false_iff_ne, ne_eq] at hv
        omega
      simp only [HP.out] at HALL
      clear hv
      go_wp2_with fail
      refine (DomainValuesI_any s _ (by simp only [vDom, inR, Bool.and_eq_true, decide_eq_true_eq]; omega)).mono ?_
      rintro e w5 hres
      have hx5 : Ext w4 w5 := by obtain ⟨_, _, _, _, _, _, _, _, _, _, hx⟩ := hres; exact hx
      have hl6 := domL_len s
      have hbd : ∀ i, i < (domL s).length → 0 ≤ at0 (domL s) i ∧ at0 (domL s) i < 6 := fun i hi => by
        have := domL_bd s hi
        omega
      obtain ⟨xs, hxs⟩ : ∃ xs, xs = domL s := ⟨_, rfl⟩
      rw [← hxs] at hres hl6 hbd
      obtain ⟨A5, c5, b5, m5, f5, rfl, hcp, h8, -, ho, -⟩ := hres
      have HS5 := hide (SInts.own hcp h8 ho (fun i hi => by have := hbd i hi; unfold I64; omega))
      have HXS := hide hxs
      have HBD := hide hbd
      have HX5 := hide (HX4.out.trans hx5)
      have k1 := (hx5.cells _ _ ks).trans k1
      have ks := Nat.lt_of_lt_of_le ks hx5.size
      have K1 := hide k1
      clear hx5 ho hxs hbd k0 k1 k2
      obtain ⟨wb, hwb⟩ : ∃ wb, wb = w5 := ⟨w5, rfl⟩
      subst hwb
      go_wp2_with fail
      go_loopw [9] (fun i wr => ∃ k : Nat, i = .int .i64 k ∧ k ≤ 11 ∧ Ext wb wr) (fun i _ => 11 - (intOf i).toNat)
      case atStart => exact ⟨0, rfl, by omega, Ext.refl wb⟩
      case round =>
        obtain ⟨k, rfl, hk, hx⟩ := hrel
        by_cases hkl : k < 11
        · have hkI : (k : Int) < 11 := by omega
          have hkd : decide ((k : Int) < 11) = true := by simp; omega
          have HXk := hide hx
          clear hx
          obtain ⟨wq, hwq⟩ : ∃ wq, wq = wr := ⟨wr, rfl⟩
          subst hwq
          go_wp2_with fail
          go_loopw [10, 11] (fun q i wz => ∃ j : Nat, i = .int .i64 j ∧ j ≤ xs.length ∧ q = .bool (allC s d k j) ∧ Ext wq wz) (fun _ i _ => xs.length - (intOf i).toNat)
          case atStart => exact ⟨0, rfl, Nat.zero_le _, rfl, Ext.refl wq⟩
          case round =>
            obtain ⟨j, rfl, hj, rfl, hx⟩ := hrel
            by_cases hjl : j < xs.length
            · have hjI : (j : Int) < xs.length := by omega
              obtain ⟨b', off', hae, hbl', f1⟩ := (HS5.out.ext (HXk.out.trans hx)).at_ hjl
              subst hae
              have kd := ((HXk.out.trans hx).cells _ _ ks).trans K1.out
              obtain ⟨q0, q1⟩ := HBD.out j hjl
              obtain ⟨z, hz⟩ : ∃ z, z = at0 xs j := ⟨_, rfl⟩
              rw [← hz] at f1 q0 q1
              have hsucc : allC s d k (j + 1) = (allC s d k j && (decide (z ≤ k) && decide ((k : Int) < z + d))) := by rw [allC, hz, HXS.out]
              have HSUCC := hide hsucc
              have hw : IntKind.i64.wrap (z + d) = z + d := IntWalk.i64_in _ (by omega)
              have HXj := hide hx
              clear hx hz hsucc
              obtain ⟨ac, hac⟩ : ∃ ac, ac = allC s d k j := ⟨_, rfl⟩
              rw [← hac] at HSUCC ⊢
              clear hac
              have hks := Nat.lt_of_lt_of_le ks (HXk.out.trans HXj.out).size
              cases hA : ac with
              | false =>
                rw [hA] at HSUCC
                clear hA
                go_wp2_with fail
                refine wp_region_ext (by kernel_rfl) (by kernel_rfl) ?_
                iterate 2 (apply quiet_val; (focus rfl); (focus (intro w' hw'; have hk' := hw'.cells; go_simp; all_goals exact rfl)); simp only [Act.put, List.setIfInBounds_toArray, List.set_cons_succ, List.set_cons_zero])
                iterate 6 go_big_quiet_skip
                iterate 2 (apply quiet_val; (focus rfl); (focus (intro w' hw'; have hk' := hw'.cells; go_simp; all_goals exact rfl)); simp only [Act.put, List.setIfInBounds_toArray, List.set_cons_succ, List.set_cons_zero])
                iterate 9 go_big_quiet_skip
                iterate 2 (apply quiet_val; (focus rfl); (focus (intro w' hw'; have hk' := hw'.cells; go_simp; all_goals exact rfl)); simp only [Act.put, List.setIfInBounds_toArray, List.set_cons_succ, List.set_cons_zero])
                refine wpQuiet_nil ?_
                intro w6 hx6
                have HX6 := hide (HXj.out.trans hx6)
                clear hx6 f1 kd
                go_wp2_with fail
                go_roundw
                case rel => exact ⟨j + 1, by go_num, by omega, by rw [HSUCC.out]; rfl, HX6.out⟩
                case measure => simp [intOf]; omega
              | true =>
                rw [hA] at HSUCC
                clear hA
                cases h1 : decide (z ≤ (k : Int)) with
                | false =>
                  have H1 := hide h1
                  go_wp2_with fail
                  refine wp_region_ext (by kernel_rfl) (by kernel_rfl) ?_
                  iterate 2 (apply quiet_val; (focus rfl); (focus (intro w' hw'; have hk' := hw'.cells; go_simp; all_goals exact rfl)); simp only [Act.put, List.setIfInBounds_toArray, List.set_cons_succ, List.set_cons_zero])
                  iterate 6 (go_big_quiet_want; apply quietK_val; (focus (intro w' hw'; have hk' := hw'.cells; go_simp; all_goals exact rfl)); simp only [Act.put, List.setIfInBounds_toArray, List.set_cons_succ, List.set_cons_zero]; go_big_quiet_on)
                  iterate 2 (apply quiet_val; (focus rfl); (focus (intro w' hw'; have hk' := hw'.cells; go_simp; all_goals exact rfl)); simp only [Act.put, List.setIfInBounds_toArray, List.set_cons_succ, List.set_cons_zero])
                  iterate 9 go_big_quiet_skip
                  iterate 2 (apply quiet_val; (focus rfl); (focus (intro w' hw'; have hk' := hw'.cells; go_simp; all_goals exact rfl)); simp only [Act.put, List.setIfInBounds_toArray, List.set_cons_succ, List.set_cons_zero])
                  refine wpQuiet_nil ?_
                  intro w6 hx6
                  have HX6 := hide (HXj.out.trans hx6)
                  clear hx6 f1 kd h1
                  go_wp2_with fail
                  go_roundw
                  case rel => exact ⟨j + 1, by go_num, by omega, by rw [HSUCC.out, H1.out]; rfl, HX6.out⟩
                  case measure => simp [intOf]; omega
                | true =>
                  have H1 := hide h1
                  go_wp2_with fail
                  refine wp_region_ext (by kernel_rfl) (by kernel_rfl) ?_
                  iterate 2 (apply quiet_val; (focus rfl); (focus (intro w' hw'; have hk' := hw'.cells; go_simp; all_goals exact rfl)); simp only [Act.put, List.setIfInBounds_toArray, List.set_cons_succ, List.set_cons_zero])
                  iterate 6 (go_big_quiet_want; apply quietK_val; (focus (intro w' hw'; have hk' := hw'.cells; go_simp; all_goals exact rfl)); simp only [Act.put, List.setIfInBounds_toArray, List.set_cons_succ, List.set_cons_zero]; go_big_quiet_on)
                  iterate 2 (apply quiet_val; (focus rfl); (focus (intro w' hw'; have hk' := hw'.cells; go_simp; all_goals exact rfl)); simp only [Act.put, List.setIfInBounds_toArray, List.set_cons_succ, List.set_cons_zero])
                  iterate 9 (go_big_quiet_want; apply quietK_val; (focus (intro w' hw'; have hk' := hw'.cells; go_simp; all_goals exact rfl)); simp only [Act.put, List.setIfInBounds_toArray, List.set_cons_succ, List.set_cons_zero]; go_big_quiet_on)
                  iterate 2 (apply quiet_val; (focus rfl); (focus (intro w' hw'; have hk' := hw'.cells; go_simp; all_goals exact rfl)); simp only [Act.put, List.setIfInBounds_toArray, List.set_cons_succ, List.set_cons_zero])
                  refine wpQuiet_nil ?_
                  intro w6 hx6
                  have HX6 := hide (HXj.out.trans hx6)
                  clear hx6 f1 kd h1
                  go_wp2_with fail
                  go_roundw
                  case rel => exact ⟨j + 1, by go_num, by omega, by rw [HSUCC.out, H1.out]; rfl, HX6.out⟩
                  case measure => simp [intOf]; omega
            · obtain rfl : j = xs.length := by omega
              have hjI : ¬ ((xs.length : Int) < xs.length) := by omega
              have HA := hide (HALL.out k hkl)
              have HXE := hide (HXk.out.trans hx)
              clear hx
              obtain ⟨ac, hac⟩ : ∃ ac, ac = allC s d k xs.length := ⟨_, rfl⟩
              have HAC := hide (show (ac != (decide (lo ≤ k) && decide ((k : Int) < hi))) = false by rw [hac, HXS.out]; exact HA.out)
              rw [← hac]
              clear hac
              cases h1 : decide (lo ≤ (k : Int)) with
              | false =>
                obtain rfl : ac = false := by have := HAC.out; rw [h1] at this; simpa using this
                clear HAC HA
                go_wp2_with fail
                go_roundw
                case rel => exact ⟨k + 1, by go_num, by omega, HXE.out⟩
                case measure => simp [intOf]; omega
              | true =>
                cases h3 : decide ((k : Int) < hi) with
                | false =>
                  obtain rfl : ac = false := by have := HAC.out; rw [h1, h3] at this; simpa using this
                  clear HAC HA
                  go_wp2_with fail
                  go_roundw
                  case rel => exact ⟨k + 1, by go_num, by omega, HXE.out⟩
                  case measure => simp [intOf]; omega
                | true =>
                  obtain rfl : ac = true := by have := HAC.out; rw [h1, h3] at this; simpa using this
                  clear HAC HA
                  go_wp2_with fail
                  go_roundw
                  case rel => exact ⟨k + 1, by go_num, by omega, HXE.out⟩
                  case measure => simp [intOf]; omega
        · obtain rfl : k = 11 := by omega
          go_wp2_with fail
          go_ret
          exact Ret.mk rfl (HX5.out.trans hx)
end Go.Proofs.YtkjbefokgmiehaaDoor
