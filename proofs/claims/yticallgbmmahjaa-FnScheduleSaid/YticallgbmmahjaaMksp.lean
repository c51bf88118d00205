/- The walks of Makespan, in the reference and in the program. -/
import Derived.Test.YticallgbmmahjaaQ12
import Derived.Test.YticallgbmmahjaaUtlA
namespace Go.Proofs.Yticallgbmmahjaa
open Go.RowKit

/-- The latest end of the first k tasks. -/
def mk (ts : List Tk) (xs : List Int) : Nat → Int
  | 0 => 0
  | k + 1 => if mk ts xs k < at0 xs k + tkD ts k then at0 xs k + tkD ts k else mk ts xs k
/-- The tasks and their starts are valid. -/
def okTS (ts : List Tk) (xs : List Int) : Bool := vTks ts && (decide (xs.length = ts.length) && allR xs 0 5)
def mkspan (ts : List Tk) (xs : List Int) : Int := if okTS ts xs then mk ts xs ts.length else -1
theorem vTks_at {ts : List Tk} (h : vTks ts = true) {k : Nat} (hk : k < ts.length) : 0 ≤ tkS ts k ∧ tkS ts k ≤ 63 ∧ tkS ts k ≠ 0 ∧ 1 ≤ tkD ts k ∧ tkD ts k ≤ 6 ∧ 0 ≤ tkM ts k ∧ tkM ts k ≤ 9 := by
  have h1 : ts.all vTk = true := by
    unfold vTks at h
    simp only [Bool.and_eq_true] at h
    exact h.1
  have h2 := List.all_eq_true.1 h1 _ (tk0_mem hk)
  simp [vTk, vDom, inR] at h2
  unfold tkS tkD tkM
  omega
theorem vTks_len {ts : List Tk} (h : vTks ts = true) : 1 ≤ ts.length ∧ ts.length ≤ 4 := by
  unfold vTks inR at h
  simp at h
  omega
theorem okTS_iff {ts : List Tk} {xs : List Int} : okTS ts xs = true ↔ vTks ts = true ∧ xs.length = ts.length ∧ allR xs 0 5 = true := by simp [okTS]
theorem mk_bd {ts : List Tk} {xs : List Int} (h : okTS ts xs = true) : ∀ k, k ≤ ts.length → 0 ≤ mk ts xs k ∧ mk ts xs k ≤ 11 := by
  obtain ⟨h1, h2, h3⟩ := okTS_iff.1 h
  intro k
  induction k with
  | zero => intro _; simp [mk]
  | succ k ih =>
    intro hk
    have := ih (by omega)
    have a := allR_at h3 (k := k) (by omega)
    have b := vTks_at h1 (k := k) (by omega)
    unfold mk
    split <;> omega

theorem validStarts_any (v v' : Value) (ts : List Tk) (xs : List Int) (w : World) (hT : STasks w v ts) (hS : SInts w v' xs) :
    Calls Try.prog 26 #[v, v'] w fun e w' => e = .returned (.bool (decide (xs.length = ts.length) && allR xs 0 5)) ∧ w = w' := by
  have hS0 := hide hS
  obtain ⟨A, cp, rfl, hl, hlen⟩ := hS.form
  obtain ⟨A', cp', rfl, hl', hlen'⟩ := hT.form
  clear hS hT
  by_cases h1 : xs.length = ts.length
  · have h1' : ((xs.length : Int) == ts.length) = true := by simp [h1]
    have H1 := hide h1; clear h1
    go_enter Try.func26, Try.ntmps26
    go_wp2_with (go_at_call 53; refine (allInRange_any _ xs _ _ _ hS0.out).mono ?_; rintro e w' ⟨rfl, rfl⟩)
    go_ret
    exact ⟨ret_b (by simp [H1.out]), rfl⟩
  · have h1' : ((xs.length : Int) == ts.length) = false := by simp; omega
    go_enter Try.func26, Try.ntmps26
    go_wp2
    go_ret
    exact ⟨ret_b (by simp [h1]), rfl⟩

set_option maxHeartbeats 1000000 in
theorem makespanS_any (v v' : Value) (ts : List Tk) (xs : List Int) (w : World) (hT : STasks w v ts) (hS : SInts w v' xs) (hok : okTS ts xs = true) :
    Calls Try.prog 65 #[v, v'] w (Ret (.int .i64 (mk ts xs ts.length)) w) := by
  have hT0 := hide hT
  have hS0 := hide hS
  obtain ⟨A, cp, rfl, hl, hlen⟩ := hS.form
  obtain ⟨A', cp', rfl, hl', hlen'⟩ := hT.form
  clear hS hT
  obtain ⟨g1, g2, g3⟩ := okTS_iff.1 hok
  have G2 := hide g2; clear g2
  go_enter Try.func65, Try.ntmps65
  go_wp2
  go_loopw [5, 6] (fun e i wr => ∃ k : Nat, k ≤ ts.length ∧ i = .int .i64 k ∧ e = .int .i64 (mk ts xs k) ∧ Ext w wr) (fun _ i _ => ts.length - (intOf i).toNat)
  case atStart => exact ⟨0, Nat.zero_le _, rfl, rfl, Ext.refl w⟩
  case round =>
    obtain ⟨k, hk, rfl, rfl, hx⟩ := hrel
    by_cases hlt : k < ts.length
    · have hltx : k < xs.length := by rw [G2.out]; exact hlt
      obtain ⟨b, off, rfl, hbl, f1⟩ := (hS0.out.ext hx).at_ hltx
      obtain ⟨b', off', rfl, hbl', c1, c2, c3⟩ := (hT0.out.ext hx).at_ hlt
      obtain ⟨p1, p2⟩ := mk_bd hok k hk
      obtain ⟨p3, p4⟩ := allR_at g3 hltx
      obtain ⟨-, -, -, p5, p6, -, -⟩ := vTks_at g1 hlt
      by_cases hc : mk ts xs k < at0 xs k + tkD ts k
      · have hm : mk ts xs (k + 1) = at0 xs k + tkD ts k := by rw [mk, if_pos hc]
        have HM := hide hm; clear hm
        go_wp2
        refine wp_region_ext (by kernel_rfl) (by kernel_rfl) ?_
        have hwr := IntWalk.i64_in (at0 xs k + tkD ts k) (by omega)
        iterate 12 (apply quiet_val; (focus rfl); (focus (intro w' hw'; have hk' := hw'.cells; go_simp; all_goals exact rfl)); simp only [Act.put, List.setIfInBounds_toArray, List.set_cons_succ, List.set_cons_zero])
        clear hwr
        refine wpQuiet_nil ?_
        intro w2 hx2
        go_wp2
        refine wp_region_ext (by kernel_rfl) (by kernel_rfl) ?_
        have hwr := IntWalk.i64_in (at0 xs k + tkD ts k) (by omega)
        have f1' := (hx2.cells _ _ hbl).trans f1
        have c2' := (hx2.cells _ _ hbl').trans c2
        have hbl2 := Nat.lt_of_lt_of_le hbl hx2.size
        have hbl2' := Nat.lt_of_lt_of_le hbl' hx2.size
        iterate 11 (apply quiet_val; (focus rfl); (focus (intro w' hw'; have hk' := hw'.cells; go_simp; all_goals exact rfl)); simp only [Act.put, List.setIfInBounds_toArray, List.set_cons_succ, List.set_cons_zero])
        clear hwr
        refine wpQuiet_nil ?_
        intro w3 hx3
        go_wp2
        go_roundw
        case rel => exact ⟨k + 1, by omega, by go_num, by rw [HM.out], (hx.trans hx2).trans hx3⟩
        case measure => simp [intOf]; omega
      · have hm : mk ts xs (k + 1) = mk ts xs k := by rw [mk, if_neg hc]
        have HM := hide hm; clear hm
        go_wp2
        refine wp_region_ext (by kernel_rfl) (by kernel_rfl) ?_
        have hwr := IntWalk.i64_in (at0 xs k + tkD ts k) (by omega)
        iterate 12 (apply quiet_val; (focus rfl); (focus (intro w' hw'; have hk' := hw'.cells; go_simp; all_goals exact rfl)); simp only [Act.put, List.setIfInBounds_toArray, List.set_cons_succ, List.set_cons_zero])
        clear hwr
        refine wpQuiet_nil ?_
        intro w2 hx2
        go_wp2
        go_roundw
        case rel => exact ⟨k + 1, by omega, by go_num, by rw [HM.out], hx.trans hx2⟩
        case measure => simp [intOf]; omega
    · have hkl : k = ts.length := by omega
      subst hkl
      go_wp2
      go_ret
      exact Ret.mk rfl hx

theorem mk_max (ts : List Tk) (xs : List Int) (k : Nat) : mk ts xs (k + 1) = if mk ts xs k < at0 xs k + tkD ts k then at0 xs k + tkD ts k else mk ts xs k := by rw [mk]
set_option maxHeartbeats 1000000 in
theorem makespanI_any (v v' : Value) (ts : List Tk) (xs : List Int) (w : World) (hT : STasks w v ts) (hS : SInts w v' xs) (hok : okTS ts xs = true) :
    Calls Try.prog 36 #[v, v'] w (Ret (.int .i64 (mk ts xs ts.length)) w) := by
  have hT0 := hide hT
  have hS0 := hide hS
  obtain ⟨A, cp, rfl, hl, hlen⟩ := hS.form
  obtain ⟨A', cp', rfl, hl', hlen'⟩ := hT.form
  clear hS hT
  obtain ⟨g1, g2, g3⟩ := okTS_iff.1 hok
  have G2 := hide g2; clear g2
  go_enter Try.func36, Try.ntmps36
  go_wp2
  go_loopw [5, 10] (fun e i wr => ∃ k : Nat, k ≤ ts.length ∧ i = .int .i64 k ∧ e = .int .i64 (mk ts xs k) ∧ Ext w wr) (fun _ i _ => ts.length - (intOf i).toNat)
  case atStart => exact ⟨0, Nat.zero_le _, rfl, rfl, Ext.refl w⟩
  case round =>
    obtain ⟨k, hk, rfl, rfl, hx⟩ := hrel
    by_cases hlt : k < ts.length
    · have hltx : k < xs.length := by rw [G2.out]; exact hlt
      obtain ⟨b, off, rfl, hbl, f1⟩ := (hS0.out.ext hx).at_ hltx
      obtain ⟨b', off', rfl, hbl', c1, c2, c3⟩ := (hT0.out.ext hx).at_ hlt
      obtain ⟨p1, p2⟩ := mk_bd hok k hk
      obtain ⟨p3, p4⟩ := allR_at g3 hltx
      obtain ⟨-, -, -, p5, p6, -, -⟩ := vTks_at g1 hlt
      have hm := mk_max ts xs k
      have HM := hide hm; clear hm
      go_wp2
      refine wp_region_ext (by kernel_rfl) (by kernel_rfl) ?_
      have hwr := IntWalk.i64_in (at0 xs k + tkD ts k) (by omega)
      iterate 10 (apply quiet_val; (focus rfl); (focus (intro w' hw'; have hk' := hw'.cells; go_simp; all_goals exact rfl)); simp only [Act.put, List.setIfInBounds_toArray, List.set_cons_succ, List.set_cons_zero])
      clear hwr
      refine wpQuiet_nil ?_
      intro w2 hx2
      go_wp2
      go_roundw
      case rel => exact ⟨k + 1, by omega, by go_num, by rw [HM.out], (hx.alloc _).trans hx2⟩
      case measure => simp [intOf]; omega
    · have hkl : k = ts.length := by omega
      subst hkl
      go_wp2
      go_ret
      exact Ret.mk rfl hx

theorem MakespanI_any (v v' : Value) (ts : List Tk) (xs : List Int) (w : World) (hT : STasks w v ts) (hS : SInts w v' xs) :
    Calls Try.prog 17 #[v, v'] w (Ret (.int .i64 (mkspan ts xs)) w) := by
  have hT0 := hide hT
  obtain ⟨A', cp', rfl, hl', hlen'⟩ := hT.form
  clear hT
  have ei : decide ((xs.length : Int) = ts.length) = decide (xs.length = ts.length) := by simp [Int.natCast_inj]
  have Ei := hide ei; clear ei
  by_cases h1 : vTks ts = true
  · by_cases h2 : (decide (xs.length = ts.length) && allR xs 0 5) = true
    · have hok : okTS ts xs = true := by rw [okTS, h1, h2]; rfl
      have hm : mkspan ts xs = mk ts xs ts.length := by rw [mkspan, if_pos hok]
      have HM := hide hm; clear hm
      go_enter Try.func17, Try.ntmps17
      go_wp2_with (first | (go_at_call 22; refine (tasksOk_any _ ts _ hT0.out).mono ?_; rintro e w1 ⟨rfl, hx1⟩) | (go_at_call 23; refine (assigned_any _ xs _ _ (hS.ext hx1)).mono ?_; rintro e w2 ⟨rfl, hx2⟩; rw [Ei.out, h2]) | (go_at_call 36; refine (makespanI_any _ _ ts xs _ (hT0.out.ext (hx1.trans hx2)) (hS.ext (hx1.trans hx2)) hok).mono ?_; rintro e w3 ⟨rfl, hx3⟩))
      go_ret
      exact Ret.mk (ret_i HM.out.symm) ((hx1.trans hx2).trans hx3)
    · have h2' : (decide (xs.length = ts.length) && allR xs 0 5) = false := Bool.eq_false_iff.2 h2
      have hm : mkspan ts xs = -1 := by rw [mkspan, if_neg (by rw [okTS, h2']; simp)]
      have HM := hide hm; clear hm
      clear h2
      go_enter Try.func17, Try.ntmps17
      go_wp2_with (first | (go_at_call 22; refine (tasksOk_any _ ts _ hT0.out).mono ?_; rintro e w1 ⟨rfl, hx1⟩) | (go_at_call 23; refine (assigned_any _ xs _ _ (hS.ext hx1)).mono ?_; rintro e w2 ⟨rfl, hx2⟩; rw [Ei.out, h2']))
      go_ret
      exact Ret.mk (ret_i HM.out.symm) (hx1.trans hx2)
  · have h1' : vTks ts = false := Bool.eq_false_iff.2 h1
    have hm : mkspan ts xs = -1 := by rw [mkspan, if_neg (by rw [okTS, h1']; simp)]
    have HM := hide hm; clear hm
    clear h1
    go_enter Try.func17, Try.ntmps17
    go_wp2_with (go_at_call 22; refine (tasksOk_any _ ts _ hT0.out).mono ?_; rintro e w1 ⟨rfl, hx1⟩)
    go_ret
    exact Ret.mk (ret_i HM.out.symm) hx1
end Go.Proofs.Yticallgbmmahjaa
