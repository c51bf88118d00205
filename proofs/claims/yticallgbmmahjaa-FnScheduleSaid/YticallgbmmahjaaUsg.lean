/- The walks of Usage, in the reference and in the program. -/
import Derived.Test.YticallgbmmahjaaMksp
import Derived.Test.YticallgbmmahjaaLwsA
import Derived.Test.YticallgbmmahjaaTail
namespace Go.Proofs.Yticallgbmmahjaa
open Go.RowKit

/-- The demand of the first k tasks at time t. -/
def us (ts : List Tk) (xs : List Int) : Nat → Nat → Int
  | 0, _ => 0
  | k + 1, t => us ts xs k t + (if at0 xs k ≤ (t : Int) ∧ (t : Int) < at0 xs k + tkD ts k then tkM ts k else 0)
/-- The demand of the first k tasks, and of task k in its first j times. -/
def usP (ts : List Tk) (xs : List Int) (k : Nat) (j : Nat) (t : Nat) : Int := us ts xs k t + (if at0 xs k ≤ (t : Int) ∧ (t : Int) < at0 xs k + j then tkM ts k else 0)
def usL (ts : List Tk) (xs : List Int) : List Int := (List.range 11).map (us ts xs ts.length)
def usageL (ts : List Tk) (xs : List Int) : List Int := if okTS ts xs then usL ts xs else []
theorem us_bd {ts : List Tk} {xs : List Int} (h : okTS ts xs = true) (t : Nat) : ∀ k, k ≤ ts.length → 0 ≤ us ts xs k t ∧ us ts xs k t ≤ 9 * k := by
  obtain ⟨h1, h2, h3⟩ := okTS_iff.1 h
  intro k
  induction k with
  | zero => intro _; simp [us]
  | succ k ih =>
    intro hk
    have := ih (by omega)
    have b := vTks_at h1 (k := k) (by omega)
    unfold us
    split <;> omega
theorem usP_zero (ts : List Tk) (xs : List Int) (k t : Nat) : usP ts xs k 0 t = us ts xs k t := by
  unfold usP
  rw [if_neg (by omega)]; omega
theorem usP_full (ts : List Tk) (xs : List Int) (k t j : Nat) (hj : (j : Int) = tkD ts k) : usP ts xs k j t = us ts xs (k + 1) t := by
  unfold usP
  rw [us, hj]
/-- The cells of a row of 11 numbers. -/
def ucell (g : Nat → Int) (j : Nat) : Value := .int .i64 (g j)
theorem usP_step (ts : List Tk) (xs : List Int) (k j x : Nat) (hx : at0 xs k = x) (i : Nat) :
    (if i = x + j then Value.int .i64 (usP ts xs k j (x + j) + tkM ts k) else ucell (usP ts xs k j) i) = ucell (usP ts xs k (j + 1)) i := by
  unfold ucell usP
  by_cases h : i = x + j
  · subst h
    rw [if_pos rfl, if_neg (by omega), if_pos (by omega)]
    congr 1; omega
  · rw [if_neg h]
    by_cases h' : at0 xs k ≤ (i : Int) ∧ (i : Int) < at0 xs k + j
    · rw [if_pos h', if_pos (by omega)]
    · rw [if_neg h', if_neg (by omega)]
theorem row_us {w : World} {b : Nat} {t : TypeId} {n : Nat} {ts : List Tk} {xs : List Int} {k j x : Nat} (hx : at0 xs k = x) (h : w.rowIs b t n (ucell (usP ts xs k j))) :
    (w.setCell ⟨b, x + j, none⟩ (.int .i64 (usP ts xs k j (x + j) + tkM ts k))).rowIs b t n (ucell (usP ts xs k (j + 1))) :=
  (h.set _ _).congr fun i _ => usP_step ts xs k j x hx i

theorem usL_len (ts : List Tk) (xs : List Int) : (usL ts xs).length = 11 := by simp [usL]
theorem usL_at (ts : List Tk) (xs : List Int) {i : Nat} (hi : i < 11) : at0 (usL ts xs) i = us ts xs ts.length i := by
  unfold at0
  rw [getD_lt _ _ (by rw [usL_len]; exact hi)]
  simp [usL]
theorem row_usL {w : World} {b : Nat} {t : TypeId} {ts : List Tk} {xs : List Int} (h : w.rowIs b t 11 (ucell (us ts xs ts.length))) : w.rowIs b t (usL ts xs).length (icell (usL ts xs) (usL ts xs).length) := by
  rw [usL_len]
  refine h.congr fun i hi => ?_
  unfold icell ucell
  rw [if_pos hi, usL_at ts xs hi]

set_option maxHeartbeats 2000000 in
theorem usageS_any (v v' : Value) (ts : List Tk) (xs : List Int) (w : World) (hT : STasks w v ts) (hS : SInts w v' xs) (hok : okTS ts xs = true) :
    Calls Try.prog 27 #[v, v'] w (NewInts (usL ts xs) w) := by
  have hT0 := hide hT
  have hS0 := hide hS
  obtain ⟨A, cp, rfl, hl, hlen⟩ := hS.form
  obtain ⟨A', cp', rfl, hl', hlen'⟩ := hT.form
  clear hS hT
  obtain ⟨g1, g2, g3⟩ := okTS_iff.1 hok
  have G2 := hide g2; clear g2
  have hl4 := (vTks_len g1).2
  go_enter Try.func27, Try.ntmps27
  go_wp2_with (at_make; go_must (refine wpList_make_gen _ rfl _ _ 24 rfl 3 (.int .i64 0) 1 8 Try.underlying24 Try.infoI .i64 .i64 11 rfl rfl (by omega) (by omega) (fun _ => .int .i64 0) (fun i _ => by simp [Value.cells, Nat.mod_one]) ?_); intro w1 hrow hsz hx)
  have hrow0 : w1.rowIs w.heap.size 3 11 (ucell (us ts xs 0)) := hrow.congr fun i _ => by simp [ucell, us]
  have Hrow := hide hrow0; clear hrow0 hrow
  go_loopw [6] (fun i wr => ∃ k : Nat, k ≤ ts.length ∧ i = .int .i64 k ∧ Ext w wr ∧ wr.rowIs w.heap.size 3 11 (ucell (us ts xs k))) (fun i _ => ts.length - (intOf i).toNat)
  case atStart => exact ⟨0, Nat.zero_le _, rfl, hx, Hrow.out⟩
  case round =>
    obtain ⟨k, hk, rfl, hxr, hr⟩ := hrel
    by_cases hlt : k < ts.length
    · have hltx : k < xs.length := by rw [G2.out]; exact hlt
      obtain ⟨b, off, rfl, hbl, f1⟩ := (hS0.out.ext hxr).at_ hltx
      obtain ⟨b', off', rfl, hbl', c1, c2, c3⟩ := (hT0.out.ext hxr).at_ hlt
      obtain ⟨p3, p4⟩ := allR_at g3 hltx
      obtain ⟨-, -, -, p5, p6, p7, p8⟩ := vTks_at g1 hlt
      obtain ⟨x, hx0⟩ := Int.eq_ofNat_of_zero_le p3
      obtain ⟨d, hd0⟩ := Int.eq_ofNat_of_zero_le (show 0 ≤ tkD ts k by omega)
      have Hr : Hid (wr.rowIs w.heap.size 3 11 (ucell (usP ts xs k 0))) := hr.congr fun i _ => by rw [ucell, ucell, usP_zero]
      clear hr
      rw [hx0] at f1 p3 p4
      rw [hd0] at c2 p5 p6
      have Hx0 := hide hx0; clear hx0
      have Hd0 := hide hd0; clear hd0
      go_wp2
      go_loopw [7] (fun q wr2 => ∃ j : Nat, j ≤ d ∧ q = .int .i64 ((x + j : Nat) : Int) ∧ Ext w wr2 ∧ wr2.rowIs w.heap.size 3 11 (ucell (usP ts xs k j))) (fun q _ => x + d - (intOf q).toNat)
      case atStart => exact ⟨0, Nat.zero_le _, rfl, hxr, Hr.out⟩
      case round =>
        obtain ⟨j, hj, rfl, hx2, hr2⟩ := hrel
        have hB : w.heap.size < wr.heap.size := hr2.lt
        have Hr2 := hide hr2
        obtain ⟨b1, off1, e1, hbl1, f1'⟩ := (hS0.out.ext hx2).at_ hltx
        injection e1 with e1; injection e1 with e1 e2; subst e1; subst e2
        obtain ⟨b2, off2, e1, hbl2, c1', c2', c3'⟩ := (hT0.out.ext hx2).at_ hlt
        injection e1 with e1; injection e1 with e1 e2; subst e1; subst e2
        rw [Hx0.out] at f1'
        rw [Hd0.out] at c2'
        by_cases hjd : j < d
        · have u0 := hr2.cell (i := x + j) (by omega)
          have z0 := hr2.frozen (x + j)
          clear hr2
          rw [ucell] at u0
          have hb1 := us_bd hok (x + j) k hk
          have hb2 : 0 ≤ usP ts xs k j (x + j) ∧ usP ts xs k j (x + j) ≤ 100 := by unfold usP; split <;> omega
          clear hb1
          go_wp2
          refine wp_region_ext (by kernel_rfl) (by kernel_rfl) ?_
          have hwr := IntWalk.i64_in ((x : Int) + d) (by omega)
          iterate 12 (apply quiet_val; (focus rfl); (focus (intro w' hw'; have hk' := hw'.cells; go_simp; all_goals exact rfl)); simp only [Act.put, List.setIfInBounds_toArray, List.set_cons_succ, List.set_cons_zero])
          clear hwr
          refine wpQuiet_nil ?_
          intro w3 hx3
          go_wp2
          have f1'' := (hx3.cells _ _ hbl1).trans f1'
          have c3'' := (hx3.cells _ _ hbl2).trans c3'
          have u0' := (hx3.cells _ _ hB).trans u0
          have hbl1' := Nat.lt_of_lt_of_le hbl1 hx3.size
          have hbl2' := Nat.lt_of_lt_of_le hbl2 hx3.size
          have hB' := Nat.lt_of_lt_of_le hB hx3.size
          refine wp_region_ext_tail 13 (by kernel_rfl) (by kernel_rfl) ?_
          simp only [List.take_succ_cons, List.take_zero, List.drop_succ_cons, List.drop_zero]
          have hi1 : (0 : Int) ≤ (x : Int) + (j : Int) := by omega
          have hi2 : (x : Int) + (j : Int) < 11 := by omega
          have hi3 : ((x : Int) + (j : Int)).toNat = x + j := by omega
          have hwr := IntWalk.i64_in (usP ts xs k j (x + j) + tkM ts k) (by omega)
          iterate 13 (apply quiet_val; (focus rfl); (focus (intro w' hw'; have hk' := hw'.cells; go_simp; all_goals exact rfl)); simp only [Act.put, List.setIfInBounds_toArray, List.set_cons_succ, List.set_cons_zero])
          clear hwr hi3 hi1 hi2
          refine wpQuiet_nil ?_
          intro w4 hx4
          have r4 := hx4.row (hx3.row Hr2.out)
          have u4 := r4.cell (i := x + j) (by omega)
          have z4 := r4.frozen (x + j)
          have R4 := hide r4; clear r4
          go_wp2
          go_roundw
          case rel => exact ⟨j + 1, by omega, by go_num, ((hx2.trans hx3).trans hx4).set (Nat.le_refl _) _, row_us Hx0.out R4.out⟩
          case measure => simp [intOf]; omega
        · have hjd' : j = d := by omega
          subst hjd'
          clear hr2
          go_wp2
          refine wp_region_ext (by kernel_rfl) (by kernel_rfl) ?_
          have hwr := IntWalk.i64_in ((x : Int) + j) (by omega)
          iterate 12 (apply quiet_val; (focus rfl); (focus (intro w' hw'; have hk' := hw'.cells; go_simp; all_goals exact rfl)); simp only [Act.put, List.setIfInBounds_toArray, List.set_cons_succ, List.set_cons_zero])
          clear hwr
          refine wpQuiet_nil ?_
          intro w3 hx3
          go_wp2
          go_roundw
          case rel => exact ⟨k + 1, by omega, by go_num, hx2.trans hx3, (hx3.row Hr2.out).congr fun i _ => by rw [ucell, ucell, usP_full ts xs k i j Hd0.out.symm]⟩
          case measure => simp [intOf]; omega
    · have hkl : k = ts.length := by omega
      subst hkl
      go_wp2
      go_ret
      exact ⟨_, Nat.le_refl _, by rw [usL_len]; rfl, row_usL hr, hxr⟩

set_option maxHeartbeats 2000000 in
theorem usageI_any (v v' : Value) (ts : List Tk) (xs : List Int) (w : World) (hT : STasks w v ts) (hS : SInts w v' xs) (hok : okTS ts xs = true) :
    Calls Try.prog 24 #[v, v'] w (NewInts (usL ts xs) w) := by
  have hT0 := hide hT
  have hS0 := hide hS
  obtain ⟨A, cp, rfl, hl, hlen⟩ := hS.form
  obtain ⟨A', cp', rfl, hl', hlen'⟩ := hT.form
  clear hS hT
  obtain ⟨g1, g2, g3⟩ := okTS_iff.1 hok
  have G2 := hide g2; clear g2
  have hl4 := (vTks_len g1).2
  go_enter Try.func24, Try.ntmps24
  go_wp2_with (at_make; go_must (refine wpList_make_gen _ rfl _ _ 24 rfl 3 (.int .i64 0) 1 8 Try.underlying24 Try.infoI .i64 .i64 11 rfl rfl (by omega) (by omega) (fun _ => .int .i64 0) (fun i _ => by simp [Value.cells, Nat.mod_one]) ?_); intro w1 hrow hsz hx)
  have hrow0 : w1.rowIs w.heap.size 3 11 (ucell (us ts xs 0)) := hrow.congr fun i _ => by simp [ucell, us]
  have Hrow := hide hrow0; clear hrow0 hrow
  go_loopw [12] (fun i wr => ∃ k : Nat, k ≤ ts.length ∧ i = .int .i64 k ∧ Ext w wr ∧ wr.rowIs w.heap.size 3 11 (ucell (us ts xs k))) (fun i _ => ts.length - (intOf i).toNat)
  case atStart => exact ⟨0, Nat.zero_le _, rfl, hx, Hrow.out⟩
  case round =>
    obtain ⟨k, hk, rfl, hxr, hr⟩ := hrel
    by_cases hlt : k < ts.length
    · have hltx : k < xs.length := by rw [G2.out]; exact hlt
      obtain ⟨b, off, rfl, hbl, f1⟩ := (hS0.out.ext hxr).at_ hltx
      obtain ⟨b', off', rfl, hbl', c1, c2, c3⟩ := (hT0.out.ext hxr).at_ hlt
      obtain ⟨p3, p4⟩ := allR_at g3 hltx
      obtain ⟨-, -, -, p5, p6, p7, p8⟩ := vTks_at g1 hlt
      obtain ⟨x, hx0⟩ := Int.eq_ofNat_of_zero_le p3
      obtain ⟨d, hd0⟩ := Int.eq_ofNat_of_zero_le (show 0 ≤ tkD ts k by omega)
      have hBr := hr.lt
      have Hr : Hid (wr.rowIs w.heap.size 3 11 (ucell (usP ts xs k 0))) := hr.congr fun i _ => by rw [ucell, ucell, usP_zero]
      clear hr
      rw [hx0] at f1 p3 p4
      rw [hd0] at c2 p5 p6
      have Hx0 := hide hx0; clear hx0
      have Hd0 := hide hd0; clear hd0
      go_wp2
      obtain ⟨wo, rfl⟩ : ∃ wo : World, wo = wr := ⟨_, rfl⟩
      go_loopw [19] (fun q wr => ∃ j : Nat, j ≤ d ∧ q = .int .i64 (j : Int) ∧ Ext w wr ∧ wr.rowIs w.heap.size 3 11 (ucell (usP ts xs k j)) ∧ wo.heap.size < wr.heap.size ∧ wr.cell? ⟨wo.heap.size, 2, none⟩ = some (.int .i64 (tkM ts k))) (fun q _ => d - (intOf q).toNat)
      case atStart => exact ⟨0, Nat.zero_le _, rfl, hxr.alloc _, Hr.out.alloc _, by simp, by go_simp⟩
      case round =>
        obtain ⟨j, hj, rfl, hx2, hr2, hwo, hm2⟩ := hrel
        have hB : w.heap.size < wr.heap.size := hr2.lt
        have Hr2 := hide hr2
        obtain ⟨b1, off1, e1, hbl1, f1'⟩ := (hS0.out.ext hx2).at_ hltx
        injection e1 with e1; injection e1 with e1 e2; subst e1; subst e2
        rw [Hx0.out] at f1'
        by_cases hjd : j < d
        · have u0 := hr2.cell (i := x + j) (by omega)
          clear hr2
          rw [ucell] at u0
          have hb1 := us_bd hok (x + j) k hk
          have hb2 : 0 ≤ usP ts xs k j (x + j) ∧ usP ts xs k j (x + j) ≤ 100 := by unfold usP; split <;> omega
          clear hb1
          go_wp2
          refine wp_region_ext_tail 13 (by kernel_rfl) (by kernel_rfl) ?_
          simp only [List.take_succ_cons, List.take_zero, List.drop_succ_cons, List.drop_zero]
          have hi1 : (0 : Int) ≤ (x : Int) + (j : Int) := by omega
          have hi2 : (x : Int) + (j : Int) < 11 := by omega
          have hi3 : ((x : Int) + (j : Int)).toNat = x + j := by omega
          have hwr := IntWalk.i64_in (usP ts xs k j (x + j) + tkM ts k) (by omega)
          have hwr2 := IntWalk.i64_in ((x : Int) + (j : Int)) (by omega)
          iterate 13 (apply quiet_val; (focus rfl); (focus (intro w' hw'; have hk' := hw'.cells; go_simp; all_goals exact rfl)); simp only [Act.put, List.setIfInBounds_toArray, List.set_cons_succ, List.set_cons_zero])
          clear hwr hwr2 hi3 hi1 hi2
          refine wpQuiet_nil ?_
          intro w4 hx4
          have r4 := hx4.row Hr2.out
          have u4 := r4.cell (i := x + j) (by omega)
          have z4 := r4.frozen (x + j)
          have R4 := hide r4; clear r4
          have hm4 := (hx4.cells _ _ hwo).trans hm2
          have Hm4 := hide hm4; clear hm4
          go_wp2
          go_roundw
          case rel => exact ⟨j + 1, by omega, by go_num, (hx2.trans hx4).set (Nat.le_refl _) _, row_us Hx0.out R4.out, by have := hx4.size; simp [World.setCell]; omega, by
            rw [World.cell?_setCell_other _ _ _ _ (by simp <;> omega)]; exact Hm4.out⟩
          case measure => simp [intOf]; omega
        · have hjd' : j = d := by omega
          subst hjd'
          clear hr2
          go_wp2
          go_roundw
          case rel => exact ⟨k + 1, by omega, by go_num, hx2, Hr2.out.congr fun i _ => by rw [ucell, ucell, usP_full ts xs k i j Hd0.out.symm]⟩
          case measure => simp [intOf]; omega
    · have hkl : k = ts.length := by omega
      subst hkl
      go_wp2
      go_ret
      exact ⟨_, Nat.le_refl _, by rw [usL_len]; rfl, row_usL hr, hxr⟩

theorem usageL_len (ts : List Tk) (xs : List Int) : (usageL ts xs).length ≤ 11 := by
  unfold usageL
  split
  · rw [usL_len]; omega
  · simp
theorem usageL_i64 (ts : List Tk) (xs : List Int) : ∀ i, i < (usageL ts xs).length → I64 (at0 (usageL ts xs) i) := by
  intro i hi
  unfold usageL at hi ⊢
  by_cases h : okTS ts xs = true
  · rw [if_pos h] at hi ⊢
    rw [usL_len] at hi
    rw [usL_at ts xs hi]
    have h1 := us_bd h i ts.length (Nat.le_refl _)
    have h2 := (vTks_len (okTS_iff.1 h).1).2
    exact ⟨by omega, by omega⟩
  · rw [if_neg h] at hi
    simp at hi

theorem UsageS_any (v v' : Value) (ts : List Tk) (xs : List Int) (w : World) (hT : STasks w v ts) (hS : SInts w v' xs) :
    Calls Try.prog 8 #[v, v'] w (OwnRes (usageL ts xs) w) := by
  by_cases h1 : vTks ts = true
  · by_cases h2 : (decide (xs.length = ts.length) && allR xs 0 5) = true
    · have hok : okTS ts xs = true := by rw [okTS, h1, h2]; rfl
      have e1 : (vTks ts && inR 0 0 9) = true := by rw [h1]; rfl
      have hm : usageL ts xs = usL ts xs := by rw [usageL, if_pos hok]
      have HM := hide hm; clear hm
      clear h1
      go_enter Try.func8, Try.ntmps8
      go_wp2_with (first | (go_at_call 25; refine (validTasks_any _ ts _ _ hT).mono ?_; rintro e w1 ⟨rfl, hx1⟩; rw [e1]) | (go_at_call 26; refine (validStarts_any _ _ ts xs _ (hT.ext hx1) (hS.ext hx1)).mono ?_; rintro e w' ⟨rfl, rfl⟩; rw [h2]) | (go_at_call 27; refine (usageS_any _ _ ts xs _ (hT.ext hx1) (hS.ext hx1) hok).mono ?_; rintro e w2 ⟨b2, hb2, rfl, hr2, hx2⟩))
      go_ret
      rw [HM.out]
      exact OwnRes.new (by rw [usL_len]; omega) ⟨b2, Nat.le_trans hx1.size hb2, rfl, hr2, hx1.trans hx2⟩
    · have h2' : (decide (xs.length = ts.length) && allR xs 0 5) = false := Bool.eq_false_iff.2 h2
      have hm : usageL ts xs = [] := by rw [usageL, if_neg (by rw [okTS, h2']; simp)]
      have e1 : (vTks ts && inR 0 0 9) = true := by rw [h1]; rfl
      have HM := hide hm; clear hm
      clear h1 h2
      go_enter Try.func8, Try.ntmps8
      go_wp2_with (first | (go_at_call 25; refine (validTasks_any _ ts _ _ hT).mono ?_; rintro e w1 ⟨rfl, hx1⟩; rw [e1]) | (go_at_call 26; refine (validStarts_any _ _ ts xs _ (hT.ext hx1) (hS.ext hx1)).mono ?_; rintro e w' ⟨rfl, rfl⟩; rw [h2']))
      go_ret
      rw [HM.out]
      exact OwnRes.nil_ rfl hx1
  · have h1' : vTks ts = false := Bool.eq_false_iff.2 h1
    have hm : usageL ts xs = [] := by rw [usageL, if_neg (by rw [okTS, h1']; simp)]
    have e1 : (vTks ts && inR 0 0 9) = false := by rw [h1']; rfl
    have HM := hide hm; clear hm
    clear h1 h1'
    go_enter Try.func8, Try.ntmps8
    go_wp2_with (go_at_call 25; refine (validTasks_any _ ts _ _ hT).mono ?_; rintro e w1 ⟨rfl, hx1⟩; rw [e1])
    go_ret
    rw [HM.out]
    exact OwnRes.nil_ rfl hx1

theorem UsageI_any (v v' : Value) (ts : List Tk) (xs : List Int) (w : World) (hT : STasks w v ts) (hS : SInts w v' xs) :
    Calls Try.prog 6 #[v, v'] w (OwnRes (usageL ts xs) w) := by
  have hT0 := hide hT
  obtain ⟨A', cp', rfl, hl', hlen'⟩ := hT.form
  clear hT
  have ei : decide ((xs.length : Int) = ts.length) = decide (xs.length = ts.length) := by simp [Int.natCast_inj]
  have Ei := hide ei; clear ei
  by_cases h1 : vTks ts = true
  · by_cases h2 : (decide (xs.length = ts.length) && allR xs 0 5) = true
    · have hok : okTS ts xs = true := by rw [okTS, h1, h2]; rfl
      have hm : usageL ts xs = usL ts xs := by rw [usageL, if_pos hok]
      have HM := hide hm; clear hm
      go_enter Try.func6, Try.ntmps6
      go_wp2_with (first | (go_at_call 22; refine (tasksOk_any _ ts _ hT0.out).mono ?_; rintro e w1 ⟨rfl, hx1⟩) | (go_at_call 23; refine (assigned_any _ xs _ _ (hS.ext hx1)).mono ?_; rintro e w2 ⟨rfl, hx2⟩; rw [Ei.out, h2]) | (go_at_call 24; refine (usageI_any _ _ ts xs _ (hT0.out.ext (hx1.trans hx2)) (hS.ext (hx1.trans hx2)) hok).mono ?_; rintro e w3 ⟨b3, hb3, rfl, hr3, hx3⟩))
      go_ret
      rw [HM.out]
      exact OwnRes.new (by rw [usL_len]; omega) ⟨b3, Nat.le_trans (hx1.trans hx2).size hb3, rfl, hr3, (hx1.trans hx2).trans hx3⟩
    · have h2' : (decide (xs.length = ts.length) && allR xs 0 5) = false := Bool.eq_false_iff.2 h2
      have hm : usageL ts xs = [] := by rw [usageL, if_neg (by rw [okTS, h2']; simp)]
      have HM := hide hm; clear hm
      clear h2
      go_enter Try.func6, Try.ntmps6
      go_wp2_with (first | (go_at_call 22; refine (tasksOk_any _ ts _ hT0.out).mono ?_; rintro e w1 ⟨rfl, hx1⟩) | (go_at_call 23; refine (assigned_any _ xs _ _ (hS.ext hx1)).mono ?_; rintro e w2 ⟨rfl, hx2⟩; rw [Ei.out, h2']))
      go_ret
      rw [HM.out]
      exact OwnRes.nil_ rfl (hx1.trans hx2)
  · have h1' : vTks ts = false := Bool.eq_false_iff.2 h1
    have hm : usageL ts xs = [] := by rw [usageL, if_neg (by rw [okTS, h1']; simp)]
    have HM := hide hm; clear hm
    clear h1
    go_enter Try.func6, Try.ntmps6
    go_wp2_with (go_at_call 22; refine (tasksOk_any _ ts _ hT0.out).mono ?_; rintro e w1 ⟨rfl, hx1⟩)
    go_ret
    rw [HM.out]
    exact OwnRes.nil_ rfl hx1
end Go.Proofs.Yticallgbmmahjaa
