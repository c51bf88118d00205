/- The walks of RequiredEnergy, in the reference and in the program. -/
import Derived.Test.YtofnihagfjdocaaMksp
import Derived.Test.YtofnihagfjdocaaDom
namespace Go.Proofs.Ytofnihagfjdocaa
open Go.RowKit

/-- The length of the intersection of two intervals. -/
def ov (a b c d : Int) : Int := max 0 (min b d - max a c)
/-- The least overlap of task i with an interval over its first j starts. -/
def lk (ts : List Tk) (i : Nat) (l h : Int) : Nat → Int
  | 0 => tkD ts i
  | j + 1 => min (lk ts i l h j) (ov (at0 (domL (tkS ts i)) j) (at0 (domL (tkS ts i)) j + tkD ts i) l h)
def lkA (ts : List Tk) (i : Nat) (l h : Int) : Int := lk ts i l h (domL (tkS ts i)).length
/-- The energy of the first k tasks. -/
def en (ts : List Tk) (l h : Int) : Nat → Int
  | 0 => 0
  | k + 1 => en ts l h k + lkA ts k l h * tkM ts k
def enR (ts : List Tk) (l h : Int) : Int := if vTks ts && (inR l 0 h && !decide (11 < h)) then en ts l h ts.length else -1
theorem lk_bd {ts : List Tk} (hv : vTks ts = true) {i : Nat} (hi : i < ts.length) (l h : Int) : ∀ j, 0 ≤ lk ts i l h j ∧ lk ts i l h j ≤ 6 := by
  have b := vTks_at hv hi
  intro j
  induction j with
  | zero => unfold lk; omega
  | succ j ih => unfold lk ov; omega
theorem mul_bd {a b : Int} (h1 : 0 ≤ a) (h2 : a ≤ 6) (h3 : 0 ≤ b) (h4 : b ≤ 9) : 0 ≤ a * b ∧ a * b ≤ 54 := by
  have e1 := Int.mul_nonneg h1 h3
  have e2 := Int.mul_le_mul h2 h4 h3 (by omega : (0 : Int) ≤ 6)
  omega
theorem en_bd {ts : List Tk} (hv : vTks ts = true) (l h : Int) : ∀ k, k ≤ ts.length → 0 ≤ en ts l h k ∧ en ts l h k ≤ 54 * k := by
  intro k
  induction k with
  | zero => intro _; simp [en]
  | succ k ih =>
    intro hk
    have := ih (by omega)
    have b := vTks_at hv (k := k) (by omega)
    have c := lk_bd hv (i := k) (by omega) l h (domL (tkS ts k)).length
    have d := mul_bd c.1 c.2 b.2.2.2.2.2.1 b.2.2.2.2.2.2
    unfold en lkA
    omega
theorem retv {k : IntKind} {a b : Int} (h : a = b) : Value.int k a = .int k b := by rw [h]
theorem overlap_any (a b c d : Int) (w : World) (h1 : 0 ≤ a) (h2 : a ≤ 1000) (h3 : 0 ≤ b) (h4 : b ≤ 1000) (h5 : 0 ≤ c) (h6 : c ≤ 1000) (h7 : 0 ≤ d) (h8 : d ≤ 1000) :
    Calls Try.prog 86 #[.int .i64 a, .int .i64 b, .int .i64 c, .int .i64 d] w fun e w' => e = .returned (.int .i64 (ov a b c d)) ∧ w = w' := by
  go_enter Try.func86, Try.ntmps86
  go_wp2
  all_goals
    go_ret
    exact ⟨ret_i (by unfold ov; omega), rfl⟩

theorem lk_mem {ts : List Tk} (hv : vTks ts = true) {i j : Nat} (hi : i < ts.length) (hj : j < (domL (tkS ts i)).length) :
    0 ≤ at0 (domL (tkS ts i)) j ∧ at0 (domL (tkS ts i)) j ≤ 5 ∧ 1 ≤ tkD ts i ∧ tkD ts i ≤ 6 := by
  have a := domL_bd (tkS ts i) hj
  have b := vTks_at hv hi
  omega

set_option maxHeartbeats 2000000 in
theorem requiredEnergy_any (v : Value) (ts : List Tk) (l h : Int) (w : World) (hT : STasks w v ts) (hv : vTks ts = true) (h1 : 0 ≤ l) (h2 : l ≤ h) (h3 : h ≤ 11) :
    Calls Try.prog 65 #[v, .int .i64 l, .int .i64 h] w (Ret (.int .i64 (en ts l h ts.length)) w) := by
  have hT0 := hide hT
  obtain ⟨A', cp', rfl, hl', hlen'⟩ := hT.form
  clear hT
  have hl4 := (vTks_len hv).2
  have Hv := hide hv; clear hv
  go_enter Try.func65, Try.ntmps65
  go_wp2
  go_loopw [7, 8] (fun s i wr => ∃ k : Nat, k ≤ ts.length ∧ i = .int .i64 k ∧ s = .int .i64 (en ts l h k) ∧ Ext w wr) (fun _ i _ => ts.length - (intOf i).toNat)
  case atStart => exact ⟨0, Nat.zero_le _, rfl, rfl, Ext.refl w⟩
  case round =>
    obtain ⟨k, hk, rfl, rfl, hx⟩ := hrel
    by_cases hlt : k < ts.length
    · obtain ⟨b, off, rfl, hbl, c1, c2, c3⟩ := (hT0.out.ext hx).at_ hlt
      obtain ⟨q1, q2, q3, q4, q5, q6, q7⟩ := vTks_at Hv.out hlt
      obtain ⟨e1, e2⟩ := en_bd Hv.out l h k hk
      clear q3
      go_wp2_with fail
      refine (domainValues_any _ _ q1 (by omega)).mono ?_
      rintro e w1 ⟨A1, cc1, b1, m1, f1, rfl, hc1, hd1, -, ho1, hx1⟩
      have hD := SInts.own hc1 hd1 ho1 (domL_i64 _)
      have hDl := domL_len (tkS ts k)
      have HD := hide hD; clear hD ho1
      obtain ⟨b', off', e1', hbl1, c1', c2', c3'⟩ := (hT0.out.ext (hx.trans hx1)).at_ hlt
      injection e1' with e1'; injection e1' with e1' e2'; subst e1'; subst e2'
      clear c1 c2 c3
      go_wp2
      have Hx1 := hide (hx.trans hx1)
      clear c1' c2' c3' hbl hbl1 hx
      go_loopw [10, 11] (fun f i wr => ∃ j : Nat, j ≤ (domL (tkS ts k)).length ∧ i = .int .i64 j ∧ f = .int .i64 (lk ts k l h j) ∧ Ext w1 wr) (fun _ i _ => (domL (tkS ts k)).length - (intOf i).toNat)
      case atStart => exact ⟨0, Nat.zero_le _, rfl, rfl, Ext.refl _⟩
      case round =>
        obtain ⟨j, hj, rfl, rfl, hx2⟩ := hrel
        obtain ⟨b', off', e1', hbl1, c1, c2, c3⟩ := (hT0.out.ext (Hx1.out.trans hx2)).at_ hlt
        injection e1' with e1'; injection e1' with e1' e2'; subst e1'; subst e2'
        obtain ⟨p1, p2⟩ := lk_bd Hv.out hlt l h j
        by_cases hjl : j < (domL (tkS ts k)).length
        · obtain ⟨b3, off3, rfl, hbl3, f3⟩ := (HD.out.ext hx2).at_ hjl
          obtain ⟨r1, r2, -, -⟩ := lk_mem Hv.out hlt hjl
          have hm : lk ts k l h (j + 1) = min (lk ts k l h j) (ov (at0 (domL (tkS ts k)) j) (at0 (domL (tkS ts k)) j + tkD ts k) l h) := rfl
          have HM := hide hm; clear hm
          go_wp2
          refine wp_region_ext (by kernel_rfl) (by kernel_rfl) ?_
          have hwr := IntWalk.i64_in (at0 (domL (tkS ts k)) j + tkD ts k) (by omega)
          iterate 17 (apply quiet_val; (focus rfl); (focus (intro w' hw'; have hk' := hw'.cells; go_simp; all_goals exact rfl)); simp only [Act.put, List.setIfInBounds_toArray, List.set_cons_succ, List.set_cons_zero])
          apply quiet_call; (focus rfl); (focus (intro w' hw'; go_simp; all_goals (first | exact rfl | (apply And.intro <;> exact rfl))))
          · exact fun w' hw' => same_quiet (overlap_any _ _ _ _ _ (by omega) (by omega) (by omega) (by omega) (by omega) (by omega) (by omega) (by omega)) hw'
          (simp only [Act.put, List.setIfInBounds_toArray, List.set_cons_succ, List.set_cons_zero])
          iterate 2 (apply quiet_val; (focus rfl); (focus (intro w' hw'; have hk' := hw'.cells; go_simp; all_goals exact rfl)); simp only [Act.put, List.setIfInBounds_toArray, List.set_cons_succ, List.set_cons_zero])
          clear hwr
          refine wpQuiet_nil ?_
          intro w3 hx3
          go_wp2
          go_roundw
          case rel => exact ⟨j + 1, by omega, by go_num, retv (by rw [HM.out]; split <;> omega), hx2.trans hx3⟩
          case measure => simp [intOf]; omega
        · have hjd : j = (domL (tkS ts k)).length := by omega
          subst hjd
          have hm : en ts l h (k + 1) = en ts l h k + lk ts k l h (domL (tkS ts k)).length * tkM ts k := rfl
          have HM := hide hm; clear hm
          obtain ⟨m1, m2⟩ := mul_bd p1 p2 q6 q7
          go_wp2
          go_roundw
          case rel => exact ⟨k + 1, by omega, by go_num, by rw [HM.out], Hx1.out.trans hx2⟩
          case measure => simp [intOf]; omega
    · have hkl : k = ts.length := by omega
      subst hkl
      go_wp2
      go_ret
      exact Ret.mk rfl hx

set_option maxHeartbeats 4000000 in
theorem energy_any (v : Value) (ts : List Tk) (l h : Int) (w : World) (hT : STasks w v ts) (hv : vTks ts = true) (h1 : 0 ≤ l) (h2 : l ≤ h) (h3 : h ≤ 11) :
    Calls Try.prog 63 #[v, .int .i64 l, .int .i64 h] w (Ret (.int .i64 (en ts l h ts.length)) w) := by
  have hT0 := hide hT
  obtain ⟨A', cp', rfl, hl', hlen'⟩ := hT.form
  clear hT
  have hl4 := (vTks_len hv).2
  have Hv := hide hv; clear hv
  go_enter Try.func63, Try.ntmps63
  go_wp2
  go_loopw [7, 15] (fun s i wr => ∃ k : Nat, k ≤ ts.length ∧ i = .int .i64 k ∧ s = .int .i64 (en ts l h k) ∧ Ext w wr) (fun _ i _ => ts.length - (intOf i).toNat)
  case atStart => exact ⟨0, Nat.zero_le _, rfl, rfl, Ext.refl w⟩
  case round =>
    obtain ⟨k, hk, rfl, rfl, hx⟩ := hrel
    by_cases hlt : k < ts.length
    · obtain ⟨b, off, rfl, hbl, c1, c2, c3⟩ := (hT0.out.ext hx).at_ hlt
      obtain ⟨q1, q2, q3, q4, q5, q6, q7⟩ := vTks_at Hv.out hlt
      obtain ⟨e1, e2⟩ := en_bd Hv.out l h k hk
      clear q3
      go_wp2_with fail
      refine (valuesOf_any _ _ q1 (by omega)).mono ?_
      rintro e w1 ⟨A1, cc1, b1, m1, f1, rfl, hc1, hd1, -, ho1, hx1⟩
      have hD := SInts.own hc1 hd1 ho1 (domL_i64 _)
      have hDl := domL_len (tkS ts k)
      have HD := hide hD; clear hD ho1
      have t1 : w1.cell? ⟨wr.heap.size, 1, none⟩ = some (.int .i64 (tkD ts k)) := (hx1.cells _ _ (by simp)).trans (by go_simp)
      have t2 : w1.cell? ⟨wr.heap.size, 2, none⟩ = some (.int .i64 (tkM ts k)) := (hx1.cells _ _ (by simp)).trans (by go_simp)
      have Hx1 := hide ((hx.alloc _).trans hx1)
      clear c1 c2 c3 hbl hx hx1
      go_wp2
      go_loop [10, 25] (fun f i => ∃ j : Nat, j ≤ (domL (tkS ts k)).length ∧ i = .int .i64 j ∧ f = .int .i64 (lk ts k l h j)) (fun _ i => (domL (tkS ts k)).length - (intOf i).toNat)
      case atStart => exact ⟨0, Nat.zero_le _, rfl, rfl⟩
      case round =>
        obtain ⟨j, hj, rfl, rfl⟩ := hrel
        obtain ⟨p1, p2⟩ := lk_bd Hv.out hlt l h j
        by_cases hjl : j < (domL (tkS ts k)).length
        · obtain ⟨b3, off3, rfl, hbl3, f3⟩ := HD.out.at_ hjl
          obtain ⟨r1, r2, -, -⟩ := lk_mem Hv.out hlt hjl
          have hm : lk ts k l h (j + 1) = min (lk ts k l h j) (ov (at0 (domL (tkS ts k)) j) (at0 (domL (tkS ts k)) j + tkD ts k) l h) := rfl
          have HM := hide hm; clear hm
          go_wp2
          go_goals
          all_goals
            go_round
            case rel => exact ⟨j + 1, by omega, by go_num, retv (by rw [HM.out]; unfold ov; omega)⟩
            case measure => simp [intOf]; omega
        · have hjd : j = (domL (tkS ts k)).length := by omega
          subst hjd
          have hm : en ts l h (k + 1) = en ts l h k + lk ts k l h (domL (tkS ts k)).length * tkM ts k := rfl
          have HM := hide hm; clear hm
          obtain ⟨m1, m2⟩ := mul_bd p1 p2 q6 q7
          rw [Int.mul_comm] at m1 m2
          go_wp2
          go_roundw
          case rel => exact ⟨k + 1, by omega, by go_num, retv (by rw [HM.out, Int.mul_comm]), Hx1.out⟩
          case measure => simp [intOf]; omega
    · have hkl : k = ts.length := by omega
      subst hkl
      go_wp2
      go_ret
      exact Ret.mk rfl hx
end Go.Proofs.Ytofnihagfjdocaa
