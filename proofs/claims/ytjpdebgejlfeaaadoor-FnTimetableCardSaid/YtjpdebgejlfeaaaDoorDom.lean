/- The walks of the values of a domain, in the reference and in the program. -/
import Derived.Test.YtjpdebgejlfeaaaDoorUtlA
import Derived.Test.YtjpdebgejlfeaaaDoorApp
import Derived.Laws.Bits128
namespace Go.Proofs.YtjpdebgejlfeaaaDoor
open Go.RowKit

/-- Is value v in the domain d? -/
def hasB (d : Int) (v : Nat) : Bool := d / 2 ^ v % 2 == 1
/-- The values below k of a domain. -/
def domK (d : Int) : Nat → List Int
  | 0 => []
  | k + 1 => if hasB d k then domK d k ++ [(k : Int)] else domK d k
def domL (d : Int) : List Int := domK d 6
theorem domK_len (d : Int) (k : Nat) : (domK d k).length ≤ k := by
  induction k with
  | zero => simp [domK]
  | succ k ih =>
    unfold domK
    split
    · simp; omega
    · omega
theorem domK_mem (d : Int) (k : Nat) : ∀ x ∈ domK d k, 0 ≤ x ∧ x < k := by
  induction k with
  | zero => simp [domK]
  | succ k ih =>
    intro x hx
    unfold domK at hx
    split at hx
    · rcases List.mem_append.1 hx with h | h
      · have := ih x h; omega
      · simp at h; omega
    · have := ih x hx; omega
theorem domL_bd (d : Int) {i : Nat} (hi : i < (domL d).length) : 0 ≤ at0 (domL d) i ∧ at0 (domL d) i ≤ 5 := by
  have := domK_mem d 6 _ (at0_mem hi)
  unfold domL
  omega
theorem domL_i64 (d : Int) : ∀ i, i < (domL d).length → I64 (at0 (domL d) i) := fun i hi => by
  have := domL_bd d hi
  exact ⟨by omega, by omega⟩
theorem domL_len (d : Int) : (domL d).length ≤ 6 := domK_len d 6
theorem and1 (d : Int) (v : Nat) (h0 : 0 ≤ d) (h1 : d ≤ 9223372036854775807) : bits .and .i64 (d / 2 ^ v) 1 = d / 2 ^ v % 2 := by
  have e1 : (0 : Int) ≤ d / 2 ^ v := Int.ediv_nonneg h0 (Int.pow_nonneg (by omega))
  have e2 : d / 2 ^ v ≤ d := Int.ediv_le_self _ h0
  have := bits_mask .i64 63 (by decide) (fun n h h' => IntWalk.i64_in n ⟨by omega, by omega⟩) 1 (by omega) (d / 2 ^ v) e1 (by omega)
  simpa using this

theorem has_any (d : Int) (v : Nat) (w : World) (h0 : 0 ≤ d) (h1 : d ≤ 9223372036854775807) (g1 : v ≤ 5) :
    Calls Tryd.prog 48 #[.int .i64 d, .int .i64 v] w fun e w' => e = .returned (.bool (hasB d v)) ∧ w = w' := by
  have hb := and1 d v h0 h1
  have HB := hide hb; clear hb
  go_enter Tryd.func48, Tryd.ntmps48
  go_wp2
  go_ret
  exact ⟨ret_b (by rw [hasB, HB.out]), rfl⟩
theorem domainHas_any (d : Int) (v : Nat) (w : World) (h0 : 0 ≤ d) (h1 : d ≤ 9223372036854775807) (g1 : v ≤ 5) :
    Calls Tryd.prog 60 #[.int .i64 d, .int .i64 v] w fun e w' => e = .returned (.bool (hasB d v)) ∧ w = w' := by
  have hb := and1 d v h0 h1
  have HB := hide hb; clear hb
  have e1 : inR v 0 5 = true := by simp [inR]; omega
  go_enter Tryd.func60, Tryd.ntmps60
  go_wp2_with (go_at_call 37; refine (inRange_any _ _ _ _).mono ?_; rintro e w' ⟨rfl, rfl⟩)
  go_ret
  exact ⟨ret_b (by rw [hasB, HB.out]), rfl⟩
/-- The count of a number's one bits lies in 0..127. -/
def Cnt (w : World) (e : Ending) (w' : World) : Prop := ∃ n : Nat, n ≤ 127 ∧ e = .returned (.int .i64 n) ∧ w = w'
theorem ones64_any (d : Int) (w : World) :
    Calls Tryd.prog 67 #[.int .u64 d] w (Cnt w) := by
  go_enter Tryd.func67, Tryd.ntmps67
  go_wp2
  go_ret
  refine ⟨_, ?_, ret_i ((i64_and127 _).trans (Int.toNat_of_nonneg (Int.emod_nonneg _ (by omega))).symm), rfl⟩
  omega
theorem ones_any (d : Int) (w : World) :
    Calls Tryd.prog 47 #[.int .u64 d] w (Cnt w) := by
  go_enter Tryd.func47, Tryd.ntmps47
  go_wp2_with fail
  refine (ones64_any d _).mono ?_
  rintro e w' ⟨n, hn, rfl, rfl⟩
  go_wp2
  go_ret
  exact ⟨n, hn, rfl, rfl⟩

set_option maxHeartbeats 1000000 in
theorem domainValues_any (d : Int) (w : World) (h0 : 0 ≤ d) (h1 : d ≤ 9223372036854775807) :
    Calls Tryd.prog 39 #[.int .i64 d] w (OwnRes (domL d) w) := by
  go_enter Tryd.func39, Tryd.ntmps39
  go_wp2_with fail
  go_loopw [3, 4] (fun v i wr => ∃ k : Nat, k ≤ 6 ∧ i = .int .i64 k ∧ Ext w wr ∧ AppI w.heap.size wr v (domK d k)) (fun _ i _ => 6 - (intOf i).toNat)
  case atStart => exact ⟨0, Nat.zero_le _, rfl, (Ext.refl w).alloc _, AppI.empty w⟩
  case round =>
    obtain ⟨k, hk, rfl, hx, hA⟩ := hrel
    have hA0 := hide hA
    obtain ⟨A, c, rfl, -⟩ := hA.form
    clear hA
    have hs := hx.size
    have hdl := domK_len d k
    by_cases hlt : k < 6
    · by_cases hb : hasB d k = true
      · have hkk : domK d (k + 1) = domK d k ++ [(k : Int)] := by rw [domK, if_pos hb]
        have HK := hide hkk; clear hkk
        go_wp2_with (first | (go_at_call 60; refine (domainHas_any d k _ h0 h1 (by omega)).mono ?_; rintro e w' ⟨rfl, rfl⟩) | (at_builtin; go_must (refine wpList_app1 _ rfl _ _ rfl w.heap.size _ (domK d k) k _ 1 rfl rfl (hA0.out.ext ((Ext.refl _).alloc _)) (by go_simp) (by omega) (by simp; omega) ?_); intro v' w2 hA2 hb2))
        go_roundw
        case rel => exact ⟨k + 1, by omega, by go_num, (hx.alloc _).below hb2, by rw [HK.out]; exact hA2⟩
        case measure => simp [intOf]; omega
      · have hb' : hasB d k = false := Bool.eq_false_iff.2 hb
        have hkk : domK d (k + 1) = domK d k := by rw [domK, if_neg hb]
        have HK := hide hkk; clear hkk hb
        go_wp2_with (go_at_call 60; refine (domainHas_any d k _ h0 h1 (by omega)).mono ?_; rintro e w' ⟨rfl, rfl⟩)
        go_roundw
        case rel => exact ⟨k + 1, by omega, by go_num, hx, by rw [HK.out]; exact hA0.out⟩
        case measure => simp [intOf]; omega
    · have hk6 : k = 6 := by omega
      subst hk6
      go_wp2
      go_ret
      exact hA0.out.res hx (by omega)

set_option maxHeartbeats 1000000 in
theorem valuesOf_any (d : Int) (w : World) (h0 : 0 ≤ d) (h1 : d ≤ 9223372036854775807) :
    Calls Tryd.prog 29 #[.int .i64 d] w (OwnRes (domL d) w) := by
  go_enter Tryd.func29, Tryd.ntmps29
  go_wp2_with fail
  refine (ones_any d _).mono ?_
  rintro e w' ⟨n, hn, rfl, rfl⟩
  go_wp2_with (at_make; go_must (refine wpList_mk0 _ rfl _ _ rfl n rfl rfl (by omega) ?_); intro v1 w1 hA1 hx1)
  go_loopw [3, 9] (fun v i wr => ∃ k : Nat, k ≤ 6 ∧ i = .int .i64 k ∧ Ext w wr ∧ AppI w.heap.size wr v (domK d k)) (fun _ i _ => 6 - (intOf i).toNat)
  case atStart => exact ⟨0, Nat.zero_le _, rfl, hx1, hA1⟩
  case round =>
    obtain ⟨k, hk, rfl, hx, hA⟩ := hrel
    have hA0 := hide hA
    obtain ⟨A, c, rfl, -⟩ := hA.form
    clear hA
    have hs := hx.size
    have hdl := domK_len d k
    by_cases hlt : k < 6
    · by_cases hb : hasB d k = true
      · have hkk : domK d (k + 1) = domK d k ++ [(k : Int)] := by rw [domK, if_pos hb]
        have HK := hide hkk; clear hkk
        go_wp2_with (first | (go_at_call 48; refine (has_any d k _ h0 h1 (by omega)).mono ?_; rintro e w' ⟨rfl, rfl⟩) | (at_builtin; go_must (refine wpList_app1 _ rfl _ _ rfl w.heap.size _ (domK d k) k _ 1 rfl rfl (hA0.out.ext ((Ext.refl _).alloc _)) (by go_simp) (by omega) (by simp; omega) ?_); intro v' w2 hA2 hb2))
        go_roundw
        case rel => exact ⟨k + 1, by omega, by go_num, (hx.alloc _).below hb2, by rw [HK.out]; exact hA2⟩
        case measure => simp [intOf]; omega
      · have hb' : hasB d k = false := Bool.eq_false_iff.2 hb
        have hkk : domK d (k + 1) = domK d k := by rw [domK, if_neg hb]
        have HK := hide hkk; clear hkk hb
        go_wp2_with (go_at_call 48; refine (has_any d k _ h0 h1 (by omega)).mono ?_; rintro e w' ⟨rfl, rfl⟩)
        go_roundw
        case rel => exact ⟨k + 1, by omega, by go_num, hx, by rw [HK.out]; exact hA0.out⟩
        case measure => simp [intOf]; omega
    · have hk6 : k = 6 := by omega
      subst hk6
      go_wp2
      go_ret
      exact hA0.out.res hx (by omega)
end Go.Proofs.YtjpdebgejlfeaaaDoor
