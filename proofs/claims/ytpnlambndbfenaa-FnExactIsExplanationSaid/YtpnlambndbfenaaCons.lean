/- Constraints: how they read; slices.Contains; distinct. -/
import Derived.Test.YtpnlambndbfenaaAutW
import Derived.Test.YtpnlambndbfenaaFuncsA
namespace Go.Proofs.Ytpnlambndbfenaa
open Go.RowKit

theorem SInts.take {w : World} {A : Option Addr} {n c : Nat} {xs : List Int} (h : SInts w (.slice A n c) xs) (k : Nat) (hk : k ≤ n) : SInts w (.slice A k c) (xs.take k) := by
  obtain ⟨A', c', e1, h2, h3, h4, h5⟩ := h
  injection e1 with e1 e2 e3
  subst e1; subst e3
  have hl : (xs.take k).length = k := by rw [List.length_take]; omega
  have hat : ∀ i, i < k → at0 (xs.take k) i = at0 xs i := fun i hi => by
    unfold at0
    rw [getD_lt _ _ (by rw [hl]; exact hi), getD_lt _ _ (by omega), List.getElem_take]
  refine ⟨A, c, by rw [hl], by rw [hl]; omega, by rw [hl]; omega, fun i hi => ?_, fun hp => ?_⟩
  · rw [hl] at hi; rw [hat i hi]; exact h4 i (by omega)
  · rw [hl] at hp ⊢
    obtain ⟨b, off, e, hb, hc⟩ := h5 (by omega)
    exact ⟨b, off, e, hb, fun i hi => by rw [hat i hi]; exact hc i (by omega)⟩
/-- x is one of the numbers. -/
def hasI (xs : List Int) (x : Int) : Bool := anyB (fun i => x == at0 xs i) xs.length
set_option maxHeartbeats 1000000 in
theorem Index_any (v : Value) (xs : List Int) (x : Int) (w : World) (hS : SInts w v xs) : Calls Try.prog 103 #[v, .int .i64 x] w fun e w' => e = .returned (.int .i64 (fidx (fun i => x == at0 xs i) xs.length)) ∧ w = w' := by
  have hS0 := hide hS
  obtain ⟨A, c, rfl, -, hln⟩ := hS.form
  clear hS
  go_enter Try.func103, Try.ntmps103
  go_wp2
  go_loop [8] (fun i => ∃ k : Nat, k ≤ xs.length ∧ i = .int .i64 k ∧ ∀ j, j < k → (x == at0 xs j) = false) (fun i => xs.length - (intOf i).toNat)
  case atStart => exact ⟨0, Nat.zero_le _, rfl, fun j hj => by omega⟩
  case round =>
    obtain ⟨k, hk, rfl, hno⟩ := hrel
    have HNO := hide hno
    clear hno
    by_cases hlt : k < xs.length
    · obtain ⟨b, off, rfl, hbl, f1⟩ := hS0.out.at_ hlt
      have hkI : (k : Int) < xs.length := by omega
      by_cases hx : (x == at0 xs k) = true
      · have HF := hide (fidx_some hlt hx HNO.out)
        go_wp2
        go_ret
        exact ⟨ret_i HF.out.symm, rfl⟩
      · have hx' : (x == at0 xs k) = false := Bool.eq_false_iff.2 hx
        have HX := hide hx'
        clear hx
        go_wp2
        go_round
        case rel => exact ⟨k + 1, by omega, by go_num, fun j hj => by
          by_cases e : j = k
          · subst e; exact HX.out
          · exact HNO.out j (by omega)⟩
        case measure => simp [intOf]; omega
    · obtain rfl : k = xs.length := by omega
      have HF := hide (fidx_none HNO.out)
      go_wp2
      go_ret
      exact ⟨ret_i HF.out.symm, rfl⟩
set_option maxHeartbeats 1000000 in
theorem Contains_any (v : Value) (xs : List Int) (x : Int) (w : World) (hS : SInts w v xs) : Calls Try.prog 60 #[v, .int .i64 x] w fun e w' => e = .returned (.bool (hasI xs x)) ∧ w = w' := by
  have hS0 := hide hS
  obtain ⟨A, c, rfl, -, hln⟩ := hS.form
  clear hS
  have HF := hide (fidx_any (fun i => x == at0 xs i) xs.length)
  go_enter Try.func60, Try.ntmps60
  go_wp2_with (go_at_call 103; refine (Index_any _ xs x _ hS0.out).mono ?_; rintro e w' ⟨rfl, rfl⟩)
  go_ret
  exact ⟨ret_b (by rw [hasI, ← HF.out]), rfl⟩
/-- No number is there twice. -/
def dst (xs : List Int) : Bool := !anyB (fun i => hasI (xs.take i) (at0 xs i)) xs.length
set_option maxHeartbeats 1000000 in
theorem distinct_any (v : Value) (xs : List Int) (w : World) (hS : SInts w v xs) : Calls Try.prog 93 #[v] w fun e w' => e = .returned (.bool (dst xs)) ∧ w = w' := by
  have hS0 := hide hS
  obtain ⟨A, c, rfl, hlc, hln⟩ := hS.form
  clear hS
  go_enter Try.func93, Try.ntmps93
  go_wp2
  go_loop [7] (fun i => ∃ k : Nat, k ≤ xs.length ∧ i = .int .i64 k ∧ ∀ j, j < k → hasI (xs.take j) (at0 xs j) = false) (fun i => xs.length - (intOf i).toNat)
  case atStart => exact ⟨0, Nat.zero_le _, rfl, fun j hj => by omega⟩
  case round =>
    obtain ⟨k, hk, rfl, hno⟩ := hrel
    have HNO := hide hno
    clear hno
    by_cases hlt : k < xs.length
    · obtain ⟨b, off, rfl, hbl, f1⟩ := hS0.out.at_ hlt
      have hkI : (k : Int) < xs.length := by omega
      have hkc : (k : Int) ≤ c := by omega
      have HT := hide (hS0.out.take k (by omega))
      by_cases hx : hasI (xs.take k) (at0 xs k) = true
      · have HD := hide (show dst xs = false by rw [dst, anyB_iff.2 ⟨k, hlt, hx⟩]; rfl)
        have HX := hide hx
        clear hx
        go_wp2_with (go_at_call 60; refine (Contains_any _ (xs.take k) _ _ HT.out).mono ?_; rintro e w' ⟨rfl, rfl⟩; rw [HX.out])
        go_ret
        exact ⟨ret_b HD.out.symm, rfl⟩
      · have HX := hide (Bool.eq_false_iff.2 hx)
        clear hx
        go_wp2_with (go_at_call 60; refine (Contains_any _ (xs.take k) _ _ HT.out).mono ?_; rintro e w' ⟨rfl, rfl⟩; rw [HX.out])
        go_round
        case rel => exact ⟨k + 1, by omega, by go_num, fun j hj => by
          by_cases e : j = k
          · subst e; exact HX.out
          · exact HNO.out j (by omega)⟩
        case measure => simp [intOf]; omega
    · obtain rfl : k = xs.length := by omega
      have HD := hide (show dst xs = true by rw [dst, anyB_false.2 HNO.out]; rfl)
      go_wp2
      go_ret
      exact ⟨ret_b HD.out.symm, rfl⟩
end Go.Proofs.Ytpnlambndbfenaa
