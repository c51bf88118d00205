/- Marking removals, and looking at the marks. -/
import Derived.Test.YtpnlambndbfenaaLawM
import Derived.Test.YtpnlambndbfenaaExpA
namespace Go.Proofs.Ytpnlambndbfenaa
open Go.RowKit

theorem OwnC.kp {S : Nat → Prop} {w w' : World} {A : Option Addr} {b m : Nat} {f : Nat → Value} {xs : List Int} (h : OwnC w A b m f xs) (hk : Keep S w w') (hb : S b) : OwnC w' A b m f xs :=
  fun hp => by obtain ⟨h1, h2, h3⟩ := h hp; exact ⟨h1, hk.row hb h2, h3⟩
theorem LayOwn.kp {α : Type} {L : Lay α} {S : Nat → Prop} {w w' : World} {A : Option Addr} {b m : Nat} {f : Nat → Value} {xs : List α} (h : L.Own w A b m f xs) (hk : Keep S w w') (hb : S b) : L.Own w' A b m f xs :=
  fun hp => by obtain ⟨h1, h2, h3⟩ := h hp; exact ⟨h1, hk.row hb h2, h3⟩
set_option maxHeartbeats 2000000 in
theorem markRms_any (A : Option Addr) (n c b m : Nat) (f : Nat → Value) (k0 : Int) (w : World) (hk0 : 0 ≤ k0) (hk1 : k0 ≤ 1000000000) (hn : n ≤ 100000000)
    (hA : Hid (0 < n → A = some ⟨b, 0, none⟩ ∧ w.rowIs b 36 m f ∧ n * 2 ≤ m)) :
    Calls Try.prog 37 #[.slice A n c, .int .i64 k0] w (Marked (k0 + (n * 2 : Nat)) k0 b 36 (n * 2) m f w) := by
  go_enter Try.func37, Try.ntmps37
  go_wp2
  go_loopw [1, 5] (fun l i wr => ∃ k : Nat, k ≤ n ∧ i = .int .i64 k ∧ l = .int .i64 (k0 + (k * 2 : Nat)) ∧ w.grownBy wr (rowOf (n * 2) b) ∧ (0 < n → wr.rowIs b 36 m (mcell k0 f (k * 2)))) (fun _ i _ => n - (intOf i).toNat)
  case atStart => exact ⟨0, Nat.zero_le _, rfl, by simp, upd_refl _ _, fun h => by rw [Nat.zero_mul]; exact (hA.out h).2.1⟩
  case round =>
    obtain ⟨k, hk, rfl, rfl, hg, hr0⟩ := hrel
    have Hr0 := hide hr0; clear hr0
    by_cases hlt : k < n
    · have hkI : (k : Int) < n := by omega
      obtain ⟨rfl, -, hnm⟩ := hA.out (by omega)
      have hr := Hr0.out (by omega)
      have c0 := hr.cell (i := k * 2) (by omega)
      have z0 := hr.frozen (k * 2)
      have c1 := hr.cell (i := k * 2 + 1) (by omega)
      have z1 := hr.frozen (k * 2 + 1)
      have Hr := hide hr; clear hr
      have HG := hide hg; clear hg
      obtain ⟨K, hK⟩ : ∃ K : Int, K = k0 + (k * 2 : Nat) := ⟨_, rfl⟩
      have HK := hide hK
      have hKb : 0 ≤ K ∧ K ≤ 2000000000 := by omega
      rw [← hK]
      clear hK
      have e1 : k * 2 + 1 + 1 = (k + 1) * 2 := by omega
      have HR2 := hide (show ((wr.setCell ⟨b, k * 2, none⟩ (.int .i64 K)).setCell ⟨b, k * 2 + 1, none⟩ (.int .i64 (K + 1))).rowIs b 36 m (mcell k0 f ((k + 1) * 2)) from
        row_mark' (k := k * 2 + 1) (row_mark' (k := k * 2) Hr.out HK.out rfl) (by rw [HK.out]; omega) e1.symm)
      go_wp2
      go_roundw
      case rel => exact ⟨k + 1, by omega, by go_num, by rw [HK.out]; go_num, upd_set' (upd_set' HG.out (by omega) _ _) (by omega) _ _, fun _ => HR2.out⟩
      case measure => simp [intOf]; omega
    · have hkl : k = n := by omega
      subst hkl
      have hkI : ¬ ((k : Int) < k) := by omega
      go_wp2
      go_ret
      exact ⟨rfl, hg, fun h => Hr0.out (by omega)⟩
set_option maxHeartbeats 2000000 in
theorem heldRms_any (A : Option Addr) (n c b m : Nat) (f : Nat → Value) (k0 : Int) (w : World) (hk0 : 0 ≤ k0) (hk1 : k0 ≤ 1000000000) (hn : n ≤ 100000000)
    (hA : Hid (0 < n → A = some ⟨b, 0, none⟩ ∧ w.rowIs b 36 m (mcell k0 f (n * 2)) ∧ n * 2 ≤ m)) :
    Calls Try.prog 38 #[.slice A n c, .int .i64 k0] w fun e w' => e = .returned (.int .i64 (k0 + (n * 2 : Nat))) ∧ w = w' := by
  go_enter Try.func38, Try.ntmps38
  go_wp2
  go_loop [1, 5] (fun l i => ∃ k : Nat, k ≤ n ∧ i = .int .i64 k ∧ l = .int .i64 (k0 + (k * 2 : Nat))) (fun _ i => n - (intOf i).toNat)
  case atStart => exact ⟨0, Nat.zero_le _, rfl, by simp⟩
  case round =>
    obtain ⟨k, hk, rfl, rfl⟩ := hrel
    by_cases hlt : k < n
    · have hkI : (k : Int) < n := by omega
      obtain ⟨rfl, hr, hnm⟩ := hA.out (by omega)
      have c0 := hr.cell (i := k * 2) (by omega)
      rw [mcell, if_pos (by omega)] at c0
      have c1 := hr.cell (i := k * 2 + 1) (by omega)
      rw [mcell, if_pos (by omega)] at c1
      clear hr
      obtain ⟨K, hK⟩ : ∃ K : Int, K = k0 + (k * 2 : Nat) := ⟨_, rfl⟩
      have HK := hide hK
      have hKb : 0 ≤ K ∧ K ≤ 2000000000 := by omega
      have e1 : k0 + ((k * 2 + 1 : Nat) : Int) = K + 1 := by omega
      rw [← hK] at c0 ⊢
      rw [e1] at c1
      clear hK e1
      have hn1 : (K != K) = false := by simp
      have hn2 : (K + 1 != K + 1) = false := by simp
      go_wp2
      go_round
      case rel => exact ⟨k + 1, by omega, by go_num, by rw [HK.out]; go_num⟩
      case measure => simp [intOf]; omega
    · have hkl : k = n := by omega
      subst hkl
      have hkI : ¬ ((k : Int) < k) := by omega
      go_wp2
      go_ret
      exact ⟨rfl, rfl⟩
end Go.Proofs.Ytpnlambndbfenaa
