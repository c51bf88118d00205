/- The walk of the law FnCountWords: it returns true, and memory only grows. -/
import Derived.Test.YtachgijdopfghaaCwPl
import Derived.Test.YtachgijdopfghaaCntI
import Derived.Test.YtachgijdopfghaaAutD
import Derived.Test.YtachgijdopfghaaAuH
namespace Go.Proofs.Ytachgijdopfghaa
open Go.RowKit

theorem pow_bd : ∀ k : Nat, k ≤ 8 → (0 : Int) ≤ 6 ^ k ∧ (6 : Int) ^ k ≤ 1679616 := by
  intro k hk
  obtain rfl | rfl | rfl | rfl | rfl | rfl | rfl | rfl | rfl : k = 0 ∨ k = 1 ∨ k = 2 ∨ k = 3 ∨ k = 4 ∨ k = 5 ∨ k = 6 ∨ k = 7 ∨ k = 8 := by omega
  all_goals decide
set_option maxHeartbeats 1000000 in
theorem power_any (n : Nat) (w : World) (hn : n ≤ 8) : Calls Try.prog 9 #[.int .i64 n] w (Ret (.int .i64 (6 ^ n)) w) := by
  go_enter Try.func9, Try.ntmps9
  go_wp2_with fail
  go_loopw [3, 4] (fun o i wr => ∃ j : Nat, i = .int .i64 j ∧ o = .int .i64 (6 ^ j) ∧ j ≤ n ∧ Ext w wr) (fun _ i _ => n - (intOf i).toNat)
  case atStart => exact ⟨0, rfl, rfl, Nat.zero_le _, Ext.refl w⟩
  case round =>
    obtain ⟨j, rfl, rfl, hj, hX⟩ := hrel
    have HX := hide hX
    clear hX
    by_cases hjn : j < n
    · have hjI : (j : Int) < n := by omega
      have hp := pow_bd j (by omega)
      obtain ⟨P, hP⟩ : ∃ P : Int, P = 6 ^ j := ⟨_, rfl⟩
      rw [← hP] at hp ⊢
      have hw : IntKind.i64.wrap (P * 6) = P * 6 := IntWalk.i64_in _ (by omega)
      go_wp2_with fail
      go_roundw
      case rel => exact ⟨j + 1, by go_num, by rw [Int.pow_succ, ← hP], by omega, HX.out⟩
      case measure => simp [intOf]; omega
    · obtain rfl : j = n := by omega
      have hjI : ¬ ((j : Int) < j) := by omega
      go_wp2_with fail
      go_ret
      exact Ret.mk rfl HX.out
theorem SInts.nil9 (w : World) : SInts w (.slice none 0 0) [] := ⟨_, _, rfl, Nat.le_refl _, by simp, fun i hi => absurd hi (by simp), fun hp => absurd hp (by simp)⟩
theorem SInts.emp9 (w : World) (t : TypeId) : SInts (w.alloc (.cells #[] t)) (.slice (some ⟨w.heap.size, 0, none⟩) 0 0) [] := ⟨_, _, rfl, Nat.le_refl _, by simp, fun i hi => absurd hi (by simp), fun hp => absurd hp (by simp)⟩
set_option maxRecDepth 100000 in
set_option maxHeartbeats 2000000 in
theorem lawCountWordsP (v : Value) (n : Nat) (w : World) (hB : SBytes w v n) (_hn : n ≤ 140737488351232) :
    Calls Try.prog 3 #[v] w (Ret (.bool true) w) := by
  have HB := hide hB
  obtain ⟨A, c, rfl, -⟩ := hB
  by_cases hl : (1048576 : Int) < n
  · go_enter Try.func3, Try.ntmps3
    go_wp2
    go_ret
    exact Ret.mk rfl (Ext.refl _)
  · go_enter Try.func3, Try.ntmps3
    go_wp2_with fail
    refine (DrawCountWords_any _ n _ HB.out).mono ?_
    rintro e w1 ⟨vn, vf, a, z, rfl, hN, hF, z0, z1, hx1⟩
    have HN := hide hN
    have HF := hide hF
    obtain ⟨An, cn, rfl, -⟩ := hN.form
    obtain ⟨Af, cf, rfl, -⟩ := hF.form
    have HX1 := hide hx1
    clear hN hF hx1
    have hzI : I64 z := by unfold I64; omega
    obtain ⟨K, hK⟩ : ∃ K, K = cwB a z := ⟨_, rfl⟩
    have HK := hide hK
    clear hK
    go_wp2_with fail
    have hxa : Ext w1 (w1.alloc (.cells #[.slice An a.next.length cn, .slice Af a.final.length cf] 26)) := (Ext.refl w1).alloc _
    refine (CountWordsI_any _ _ a z _ (HN.out.ext hxa) (HF.out.ext hxa) hzI).mono ?_
    rw [← HK.out]
    rintro e w2 ⟨rfl, hx2⟩
    obtain ⟨mb, hmb⟩ : ∃ mb, mb = w1.heap.size := ⟨_, rfl⟩
    have m0 : w2.cell? ⟨mb, 0, none⟩ = some (.slice An a.next.length cn) := by rw [hmb]; exact (hx2.cells _ _ (by simp)).trans (World.cell?_alloc_at _ _ _ _ rfl)
    have m1 : w2.cell? ⟨mb, 1, none⟩ = some (.slice Af a.final.length cf) := by rw [hmb]; exact (hx2.cells _ _ (by simp)).trans (World.cell?_alloc_at _ _ _ _ rfl)
    have hml : mb < w2.heap.size := by have := hx2.size; simp at this; omega
    rw [← hmb]
    have HX2 := hide (hxa.trans hx2)
    clear hx2 hxa hmb
    have HM0 := hide m0
    have HM1 := hide m1
    clear m0 m1
    have step : ∀ (W : World), Ext w2 W → W.cell? ⟨mb, 0, none⟩ = some (.slice An a.next.length cn) ∧ W.cell? ⟨mb, 1, none⟩ = some (.slice Af a.final.length cf) := fun W hx => ⟨(hx.cells _ _ hml).trans HM0.out, (hx.cells _ _ hml).trans HM1.out⟩
    have HST := hide step
    clear step
    obtain ⟨m0, m1⟩ := HST.out w2 (Ext.refl _)
    by_cases hk0 : K < 0
    · go_wp2_with fail
      refine (CountWordsS_any _ _ a z _ (HN.out.ext HX2.out) (HF.out.ext HX2.out) hzI).mono ?_
      rw [← HK.out]
      rintro e w3 ⟨rfl, hx3⟩
      obtain ⟨m0, m1⟩ := HST.out w3 hx3
      have HX3 := hide (HX2.out.trans hx3)
      clear hx3
      go_wp2_with fail
      refine (CountWordsS_any _ _ a z _ (HN.out.ext HX3.out) (HF.out.ext HX3.out) hzI).mono ?_
      rw [← HK.out]
      rintro e w4 ⟨rfl, hx4⟩
      have HX4 := hide (HX3.out.trans hx4)
      clear hx4
      go_wp2_with fail
      go_ret
      exact Ret.mk rfl (HX1.out.trans HX4.out)
    · have hcw := HK.out
      obtain ⟨c1, c2, c3, c4, c5, c6⟩ := count_all (a := a) (n := z) (by omega)
      rw [← HK.out] at c5
      obtain ⟨zn, rfl⟩ : ∃ k : Nat, z = k := ⟨z.toNat, by omega⟩
      rw [Int.toNat_natCast] at c5
      obtain ⟨E0, hE0⟩ : ∃ E0, E0 = cwB a 0 := ⟨_, rfl⟩
      obtain ⟨is, his⟩ : ∃ is, is = accB a [] := ⟨_, rfl⟩
      obtain ⟨pw, hpw⟩ : ∃ pw : Int, pw = 6 ^ zn := ⟨_, rfl⟩
      rw [← hE0, ← his] at c1 c2
      rw [← hpw] at c5
      have HE0 := hide hE0
      have HIS := hide his
      have HPW := hide hpw
      have HC6 := hide c6
      clear hE0 his hpw c6 hcw
      go_wp2_with fail
      refine (CountWordsS_any _ _ a zn _ (HN.out.ext HX2.out) (HF.out.ext HX2.out) hzI).mono ?_
      rw [← HK.out]
      rintro e w3 ⟨rfl, hx3⟩
      clear m0 m1
      obtain ⟨m0, m1⟩ := HST.out w3 hx3
      have HX3 := hide (HX2.out.trans hx3)
      have HY3 := hide hx3
      clear hx3
      go_wp2_with fail
      refine (CountWordsI_any _ _ a 0 _ (HN.out.ext HX3.out) (HF.out.ext HX3.out) (by unfold I64; omega)).mono ?_
      rw [← HE0.out]
      rintro e w4 ⟨rfl, hx4⟩
      clear m0 m1
      obtain ⟨m0, m1⟩ := HST.out w4 (HY3.out.trans hx4)
      have HX4 := hide (HX3.out.trans hx4)
      have HY4 := hide (HY3.out.trans hx4)
      clear hx4
      go_wp2_with fail
      have hxe : Ext w4 (w4.alloc (.cells #[] 3)) := (Ext.refl w4).alloc _
      refine (AutomatonAcceptsI_any _ _ _ a [] _ (HN.out.ext (HX4.out.trans hxe)) (HF.out.ext (HX4.out.trans hxe)) (SInts.emp9 w4 _)).mono ?_
      rw [← HIS.out]
      rintro e w5 ⟨rfl, hx5⟩
      clear m0 m1
      obtain ⟨m0, m1⟩ := HST.out w5 (HY4.out.trans (hxe.trans hx5))
      have HX5 := hide (HX4.out.trans (hxe.trans hx5))
      clear hx5 hxe
      go_wp2_with fail
      refine (CountWordsI_any _ _ ⟨a.next, []⟩ zn _ (HN.out.ext HX5.out) (SInts.nil9 _) hzI).mono ?_
      rw [HC6.out]
      rintro e w6 ⟨rfl, hx6⟩
      have HX6 := hide (HX5.out.trans hx6)
      clear hx6 m0 m1
      go_wp2_with fail
      refine (power_any zn _ (by omega)).mono ?_
      rw [← HPW.out]
      rintro e w7 ⟨rfl, hx7⟩
      have HX7 := hide (HX6.out.trans hx7)
      clear hx7
      go_wp2_with fail
      go_ret
      exact Ret.mk rfl (HX1.out.trans HX7.out)
end Go.Proofs.Ytachgijdopfghaa
