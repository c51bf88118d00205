/- The walk of slices.Repeat of one int, six times. -/
import Derived.Test.YtdiedghaoleblaaApp
import Derived.Test.YtdiedghaoleblaaTail
import Derived.Laws.CopyOwn
import Derived.Deep.RegionLaw
import Derived.RegionTactic
namespace Go.Proofs.Ytdiedghaoleblaa
open Go.RowKit

theorem mul16 (w : World) : Calls Try.prog 84 #[.int .u64 1, .int .u64 6] w fun e w' => e = .returned (.tuple #[.int .u64 0, .int .u64 6]) ∧ w = w' := by
  go_enter Try.func84, Try.ntmps84
  go_wp2
  go_ret2
  exact ⟨by kernel_rfl, rfl⟩
/-- k times x, then zeros: six cells. -/
def rep6 (x : Int) (k : Nat) : List Value := List.replicate k (vI x) ++ List.replicate (6 - k) (vI 0)
theorem rep6_len (x : Int) {k : Nat} (hk : k ≤ 6) : (rep6 x k).length = 6 := by simp [rep6]; omega
theorem rep6_at (x : Int) {k j : Nat} (hj : j < k) : (rep6 x k)[j]? = some (vI x) := by
  unfold rep6
  rw [List.getElem?_append_left (by simpa using hj), List.getElem?_replicate, if_pos hj]
theorem rep6_splice (x : Int) {k m : Nat} (h : k + m ≤ 6) : splice (rep6 x k) k (List.replicate m (vI x)) = rep6 x (k + m) := by
  unfold splice rep6
  rw [List.take_append_of_le_length (by simp), List.take_of_length_le (by simp), List.drop_append, List.drop_of_length_le (by simp)]
  simp only [List.length_replicate, List.nil_append, List.drop_replicate]
  rw [← List.append_assoc, List.replicate_append_replicate, show 6 - k - (k + m - k) = 6 - (k + m) by omega]
theorem rep6_row {w : World} {b : Nat} {t : TypeId} (x : Int) (h : w.rowIs b t 6 (fun _ => .int .i64 0)) : w.heap[b]? = some (.cells (rep6 x 0).toArray t (0, 0)) := by
  obtain ⟨c, h1, h2, h3⟩ := h
  rw [h1]
  congr 2
  apply Array.ext_getElem?
  intro i
  by_cases hi : i < 6
  · rw [h3 i hi]
    rcases (by omega : i = 0 ∨ i = 1 ∨ i = 2 ∨ i = 3 ∨ i = 4 ∨ i = 5) with rfl | rfl | rfl | rfl | rfl | rfl <;> rfl
  · rw [Array.getElem?_eq_none (by omega)]
    simp [rep6]; omega
theorem row_rep6 {w : World} {b : Nat} {t : TypeId} {x : Int} (h : w.heap[b]? = some (.cells (rep6 x 6).toArray t (0, 0))) : w.rowIs b t 6 (icell (List.replicate 6 x) 6) := by
  refine ⟨_, h, by simp [rep6], fun i hi => ?_⟩
  rw [List.getElem?_toArray, rep6_at x hi]
  unfold icell at0 vI
  rw [if_pos hi, getD_lt _ _ (by simp; omega), List.getElem_replicate]
set_option maxRecDepth 100000 in
set_option maxHeartbeats 1000000 in
theorem Repeat6_any (x : Int) (b : Nat) (w : World) (hb : b < w.heap.size) (hc : w.cell? ⟨b, 0, none⟩ = some (.int .i64 x)) :
    Calls Try.prog 66 #[.slice (some ⟨b, 0, none⟩) 1 1, .int .i64 6] w (NewInts (List.replicate 6 x) w) := by
  have hs1 : (Try.prog.info? 3).map (·.size) = some 1 := by kernel_rfl
  have HS := hide hs1; clear hs1
  have hsrc0 : ∀ W, Ext w W → ∀ (j : Nat) v, [vI x][j]? = some v → W.cell? ((⟨b, 0, none⟩ : Addr).add j) = some v := by
    intro W hW j v hj
    match j with
    | 0 =>
      simp at hj
      subst hj
      simpa [Addr.add, vI] using (hW.cells _ _ hb).trans hc
    | j + 1 => simp at hj
  have HSrc := hide hsrc0; clear hsrc0
  go_enter Try.func66, Try.ntmps66
  go_wp2_with (first | (go_at_call 84; refine (mul16 _).mono ?_; rintro e w' ⟨rfl, rfl⟩) | (at_make; go_must (refine wpList_make_gen _ rfl _ _ 24 rfl 3 (.int .i64 0) 1 8 Try.underlying24 Try.infoI .i64 .i64 6 rfl rfl (by omega) (by omega) (fun _ => .int .i64 0) (fun i _ => by simp [Value.cells, Nat.mod_one]) ?_); intro w1 hrow hsz hx; have HH := hide (rep6_row x hrow); have HX := hide hx; clear hrow hx) | (refine wpList_copy_splice rfl (.tmp 31) (.tmp 32) 24 24 rfl 3 Try.underlying24 HS.out (some ⟨w.heap.size, 0, none⟩) (some ⟨b, 0, none⟩) 6 6 1 1 rfl rfl w.heap.size 0 (rep6 x 0) 3 HH.out [vI x] rfl (fun _ => ⟨rfl, ⟨b, 0, none⟩, rfl, HSrc.out _ HX.out⟩) (by simp [rep6]) (by intro v hv; simp at hv; subst hv; rfl) w.heap.size w HX.out (Nat.le_refl _) ?_; intro w2 hg2 hb2))
  have hg3 : Hid (w2.heap[w.heap.size]? = some (.cells (rep6 x 1).toArray 3 (0, 0))) := by
    have := hg2.out
    rwa [show splice (rep6 x 0) 0 [vI x] = rep6 x (0 + 1) from rep6_splice x (k := 0) (m := 1) (by omega)] at this
  clear hg2 hsz
  go_loopw [8] (fun i wr => ∃ k : Nat, 1 ≤ k ∧ k ≤ 6 ∧ i = .int .i64 k ∧ Ext w wr ∧ Hid (wr.heap[w.heap.size]? = some (.cells (rep6 x k).toArray 3 (0, 0)))) (fun i _ => 6 - (intOf i).toNat)
  case atStart => exact ⟨1, by omega, by omega, rfl, hb2, hg3⟩
  case round =>
    obtain ⟨k, hk1, hk6, rfl, hxr, hg⟩ := hrel
    have hB : w.heap.size < wr.heap.size := (Array.getElem?_eq_some_iff.1 hg.out).1
    by_cases hlt : k < 6
    · have hlt' : decide ((k : Int) < 6) = true := by simp; omega
      go_wp2
      have h6k : ¬ (6 = k) := by omega
      have i1 : (0 : Int) ≤ (k : Int) := by omega
      have i2 : (k : Int) ≤ 6 := by omega
      obtain ⟨m, hm, hm0, hm6⟩ : ∃ m : Nat, m = Nat.min k (6 - k) ∧ 0 < m ∧ k + m ≤ 6 := ⟨_, rfl, Nat.lt_min.2 ⟨hk1, by omega⟩, by have : Nat.min k (6 - k) ≤ 6 - k := Nat.min_le_right k (6 - k); omega⟩
      have hmk : m ≤ k := by rw [hm]; exact Nat.min_le_left _ _
      have HM := hide hm; clear hm
      have hsr : ∀ W : World, Ext wr W → ∀ (j : Nat) v, (List.replicate m (vI x))[j]? = some v → W.cell? ((⟨w.heap.size, 0, none⟩ : Addr).add j) = some v := by
        intro W hW j v hj
        obtain ⟨hj1, hj2⟩ := List.getElem?_eq_some_iff.1 hj
        simp at hj1 hj2
        have hadd : (⟨w.heap.size, 0, none⟩ : Addr).add j = ⟨w.heap.size, j, none⟩ := by unfold Addr.add; split <;> simp_all
        rw [hadd, hW.cells _ _ hB]
        simp only [World.cell?, hg.out]
        rw [← hj2]
        simpa using rep6_at x (show j < k by omega)
      have HSr := hide hsr; clear hsr
      have hgk : ∀ W : World, Ext wr W → W.heap[w.heap.size]? = some (.cells (rep6 x k).toArray 3 (0, 0)) := fun W hW => (hW.block _ hB).trans hg.out
      have HG := hide hgk; clear hgk
      have HL := hide (rep6_len x hk6)
      have hcp : ∃ W4 : World, (Builtin.copy_ #[24, 24] 3 #[.slice (some ⟨w.heap.size, k, none⟩) (6 - k) (6 - k), .slice (some ⟨w.heap.size, 0, none⟩) k 6]).run Try.prog wr.drew = .ok (goInt m) W4 ∧ Hid (W4.heap[w.heap.size]? = some (.cells (rep6 x (k + m)).toArray 3 (0, 0))) ∧ Ext w W4 := by
        have hr := run_copy_row (P := Try.prog) wr.drew 24 24 3 3 w.heap.size k (6 - k) (6 - k) ⟨w.heap.size, 0, none⟩ k 6 (rep6 x k).toArray 3 (List.replicate m (vI x)) Try.underlying24 HS.out (HG.out _ ((Ext.refl _).drew)) (by simp [HM.out]) (HSr.out _ ((Ext.refl _).drew)) (by simp [HL.out]; omega) (by intro v hv; rw [List.eq_of_mem_replicate hv]; rfl)
        rw [List.length_replicate] at hr
        refine ⟨_, hr, ?_, below_setRow hxr.drew (Nat.le_refl _) _⟩
        · refine show _ = _ from ?_
          rw [setRow_heap _ _ _ _ _ _ (HG.out _ ((Ext.refl _).drew))]
          rw [← rep6_splice x hm6]
          simp [splice]
      obtain ⟨W4, hrun, hg4, hx4⟩ := hcp
      go_region
      go_wp2
      refine ⟨⟨k + m, by omega, hm6, by simp, hx4, hg4⟩, ?_⟩
      simp only [intOf]
      omega
    · have hk : k = 6 := by omega
      subst hk
      go_wp2
      go_ret
      exact ⟨w.heap.size, Nat.le_refl _, rfl, row_rep6 hg.out, hxr⟩
end Go.Proofs.Ytdiedghaoleblaa
