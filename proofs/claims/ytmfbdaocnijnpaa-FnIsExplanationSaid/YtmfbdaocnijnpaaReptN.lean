/- The walk of slices.Repeat of one int, one to four times. -/
import Derived.Test.YtmfbdaocnijnpaaApp
import Derived.Test.YtmfbdaocnijnpaaTail
import Derived.Laws.CopyOwn
import Derived.Deep.RegionLaw
import Derived.RegionTactic
namespace Go.Proofs.Ytmfbdaocnijnpaa
open Go.RowKit

theorem addrZ (b j : Nat) : (⟨b, 0, none⟩ : Addr).add j = ⟨b, j, none⟩ := by unfold Addr.add; split <;> simp_all
theorem mul1q1 (w : World) : Calls Try.prog 71 #[.int .u64 1, .int .u64 1] w fun e w' => e = .returned (.tuple #[.int .u64 0, .int .u64 1]) ∧ w = w' := by
  go_enter Try.func71, Try.ntmps71
  go_wp2
  go_ret2
  exact ⟨by kernel_rfl, rfl⟩
/-- k times x, then zeros: six cells. -/
def rpq1 (x : Int) (k : Nat) : List Value := List.replicate k (vI x) ++ List.replicate (1 - k) (vI 0)
theorem rpq1_len (x : Int) {k : Nat} (hk : k ≤ 1) : (rpq1 x k).length = 1 := by simp [rpq1]; omega
theorem rpq1_at (x : Int) {k j : Nat} (hj : j < k) : (rpq1 x k)[j]? = some (vI x) := by
  unfold rpq1
  rw [List.getElem?_append_left (by simpa using hj), List.getElem?_replicate, if_pos hj]
theorem rpq1_splice (x : Int) {k m : Nat} (h : k + m ≤ 1) : splice (rpq1 x k) k (List.replicate m (vI x)) = rpq1 x (k + m) := by
  unfold splice rpq1
  rw [List.take_append_of_le_length (by simp), List.take_of_length_le (by simp), List.drop_append, List.drop_of_length_le (by simp)]
  simp only [List.length_replicate, List.nil_append, List.drop_replicate]
  rw [← List.append_assoc, List.replicate_append_replicate, show 1 - k - (k + m - k) = 1 - (k + m) by omega]
theorem rpq1_row {w : World} {b : Nat} {t : TypeId} (x : Int) (h : w.rowIs b t 1 (fun _ => .int .i64 0)) : w.heap[b]? = some (.cells (rpq1 x 0).toArray t (0, 0)) := by
  obtain ⟨c, h1, h2, h3⟩ := h
  rw [h1]
  congr 2
  apply Array.ext_getElem?
  intro i
  by_cases hi : i < 1
  · rw [h3 i hi]
    obtain rfl : i = 0 := by omega
    rfl
  · rw [Array.getElem?_eq_none (by omega)]
    simp [rpq1]; omega
theorem row_rpq1 {w : World} {b : Nat} {t : TypeId} {x : Int} (h : w.heap[b]? = some (.cells (rpq1 x 1).toArray t (0, 0))) : w.rowIs b t 1 (icell (List.replicate 1 x) 1) := by
  refine ⟨_, h, by simp [rpq1], fun i hi => ?_⟩
  rw [List.getElem?_toArray, rpq1_at x hi]
  unfold icell at0 vI
  rw [if_pos hi, getD_lt _ _ (by simp; omega), List.getElem_replicate]
set_option maxRecDepth 100000 in
set_option maxHeartbeats 1000000 in
theorem Repeat1_any (x : Int) (b : Nat) (w : World) (hb : b < w.heap.size) (hc : w.cell? ⟨b, 0, none⟩ = some (.int .i64 x)) :
    Calls Try.prog 48 #[.slice (some ⟨b, 0, none⟩) 1 1, .int .i64 1] w (NewInts (List.replicate 1 x) w) := by
  have hs1 : (Try.prog.info? 3).map (·.size) = some 1 := by kernel_rfl
  have HS := hide hs1; clear hs1
  have hsrc0 : ∀ W, Ext w W → ∀ (j : Nat) v, [vI x][j]? = some v → W.cell? ((⟨b, 0, none⟩ : Addr).add j) = some v := by
    intro W hW j v hj
    match j with
    | 0 =>
      simp at hj
      subst hj
      simpa [Addr.add, vI] using (hW.cells _ _ hb).trans hc
    | j + 1 => simp at hj
  have HSrc := hide hsrc0; clear hsrc0
  go_enter Try.func48, Try.ntmps48
  go_wp2_with (first | (go_at_call 71; refine (mul1q1 _).mono ?_; rintro e w' ⟨rfl, rfl⟩) | (at_make; go_must (refine wpList_make_gen _ rfl _ _ 23 rfl 3 (.int .i64 0) 1 8 Try.underlying23 Try.infoI .i64 .i64 1 rfl rfl (by omega) (by omega) (fun _ => .int .i64 0) (fun i _ => by simp [Value.cells, Nat.mod_one]) ?_); intro w1 hrow hsz hx; have HH := hide (rpq1_row x hrow); have HX := hide hx; clear hrow hx) | (refine wpList_copy_splice rfl (.tmp 31) (.tmp 32) 23 23 rfl 3 Try.underlying23 HS.out (some ⟨w.heap.size, 0, none⟩) (some ⟨b, 0, none⟩) 1 1 1 1 rfl rfl w.heap.size 0 (rpq1 x 0) 3 HH.out [vI x] rfl (fun _ => ⟨rfl, ⟨b, 0, none⟩, rfl, HSrc.out _ HX.out⟩) (by simp [rpq1]) (by intro v hv; simp at hv; subst hv; rfl) w.heap.size w HX.out (Nat.le_refl _) ?_; intro w2 hg2 hb2))
  have hg3 : Hid (w2.heap[w.heap.size]? = some (.cells (rpq1 x 1).toArray 3 (0, 0))) := by
    have := hg2.out
    rwa [show splice (rpq1 x 0) 0 [vI x] = rpq1 x (0 + 1) from rpq1_splice x (k := 0) (m := 1) (by omega)] at this
  clear hg2 hsz
  go_loopw [8] (fun i wr => ∃ k : Nat, 1 ≤ k ∧ k ≤ 1 ∧ i = .int .i64 k ∧ Ext w wr ∧ Hid (wr.heap[w.heap.size]? = some (.cells (rpq1 x k).toArray 3 (0, 0)))) (fun i _ => 1 - (intOf i).toNat)
  case atStart => exact ⟨1, by omega, by omega, rfl, hb2, hg3⟩
  case round =>
    obtain ⟨k, hk1, hk6, rfl, hxr, hg⟩ := hrel
    have hB : w.heap.size < wr.heap.size := (Array.getElem?_eq_some_iff.1 hg.out).1
    by_cases hlt : k < 1
    · exfalso; omega
    · have hk : k = 1 := by omega
      subst hk
      go_wp2
      go_ret
      exact ⟨w.heap.size, Nat.le_refl _, rfl, row_rpq1 hg.out, hxr⟩
theorem mul1q2 (w : World) : Calls Try.prog 71 #[.int .u64 1, .int .u64 2] w fun e w' => e = .returned (.tuple #[.int .u64 0, .int .u64 2]) ∧ w = w' := by
  go_enter Try.func71, Try.ntmps71
  go_wp2
  go_ret2
  exact ⟨by kernel_rfl, rfl⟩
/-- k times x, then zeros: six cells. -/
def rpq2 (x : Int) (k : Nat) : List Value := List.replicate k (vI x) ++ List.replicate (2 - k) (vI 0)
theorem rpq2_len (x : Int) {k : Nat} (hk : k ≤ 2) : (rpq2 x k).length = 2 := by simp [rpq2]; omega
theorem rpq2_at (x : Int) {k j : Nat} (hj : j < k) : (rpq2 x k)[j]? = some (vI x) := by
  unfold rpq2
  rw [List.getElem?_append_left (by simpa using hj), List.getElem?_replicate, if_pos hj]
theorem rpq2_splice (x : Int) {k m : Nat} (h : k + m ≤ 2) : splice (rpq2 x k) k (List.replicate m (vI x)) = rpq2 x (k + m) := by
  unfold splice rpq2
  rw [List.take_append_of_le_length (by simp), List.take_of_length_le (by simp), List.drop_append, List.drop_of_length_le (by simp)]
  simp only [List.length_replicate, List.nil_append, List.drop_replicate]
  rw [← List.append_assoc, List.replicate_append_replicate, show 2 - k - (k + m - k) = 2 - (k + m) by omega]
theorem rpq2_row {w : World} {b : Nat} {t : TypeId} (x : Int) (h : w.rowIs b t 2 (fun _ => .int .i64 0)) : w.heap[b]? = some (.cells (rpq2 x 0).toArray t (0, 0)) := by
  obtain ⟨c, h1, h2, h3⟩ := h
  rw [h1]
  congr 2
  apply Array.ext_getElem?
  intro i
  by_cases hi : i < 2
  · rw [h3 i hi]
    rcases (by omega : i = 0 ∨ i = 1) with rfl | rfl <;> rfl
  · rw [Array.getElem?_eq_none (by omega)]
    simp [rpq2]; omega
theorem row_rpq2 {w : World} {b : Nat} {t : TypeId} {x : Int} (h : w.heap[b]? = some (.cells (rpq2 x 2).toArray t (0, 0))) : w.rowIs b t 2 (icell (List.replicate 2 x) 2) := by
  refine ⟨_, h, by simp [rpq2], fun i hi => ?_⟩
  rw [List.getElem?_toArray, rpq2_at x hi]
  unfold icell at0 vI
  rw [if_pos hi, getD_lt _ _ (by simp; omega), List.getElem_replicate]
set_option maxRecDepth 100000 in
set_option maxHeartbeats 1000000 in
theorem Repeat2_any (x : Int) (b : Nat) (w : World) (hb : b < w.heap.size) (hc : w.cell? ⟨b, 0, none⟩ = some (.int .i64 x)) :
    Calls Try.prog 48 #[.slice (some ⟨b, 0, none⟩) 1 1, .int .i64 2] w (NewInts (List.replicate 2 x) w) := by
  have hs1 : (Try.prog.info? 3).map (·.size) = some 1 := by kernel_rfl
  have HS := hide hs1; clear hs1
  have hsrc0 : ∀ W, Ext w W → ∀ (j : Nat) v, [vI x][j]? = some v → W.cell? ((⟨b, 0, none⟩ : Addr).add j) = some v := by
    intro W hW j v hj
    match j with
    | 0 =>
      simp at hj
      subst hj
      simpa [Addr.add, vI] using (hW.cells _ _ hb).trans hc
    | j + 1 => simp at hj
  have HSrc := hide hsrc0; clear hsrc0
  go_enter Try.func48, Try.ntmps48
  go_wp2_with (first | (go_at_call 71; refine (mul1q2 _).mono ?_; rintro e w' ⟨rfl, rfl⟩) | (at_make; go_must (refine wpList_make_gen _ rfl _ _ 23 rfl 3 (.int .i64 0) 1 8 Try.underlying23 Try.infoI .i64 .i64 2 rfl rfl (by omega) (by omega) (fun _ => .int .i64 0) (fun i _ => by simp [Value.cells, Nat.mod_one]) ?_); intro w1 hrow hsz hx; have HH := hide (rpq2_row x hrow); have HX := hide hx; clear hrow hx) | (refine wpList_copy_splice rfl (.tmp 31) (.tmp 32) 23 23 rfl 3 Try.underlying23 HS.out (some ⟨w.heap.size, 0, none⟩) (some ⟨b, 0, none⟩) 2 2 1 1 rfl rfl w.heap.size 0 (rpq2 x 0) 3 HH.out [vI x] rfl (fun _ => ⟨rfl, ⟨b, 0, none⟩, rfl, HSrc.out _ HX.out⟩) (by simp [rpq2]) (by intro v hv; simp at hv; subst hv; rfl) w.heap.size w HX.out (Nat.le_refl _) ?_; intro w2 hg2 hb2))
  have hg3 : Hid (w2.heap[w.heap.size]? = some (.cells (rpq2 x 1).toArray 3 (0, 0))) := by
    have := hg2.out
    rwa [show splice (rpq2 x 0) 0 [vI x] = rpq2 x (0 + 1) from rpq2_splice x (k := 0) (m := 1) (by omega)] at this
  clear hg2 hsz
  go_loopw [8] (fun i wr => ∃ k : Nat, 1 ≤ k ∧ k ≤ 2 ∧ i = .int .i64 k ∧ Ext w wr ∧ Hid (wr.heap[w.heap.size]? = some (.cells (rpq2 x k).toArray 3 (0, 0)))) (fun i _ => 2 - (intOf i).toNat)
  case atStart => exact ⟨1, by omega, by omega, rfl, hb2, hg3⟩
  case round =>
    obtain ⟨k, hk1, hk6, rfl, hxr, hg⟩ := hrel
    have hB : w.heap.size < wr.heap.size := (Array.getElem?_eq_some_iff.1 hg.out).1
    by_cases hlt : k < 2
    · have hlt' : decide ((k : Int) < 2) = true := by simp; omega
      go_wp2
      have h6k : ¬ (2 = k) := by omega
      have i1 : (0 : Int) ≤ (k : Int) := by omega
      have i2 : (k : Int) ≤ 2 := by omega
      obtain ⟨m, hm, hm0, hm6⟩ : ∃ m : Nat, m = Nat.min k (2 - k) ∧ 0 < m ∧ k + m ≤ 2 := ⟨_, rfl, Nat.lt_min.2 ⟨hk1, by omega⟩, by have : Nat.min k (2 - k) ≤ 2 - k := Nat.min_le_right k (2 - k); omega⟩
      have hmk : m ≤ k := by rw [hm]; exact Nat.min_le_left _ _
      have HM := hide hm; clear hm
      have hsr : ∀ W : World, Ext wr W → ∀ (j : Nat) v, (List.replicate m (vI x))[j]? = some v → W.cell? ((⟨w.heap.size, 0, none⟩ : Addr).add j) = some v := by
        intro W hW j v hj
        obtain ⟨hj1, hj2⟩ := List.getElem?_eq_some_iff.1 hj
        simp at hj1 hj2
        have hadd : (⟨w.heap.size, 0, none⟩ : Addr).add j = ⟨w.heap.size, j, none⟩ := addrZ _ _
        rw [hadd, hW.cells _ _ hB]
        simp only [World.cell?, hg.out]
        rw [← hj2]
        simpa using rpq2_at x (show j < k by omega)
      have HSr := hide hsr; clear hsr
      have hgk : ∀ W : World, Ext wr W → W.heap[w.heap.size]? = some (.cells (rpq2 x k).toArray 3 (0, 0)) := fun W hW => (hW.block _ hB).trans hg.out
      have HG := hide hgk; clear hgk
      have HL := hide (rpq2_len x hk6)
      have hcp : ∃ W4 : World, (Builtin.copy_ #[23, 23] 3 #[.slice (some ⟨w.heap.size, k, none⟩) (2 - k) (2 - k), .slice (some ⟨w.heap.size, 0, none⟩) k 2]).run Try.prog wr.drew = .ok (goInt m) W4 ∧ Hid (W4.heap[w.heap.size]? = some (.cells (rpq2 x (k + m)).toArray 3 (0, 0))) ∧ Ext w W4 := by
        have hr := run_copy_row (P := Try.prog) wr.drew 23 23 3 3 w.heap.size k (2 - k) (2 - k) ⟨w.heap.size, 0, none⟩ k 2 (rpq2 x k).toArray 3 (List.replicate m (vI x)) Try.underlying23 HS.out (HG.out _ ((Ext.refl _).drew)) (by simp [HM.out]) (HSr.out _ ((Ext.refl _).drew)) (by simp [HL.out]; omega) (by intro v hv; rw [List.eq_of_mem_replicate hv]; rfl)
        rw [List.length_replicate] at hr
        refine ⟨_, hr, ?_, below_setRow hxr.drew (Nat.le_refl _) _⟩
        · refine show _ = _ from ?_
          rw [setRow_heap _ _ _ _ _ _ (HG.out _ ((Ext.refl _).drew))]
          rw [← rpq2_splice x hm6]
          simp [splice]
      obtain ⟨W4, hrun, hg4, hx4⟩ := hcp
      go_region
      go_wp2
      refine ⟨⟨k + m, by omega, hm6, by simp, hx4, hg4⟩, ?_⟩
      simp only [intOf]
      omega
    · have hk : k = 2 := by omega
      subst hk
      go_wp2
      go_ret
      exact ⟨w.heap.size, Nat.le_refl _, rfl, row_rpq2 hg.out, hxr⟩
theorem mul1q3 (w : World) : Calls Try.prog 71 #[.int .u64 1, .int .u64 3] w fun e w' => e = .returned (.tuple #[.int .u64 0, .int .u64 3]) ∧ w = w' := by
  go_enter Try.func71, Try.ntmps71
  go_wp2
  go_ret2
  exact ⟨by kernel_rfl, rfl⟩
/-- k times x, then zeros: six cells. -/
def rpq3 (x : Int) (k : Nat) : List Value := List.replicate k (vI x) ++ List.replicate (3 - k) (vI 0)
theorem rpq3_len (x : Int) {k : Nat} (hk : k ≤ 3) : (rpq3 x k).length = 3 := by simp [rpq3]; omega
theorem rpq3_at (x : Int) {k j : Nat} (hj : j < k) : (rpq3 x k)[j]? = some (vI x) := by
  unfold rpq3
  rw [List.getElem?_append_left (by simpa using hj), List.getElem?_replicate, if_pos hj]
theorem rpq3_splice (x : Int) {k m : Nat} (h : k + m ≤ 3) : splice (rpq3 x k) k (List.replicate m (vI x)) = rpq3 x (k + m) := by
  unfold splice rpq3
  rw [List.take_append_of_le_length (by simp), List.take_of_length_le (by simp), List.drop_append, List.drop_of_length_le (by simp)]
  simp only [List.length_replicate, List.nil_append, List.drop_replicate]
  rw [← List.append_assoc, List.replicate_append_replicate, show 3 - k - (k + m - k) = 3 - (k + m) by omega]
theorem rpq3_row {w : World} {b : Nat} {t : TypeId} (x : Int) (h : w.rowIs b t 3 (fun _ => .int .i64 0)) : w.heap[b]? = some (.cells (rpq3 x 0).toArray t (0, 0)) := by
  obtain ⟨c, h1, h2, h3⟩ := h
  rw [h1]
  congr 2
  apply Array.ext_getElem?
  intro i
  by_cases hi : i < 3
  · rw [h3 i hi]
    rcases (by omega : i = 0 ∨ i = 1 ∨ i = 2) with rfl | rfl | rfl <;> rfl
  · rw [Array.getElem?_eq_none (by omega)]
    simp [rpq3]; omega
theorem row_rpq3 {w : World} {b : Nat} {t : TypeId} {x : Int} (h : w.heap[b]? = some (.cells (rpq3 x 3).toArray t (0, 0))) : w.rowIs b t 3 (icell (List.replicate 3 x) 3) := by
  refine ⟨_, h, by simp [rpq3], fun i hi => ?_⟩
  rw [List.getElem?_toArray, rpq3_at x hi]
  unfold icell at0 vI
  rw [if_pos hi, getD_lt _ _ (by simp; omega), List.getElem_replicate]
set_option maxRecDepth 100000 in
set_option maxHeartbeats 1000000 in
theorem Repeat3_any (x : Int) (b : Nat) (w : World) (hb : b < w.heap.size) (hc : w.cell? ⟨b, 0, none⟩ = some (.int .i64 x)) :
    Calls Try.prog 48 #[.slice (some ⟨b, 0, none⟩) 1 1, .int .i64 3] w (NewInts (List.replicate 3 x) w) := by
  have hs1 : (Try.prog.info? 3).map (·.size) = some 1 := by kernel_rfl
  have HS := hide hs1; clear hs1
  have hsrc0 : ∀ W, Ext w W → ∀ (j : Nat) v, [vI x][j]? = some v → W.cell? ((⟨b, 0, none⟩ : Addr).add j) = some v := by
    intro W hW j v hj
    match j with
    | 0 =>
      simp at hj
      subst hj
      simpa [Addr.add, vI] using (hW.cells _ _ hb).trans hc
    | j + 1 => simp at hj
  have HSrc := hide hsrc0; clear hsrc0
  go_enter Try.func48, Try.ntmps48
  go_wp2_with (first | (go_at_call 71; refine (mul1q3 _).mono ?_; rintro e w' ⟨rfl, rfl⟩) | (at_make; go_must (refine wpList_make_gen _ rfl _ _ 23 rfl 3 (.int .i64 0) 1 8 Try.underlying23 Try.infoI .i64 .i64 3 rfl rfl (by omega) (by omega) (fun _ => .int .i64 0) (fun i _ => by simp [Value.cells, Nat.mod_one]) ?_); intro w1 hrow hsz hx; have HH := hide (rpq3_row x hrow); have HX := hide hx; clear hrow hx) | (refine wpList_copy_splice rfl (.tmp 31) (.tmp 32) 23 23 rfl 3 Try.underlying23 HS.out (some ⟨w.heap.size, 0, none⟩) (some ⟨b, 0, none⟩) 3 3 1 1 rfl rfl w.heap.size 0 (rpq3 x 0) 3 HH.out [vI x] rfl (fun _ => ⟨rfl, ⟨b, 0, none⟩, rfl, HSrc.out _ HX.out⟩) (by simp [rpq3]) (by intro v hv; simp at hv; subst hv; rfl) w.heap.size w HX.out (Nat.le_refl _) ?_; intro w2 hg2 hb2))
  have hg3 : Hid (w2.heap[w.heap.size]? = some (.cells (rpq3 x 1).toArray 3 (0, 0))) := by
    have := hg2.out
    rwa [show splice (rpq3 x 0) 0 [vI x] = rpq3 x (0 + 1) from rpq3_splice x (k := 0) (m := 1) (by omega)] at this
  clear hg2 hsz
  go_loopw [8] (fun i wr => ∃ k : Nat, 1 ≤ k ∧ k ≤ 3 ∧ i = .int .i64 k ∧ Ext w wr ∧ Hid (wr.heap[w.heap.size]? = some (.cells (rpq3 x k).toArray 3 (0, 0)))) (fun i _ => 3 - (intOf i).toNat)
  case atStart => exact ⟨1, by omega, by omega, rfl, hb2, hg3⟩
  case round =>
    obtain ⟨k, hk1, hk6, rfl, hxr, hg⟩ := hrel
    have hB : w.heap.size < wr.heap.size := (Array.getElem?_eq_some_iff.1 hg.out).1
    by_cases hlt : k < 3
    · have hlt' : decide ((k : Int) < 3) = true := by simp; omega
      go_wp2
      have h6k : ¬ (3 = k) := by omega
      have i1 : (0 : Int) ≤ (k : Int) := by omega
      have i2 : (k : Int) ≤ 3 := by omega
      obtain ⟨m, hm, hm0, hm6⟩ : ∃ m : Nat, m = Nat.min k (3 - k) ∧ 0 < m ∧ k + m ≤ 3 := ⟨_, rfl, Nat.lt_min.2 ⟨hk1, by omega⟩, by have : Nat.min k (3 - k) ≤ 3 - k := Nat.min_le_right k (3 - k); omega⟩
      have hmk : m ≤ k := by rw [hm]; exact Nat.min_le_left _ _
      have HM := hide hm; clear hm
      have hsr : ∀ W : World, Ext wr W → ∀ (j : Nat) v, (List.replicate m (vI x))[j]? = some v → W.cell? ((⟨w.heap.size, 0, none⟩ : Addr).add j) = some v := by
        intro W hW j v hj
        obtain ⟨hj1, hj2⟩ := List.getElem?_eq_some_iff.1 hj
        simp at hj1 hj2
        have hadd : (⟨w.heap.size, 0, none⟩ : Addr).add j = ⟨w.heap.size, j, none⟩ := addrZ _ _
        rw [hadd, hW.cells _ _ hB]
        simp only [World.cell?, hg.out]
        rw [← hj2]
        simpa using rpq3_at x (show j < k by omega)
      have HSr := hide hsr; clear hsr
      have hgk : ∀ W : World, Ext wr W → W.heap[w.heap.size]? = some (.cells (rpq3 x k).toArray 3 (0, 0)) := fun W hW => (hW.block _ hB).trans hg.out
      have HG := hide hgk; clear hgk
      have HL := hide (rpq3_len x hk6)
      have hcp : ∃ W4 : World, (Builtin.copy_ #[23, 23] 3 #[.slice (some ⟨w.heap.size, k, none⟩) (3 - k) (3 - k), .slice (some ⟨w.heap.size, 0, none⟩) k 3]).run Try.prog wr.drew = .ok (goInt m) W4 ∧ Hid (W4.heap[w.heap.size]? = some (.cells (rpq3 x (k + m)).toArray 3 (0, 0))) ∧ Ext w W4 := by
        have hr := run_copy_row (P := Try.prog) wr.drew 23 23 3 3 w.heap.size k (3 - k) (3 - k) ⟨w.heap.size, 0, none⟩ k 3 (rpq3 x k).toArray 3 (List.replicate m (vI x)) Try.underlying23 HS.out (HG.out _ ((Ext.refl _).drew)) (by simp [HM.out]) (HSr.out _ ((Ext.refl _).drew)) (by simp [HL.out]; omega) (by intro v hv; rw [List.eq_of_mem_replicate hv]; rfl)
        rw [List.length_replicate] at hr
        refine ⟨_, hr, ?_, below_setRow hxr.drew (Nat.le_refl _) _⟩
        · refine show _ = _ from ?_
          rw [setRow_heap _ _ _ _ _ _ (HG.out _ ((Ext.refl _).drew))]
          rw [← rpq3_splice x hm6]
          simp [splice]
      obtain ⟨W4, hrun, hg4, hx4⟩ := hcp
      go_region
      go_wp2
      refine ⟨⟨k + m, by omega, hm6, by simp, hx4, hg4⟩, ?_⟩
      simp only [intOf]
      omega
    · have hk : k = 3 := by omega
      subst hk
      go_wp2
      go_ret
      exact ⟨w.heap.size, Nat.le_refl _, rfl, row_rpq3 hg.out, hxr⟩
theorem mul1q4 (w : World) : Calls Try.prog 71 #[.int .u64 1, .int .u64 4] w fun e w' => e = .returned (.tuple #[.int .u64 0, .int .u64 4]) ∧ w = w' := by
  go_enter Try.func71, Try.ntmps71
  go_wp2
  go_ret2
  exact ⟨by kernel_rfl, rfl⟩
/-- k times x, then zeros: six cells. -/
def rpq4 (x : Int) (k : Nat) : List Value := List.replicate k (vI x) ++ List.replicate (4 - k) (vI 0)
theorem rpq4_len (x : Int) {k : Nat} (hk : k ≤ 4) : (rpq4 x k).length = 4 := by simp [rpq4]; omega
theorem rpq4_at (x : Int) {k j : Nat} (hj : j < k) : (rpq4 x k)[j]? = some (vI x) := by
  unfold rpq4
  rw [List.getElem?_append_left (by simpa using hj), List.getElem?_replicate, if_pos hj]
theorem rpq4_splice (x : Int) {k m : Nat} (h : k + m ≤ 4) : splice (rpq4 x k) k (List.replicate m (vI x)) = rpq4 x (k + m) := by
  unfold splice rpq4
  rw [List.take_append_of_le_length (by simp), List.take_of_length_le (by simp), List.drop_append, List.drop_of_length_le (by simp)]
  simp only [List.length_replicate, List.nil_append, List.drop_replicate]
  rw [← List.append_assoc, List.replicate_append_replicate, show 4 - k - (k + m - k) = 4 - (k + m) by omega]
theorem rpq4_row {w : World} {b : Nat} {t : TypeId} (x : Int) (h : w.rowIs b t 4 (fun _ => .int .i64 0)) : w.heap[b]? = some (.cells (rpq4 x 0).toArray t (0, 0)) := by
  obtain ⟨c, h1, h2, h3⟩ := h
  rw [h1]
  congr 2
  apply Array.ext_getElem?
  intro i
  by_cases hi : i < 4
  · rw [h3 i hi]
    rcases (by omega : i = 0 ∨ i = 1 ∨ i = 2 ∨ i = 3) with rfl | rfl | rfl | rfl <;> rfl
  · rw [Array.getElem?_eq_none (by omega)]
    simp [rpq4]; omega
theorem row_rpq4 {w : World} {b : Nat} {t : TypeId} {x : Int} (h : w.heap[b]? = some (.cells (rpq4 x 4).toArray t (0, 0))) : w.rowIs b t 4 (icell (List.replicate 4 x) 4) := by
  refine ⟨_, h, by simp [rpq4], fun i hi => ?_⟩
  rw [List.getElem?_toArray, rpq4_at x hi]
  unfold icell at0 vI
  rw [if_pos hi, getD_lt _ _ (by simp; omega), List.getElem_replicate]
set_option maxRecDepth 100000 in
set_option maxHeartbeats 1000000 in
theorem Repeat4_any (x : Int) (b : Nat) (w : World) (hb : b < w.heap.size) (hc : w.cell? ⟨b, 0, none⟩ = some (.int .i64 x)) :
    Calls Try.prog 48 #[.slice (some ⟨b, 0, none⟩) 1 1, .int .i64 4] w (NewInts (List.replicate 4 x) w) := by
  have hs1 : (Try.prog.info? 3).map (·.size) = some 1 := by kernel_rfl
  have HS := hide hs1; clear hs1
  have hsrc0 : ∀ W, Ext w W → ∀ (j : Nat) v, [vI x][j]? = some v → W.cell? ((⟨b, 0, none⟩ : Addr).add j) = some v := by
    intro W hW j v hj
    match j with
    | 0 =>
      simp at hj
      subst hj
      simpa [Addr.add, vI] using (hW.cells _ _ hb).trans hc
    | j + 1 => simp at hj
  have HSrc := hide hsrc0; clear hsrc0
  go_enter Try.func48, Try.ntmps48
  go_wp2_with (first | (go_at_call 71; refine (mul1q4 _).mono ?_; rintro e w' ⟨rfl, rfl⟩) | (at_make; go_must (refine wpList_make_gen _ rfl _ _ 23 rfl 3 (.int .i64 0) 1 8 Try.underlying23 Try.infoI .i64 .i64 4 rfl rfl (by omega) (by omega) (fun _ => .int .i64 0) (fun i _ => by simp [Value.cells, Nat.mod_one]) ?_); intro w1 hrow hsz hx; have HH := hide (rpq4_row x hrow); have HX := hide hx; clear hrow hx) | (refine wpList_copy_splice rfl (.tmp 31) (.tmp 32) 23 23 rfl 3 Try.underlying23 HS.out (some ⟨w.heap.size, 0, none⟩) (some ⟨b, 0, none⟩) 4 4 1 1 rfl rfl w.heap.size 0 (rpq4 x 0) 3 HH.out [vI x] rfl (fun _ => ⟨rfl, ⟨b, 0, none⟩, rfl, HSrc.out _ HX.out⟩) (by simp [rpq4]) (by intro v hv; simp at hv; subst hv; rfl) w.heap.size w HX.out (Nat.le_refl _) ?_; intro w2 hg2 hb2))
  have hg3 : Hid (w2.heap[w.heap.size]? = some (.cells (rpq4 x 1).toArray 3 (0, 0))) := by
    have := hg2.out
    rwa [show splice (rpq4 x 0) 0 [vI x] = rpq4 x (0 + 1) from rpq4_splice x (k := 0) (m := 1) (by omega)] at this
  clear hg2 hsz
  go_loopw [8] (fun i wr => ∃ k : Nat, 1 ≤ k ∧ k ≤ 4 ∧ i = .int .i64 k ∧ Ext w wr ∧ Hid (wr.heap[w.heap.size]? = some (.cells (rpq4 x k).toArray 3 (0, 0)))) (fun i _ => 4 - (intOf i).toNat)
  case atStart => exact ⟨1, by omega, by omega, rfl, hb2, hg3⟩
  case round =>
    obtain ⟨k, hk1, hk6, rfl, hxr, hg⟩ := hrel
    have hB : w.heap.size < wr.heap.size := (Array.getElem?_eq_some_iff.1 hg.out).1
    by_cases hlt : k < 4
    · have hlt' : decide ((k : Int) < 4) = true := by simp; omega
      go_wp2
      have h6k : ¬ (4 = k) := by omega
      have i1 : (0 : Int) ≤ (k : Int) := by omega
      have i2 : (k : Int) ≤ 4 := by omega
      obtain ⟨m, hm, hm0, hm6⟩ : ∃ m : Nat, m = Nat.min k (4 - k) ∧ 0 < m ∧ k + m ≤ 4 := ⟨_, rfl, Nat.lt_min.2 ⟨hk1, by omega⟩, by have : Nat.min k (4 - k) ≤ 4 - k := Nat.min_le_right k (4 - k); omega⟩
      have hmk : m ≤ k := by rw [hm]; exact Nat.min_le_left _ _
      have HM := hide hm; clear hm
      have hsr : ∀ W : World, Ext wr W → ∀ (j : Nat) v, (List.replicate m (vI x))[j]? = some v → W.cell? ((⟨w.heap.size, 0, none⟩ : Addr).add j) = some v := by
        intro W hW j v hj
        obtain ⟨hj1, hj2⟩ := List.getElem?_eq_some_iff.1 hj
        simp at hj1 hj2
        have hadd : (⟨w.heap.size, 0, none⟩ : Addr).add j = ⟨w.heap.size, j, none⟩ := addrZ _ _
        rw [hadd, hW.cells _ _ hB]
        simp only [World.cell?, hg.out]
        rw [← hj2]
        simpa using rpq4_at x (show j < k by omega)
      have HSr := hide hsr; clear hsr
      have hgk : ∀ W : World, Ext wr W → W.heap[w.heap.size]? = some (.cells (rpq4 x k).toArray 3 (0, 0)) := fun W hW => (hW.block _ hB).trans hg.out
      have HG := hide hgk; clear hgk
      have HL := hide (rpq4_len x hk6)
      have hcp : ∃ W4 : World, (Builtin.copy_ #[23, 23] 3 #[.slice (some ⟨w.heap.size, k, none⟩) (4 - k) (4 - k), .slice (some ⟨w.heap.size, 0, none⟩) k 4]).run Try.prog wr.drew = .ok (goInt m) W4 ∧ Hid (W4.heap[w.heap.size]? = some (.cells (rpq4 x (k + m)).toArray 3 (0, 0))) ∧ Ext w W4 := by
        have hr := run_copy_row (P := Try.prog) wr.drew 23 23 3 3 w.heap.size k (4 - k) (4 - k) ⟨w.heap.size, 0, none⟩ k 4 (rpq4 x k).toArray 3 (List.replicate m (vI x)) Try.underlying23 HS.out (HG.out _ ((Ext.refl _).drew)) (by simp [HM.out]) (HSr.out _ ((Ext.refl _).drew)) (by simp [HL.out]; omega) (by intro v hv; rw [List.eq_of_mem_replicate hv]; rfl)
        rw [List.length_replicate] at hr
        refine ⟨_, hr, ?_, below_setRow hxr.drew (Nat.le_refl _) _⟩
        · refine show _ = _ from ?_
          rw [setRow_heap _ _ _ _ _ _ (HG.out _ ((Ext.refl _).drew))]
          rw [← rpq4_splice x hm6]
          simp [splice]
      obtain ⟨W4, hrun, hg4, hx4⟩ := hcp
      go_region
      go_wp2
      refine ⟨⟨k + m, by omega, hm6, by simp, hx4, hg4⟩, ?_⟩
      simp only [intOf]
      omega
    · have hk : k = 4 := by omega
      subst hk
      go_wp2
      go_ret
      exact ⟨w.heap.size, Nat.le_refl _, rfl, row_rpq4 hg.out, hxr⟩
/-- n times x, for n from one to four. -/
theorem RepeatN_any (x : Int) (n : Nat) (b : Nat) (w : World) (hn : 1 ≤ n) (h4 : n ≤ 4) (hb : b < w.heap.size) (hc : w.cell? ⟨b, 0, none⟩ = some (.int .i64 x)) :
    Calls Try.prog 48 #[.slice (some ⟨b, 0, none⟩) 1 1, .int .i64 n] w (NewInts (List.replicate n x) w) := by
  rcases (by omega : n = 1 ∨ n = 2 ∨ n = 3 ∨ n = 4) with rfl | rfl | rfl | rfl
  · exact Repeat1_any x b w hb hc
  · exact Repeat2_any x b w hb hc
  · exact Repeat3_any x b w hb hc
  · exact Repeat4_any x b w hb hc
end Go.Proofs.Ytmfbdaocnijnpaa
