/- The walk of Schedule in the reference, whole. -/
import Derived.Test.YtofnihagfjdocaaSchS3
namespace Go.Proofs.Ytofnihagfjdocaa
open Go.RowKit

/-- Two results: a list that reads as xs, and a word; memory only grew. -/
def TwoInts (xs : List Int) (ok : Bool) (w : World) (e : Ending) (w' : World) : Prop := ∃ A c, e = .returned (.tuple #[.slice A xs.length c, .bool ok]) ∧ SInts w' (.slice A xs.length c) xs ∧ Ext w w'
theorem schO_fold (ts : List Tk) (c : Int) : (tups (startsL ts)).foldl (sstep ts c) none = schO ts c := by rw [sstep_fold]; rfl
set_option maxRecDepth 100000 in
set_option maxHeartbeats 4000000 in
theorem ScheduleS_ok (v : Value) (ts : List Tk) (c : Int) (w : World) (hT : STasks w v ts) (hv : vTks ts = true) (hc : inR c 0 9 = true) :
    Calls Try.prog 10 #[v, .int .i64 c] w (TwoInts ((schO ts c).getD []) (schO ts c).isSome w) := by
  have hT0 := hide hT
  obtain ⟨l1, l4⟩ := vTks_len hv
  obtain ⟨A, cp, rfl, -⟩ := hT.form
  have HV := hide hv
  have HC := hide (show (vTks ts && inR c 0 9) = true by rw [hv, hc]; rfl)
  clear hT hv hc
  go_enter Try.func10, Try.ntmps10
  go_wp2_with fail
  refine (validTasks_any _ ts c _ hT0.out).mono ?_
  rintro e w1 ⟨rfl, hx1⟩
  rw [HC.out]
  have HX1 := hide hx1
  clear hx1
  go_wp2_with (at_make; go_must (refine wpList_make_gen _ rfl _ _ 24 rfl 3 (.int .i64 0) 1 8 Try.underlying24 Try.infoI .i64 .i64 ts.length rfl rfl (by omega) (by omega) (fun _ => .int .i64 0) (fun i _ => by simp [Value.cells, Nat.mod_one]) ?_); intro w2 hrow hsz hx2; rw [Nat.mul_one] at hrow; have HROW := hide hrow; have HX2 := hide hx2; have hsz2 : w2.heap.size = w1.heap.size + 1 := hsz; clear hrow hsz hx2)
  obtain ⟨Wf, hWf⟩ : ∃ Wf, w2.alloc (.cells #[.slice A ts.length cp, .int .i64 c, .slice (some ⟨w1.heap.size, 0, none⟩) ts.length ts.length, .slice none 0 0] 59) = Wf := ⟨_, rfl⟩
  have hst : SchSt (.slice A ts.length cp) ts c w1.heap.size (w1.heap.size + 1) [] none Wf := by
    refine ⟨?_, ?_, ?_, ⟨_, ?_, rfl⟩, ?_, ⟨fun _ => .int .i64 0, ?_, fun j hj => absurd hj (by simp)⟩, fun j hj => absurd hj (by simp), Nat.zero_le _, by omega, ?_⟩
    · rw [← hWf]; exact World.cell?_alloc_at _ _ _ _ hsz2.symm
    · rw [← hWf]; exact World.cell?_alloc_at _ _ _ _ hsz2.symm
    · rw [← hWf]; exact World.cell?_alloc_at _ _ _ _ hsz2.symm
    · rw [← hWf]; exact World.cell?_alloc_at _ _ _ _ hsz2.symm
    · rw [← hWf, ← hsz2]; simp
    · rw [← hWf]; exact ((Ext.refl w2).alloc _).row HROW.out
    · rw [← hWf]; simp; omega
  have hxf : Ext w Wf := by rw [← hWf]; exact (HX1.out.trans HX2.out).alloc _
  have hs1 := HX1.out.size
  have he := extend_any (.slice A ts.length cp) ts c w1.heap.size (w1.heap.size + 1) w HV.out hT0.out hs1 (by omega) (startsL ts) [] [] none Wf rfl rfl (fun b h => by cases h) hxf hst
  have hmap : (tups (startsL ts)).map (fun t => [] ++ t) = tups (startsL ts) := by simp
  rw [hmap, schO_fold] at he
  rw [hWf]
  refine he.mono ?_
  rintro e w4 ⟨rfl, hS4, hK4⟩
  have HS4 := hide hS4
  have hx4 := hide (show Ext w w4 from Below.trans hxf (hK4.below hxf.size (fun k hk => by omega)))
  obtain ⟨out, o1, o2⟩ := hS4.c3
  have hl4 := hS4.lt
  clear hst hxf he hmap hWf hS4 hK4 hsz2
  cases ho : schO ts c with
  | none =>
    rw [ho] at o2
    have o2 : out = .slice none 0 0 := o2
    subst o2
    have HO := hide ho
    clear ho
    go_wp2_with fail
    refine wp_region_ext (by kernel_rfl) (by kernel_rfl) ?_
    iterate 12 (apply quiet_val; (focus rfl); (focus (intro w' hw'; have hk' := hw'.cells; go_simp; all_goals exact rfl)); simp only [Act.put, List.setIfInBounds_toArray, List.set_cons_succ, List.set_cons_zero])
    refine wpQuiet_nil ?_
    intro w5 hx5
    have HE := hide (show TwoInts ((schO ts c).getD []) (schO ts c).isSome w (.returned (.tuple #[.slice none 0 0, .bool false])) w5 by rw [HO.out]; exact ⟨none, 0, rfl, ⟨none, 0, rfl, Nat.le_refl _, by simp, fun i hi => absurd hi (by simp), fun h => absurd h (by simp)⟩, hx4.out.trans hx5⟩)
    clear hx5 o1
    go_wp2
    go_ret2
    exact HE.out
  | some b =>
    rw [ho] at o2
    obtain ⟨bb, off, cb, rfl, hSb, hb1, hb2⟩ := o2
    have hbp : 0 < b.length := by
      have h1 : bestF (fun x => mk ts x ts.length) ((tups (startsL ts)).filter (feas ts c)) = some b := ho
      rcases bestF_mem _ _ _ _ h1 with h | h
      · cases h
      · have := tups_len _ _ (List.mem_filter.1 h).1
        rw [startsL_len] at this
        omega
    have hbp' : (0 : Int) < b.length := by omega
    have HSB := hide hSb
    have HO := hide ho
    clear ho hSb hb1 hb2
    go_wp2_with fail
    refine wp_region_ext (by kernel_rfl) (by kernel_rfl) ?_
    iterate 12 (apply quiet_val; (focus rfl); (focus (intro w' hw'; have hk' := hw'.cells; go_simp; all_goals exact rfl)); simp only [Act.put, List.setIfInBounds_toArray, List.set_cons_succ, List.set_cons_zero])
    refine wpQuiet_nil ?_
    intro w5 hx5
    have HE := hide (show TwoInts ((schO ts c).getD []) (schO ts c).isSome w (.returned (.tuple #[.slice (some ⟨bb, off, none⟩) b.length cb, .bool true])) w5 by rw [HO.out]; exact ⟨_, _, rfl, HSB.out.ext hx5, hx4.out.trans hx5⟩)
    clear hx5 o1
    go_wp2
    go_ret2
    exact HE.out
set_option maxHeartbeats 1000000 in
theorem ScheduleS_any (v : Value) (ts : List Tk) (c : Int) (w : World) (hT : STasks w v ts) :
    Calls Try.prog 10 #[v, .int .i64 c] w (TwoInts ((schX ts c).getD []) (schX ts c).isSome w) := by
  by_cases hv : (vTks ts && inR c 0 9) = true
  · have h := hv
    rw [Bool.and_eq_true] at h
    unfold schX
    rw [if_pos hv]
    exact ScheduleS_ok v ts c w hT h.1 h.2
  · have HC := hide (Bool.eq_false_iff.2 hv)
    have HX := hide (show schX ts c = none by rw [schX, if_neg hv])
    have hT0 := hide hT
    obtain ⟨A, cp, rfl, -⟩ := hT.form
    clear hT hv
    go_enter Try.func10, Try.ntmps10
    go_wp2_with fail
    refine (validTasks_any _ ts c _ hT0.out).mono ?_
    rintro e w1 ⟨rfl, hx1⟩
    rw [HC.out]
    have HE := hide (show TwoInts ((schX ts c).getD []) (schX ts c).isSome w (.returned (.tuple #[.slice none 0 0, .bool false])) w1 by rw [HX.out]; exact ⟨none, 0, rfl, ⟨none, 0, rfl, Nat.le_refl _, by simp, fun i hi => absurd hi (by simp), fun h => absurd h (by simp)⟩, hx1⟩)
    clear hx1
    go_wp2
    go_ret2
    exact HE.out
end Go.Proofs.Ytofnihagfjdocaa
