/- The walk of Schedule in the reference. -/
import Derived.Test.YtofnihagfjdocaaSchS2
namespace Go.Proofs.Ytofnihagfjdocaa
open Go.RowKit

theorem fold_ok {ts : List Tk} {c : Int} : ∀ (L : List (List Int)) (o : Option (List Int)), (∀ x ∈ L, okTS ts x = true) → (∀ b, o = some b → okTS ts b = true) → ∀ b, L.foldl (sstep ts c) o = some b → okTS ts b = true
  | [], o, _, ho, b, h => ho b h
  | x :: L, o, hL, ho, b, h => by
    refine fold_ok L (sstep ts c o x) (fun y hy => hL y (List.mem_cons_of_mem _ hy)) (fun b' hb' => ?_) b h
    unfold sstep at hb'
    split at hb'
    · cases o with
      | none => simp [bstep] at hb'; subst hb'; exact hL x (by simp)
      | some b0 =>
        simp only [bstep] at hb'
        split at hb'
        · simp at hb'; subst hb'; exact hL x (by simp)
        · exact ho b' hb'
    · exact ho b' hb'
theorem part_ok {ts : List Tk} (hv : vTks ts = true) {done rs p : List Int} {d : Int} (hds : startsL ts = done ++ d :: rs) (hp : p.length = done.length) (hvals : ∀ j, j < p.length → 0 ≤ at0 p j ∧ at0 p j ≤ 5) (k : Nat) : ∀ x ∈ part p d rs k, okTS ts x = true := by
  intro x hx
  unfold part at hx
  simp only [List.mem_flatMap, List.mem_map] at hx
  obtain ⟨v, hv1, t, ht, rfl⟩ := hx
  have hl := startsL_len ts
  rw [hds] at hl
  simp at hl
  have h2 := domK_mem d 6 v (List.mem_of_mem_take hv1)
  refine okTS_iff.2 ⟨hv, by simp [tups_len _ _ ht]; omega, allR_of fun j hj => ?_⟩
  have : at0 (p ++ v :: t) j ∈ p ++ v :: t := at0_mem hj
  rcases List.mem_append.1 this with h | h
  · obtain ⟨i, hi, e⟩ := List.mem_iff_getElem.1 h
    have h3 := hvals i hi
    have : at0 p i = at0 (p ++ v :: t) j := by rw [at0, getD_lt _ _ hi, e]
    rw [this] at h3
    simpa [inR] using h3
  · rcases List.mem_cons.1 h with h | h
    · simp [inR]; omega
    · have := tups_vals _ _ ht _ h
      simpa [inR] using this
set_option maxRecDepth 100000 in
set_option maxHeartbeats 8000000 in
theorem extend_node (v : Value) (ts : List Tk) (c : Int) (g bs : Nat) (w0 : World) (hv : vTks ts = true) (hT : STasks w0 v ts) (hg0 : w0.heap.size ≤ g) (hbs0 : w0.heap.size ≤ bs) (d : Int) (rs : List Int)
    (IH : ∀ (done p : List Int) (o : Option (List Int)) (W : World), startsL ts = done ++ rs → p.length = done.length → (∀ b, o = some b → okTS ts b = true) → Ext w0 W → SchSt v ts c g bs p o W →
      Calls Try.prog 37 #[.pointer (some ⟨bs, 0, none⟩), .int .i64 p.length] W (ExtEnd v ts c g bs p (((tups rs).map fun t => p ++ t).foldl (sstep ts c) o) W))
    (done p : List Int) (o : Option (List Int)) (W : World) (hds : startsL ts = done ++ d :: rs) (hp : p.length = done.length) (hob : ∀ b, o = some b → okTS ts b = true) (hx0 : Ext w0 W) (hst : SchSt v ts c g bs p o W) :
    Calls Try.prog 37 #[.pointer (some ⟨bs, 0, none⟩), .int .i64 p.length] W (ExtEnd v ts c g bs p (((tups (d :: rs)).map fun t => p ++ t).foldl (sstep ts c) o) W) := by
  have hT0 := hide hT
  obtain ⟨l1, l4⟩ := vTks_len hv
  obtain ⟨A, cp, rfl, -⟩ := hT.form
  have hlt : p.length < ts.length := by have h := startsL_len ts; rw [hds] at h; simp at h; omega
  have hat : tkS ts p.length = d := by rw [← startsL_at ts hlt, at0, hds, hp, getD_lt _ _ (by simp)]; simp
  obtain ⟨b, off, rfl, hbl, e0, -, -⟩ := (hT.ext hx0).at_ hlt
  have r1 := (vTks_at hv hlt).1
  have r2 := (vTks_at hv hlt).2.1
  rw [hat] at e0 r1 r2
  have c0 := hst.c0
  have hbl' := hst.lt
  have HST := hide hst
  have HIH := hide IH
  have HD := hide hds
  have HP := hide hp
  have HX0 := hide hx0
  have HOB := hide hob
  have HVT := hide hv
  have hne : ((p.length : Int) == (ts.length : Int)) = false := by rw [beq_eq_false_iff_ne]; omega
  clear hst hds hp hx0 hat IH hob hT hv
  go_enter Try.func37, Try.ntmps37
  go_wp2_with fail
  refine (domainValues_any d _ r1 (by omega)).mono ?_
  rintro e W1 ⟨A1, cv, bv, m, f, rfl, hc1, hd1, hbn, ho1, hx1⟩
  have HO1 := hide ho1
  have HX1 := hide hx1
  have hdl := domL_len d
  have hsz1 := hx1.size
  clear ho1 hx1 hne c0 e0
  go_wp2_with fail
  go_loopw [7] (fun i wr => ∃ k : Nat, k ≤ (domL d).length ∧ i = .int .i64 k ∧ SchSt (.slice (some ⟨b, off, none⟩) ts.length cp) ts c g bs p ((part p d rs k).foldl (sstep ts c) o) wr ∧ Keep (fun k => k ≠ g ∧ k ≠ bs) W wr ∧ OwnC wr A1 bv m f (domL d)) (fun i _ => (domL d).length - (intOf i).toNat)
  case atStart => exact ⟨0, Nat.zero_le _, rfl, by rw [part_zero]; exact HST.out.ext HX1.out, HX1.out.keep _, HO1.out⟩
  case round =>
    obtain ⟨k, hk, rfl, hS, hK, hC⟩ := hrel
    have HS := hide hS
    have HK := hide hK
    have HC := hide hC
    have c2 := hS.c2
    have hlr := hS.lt
    obtain ⟨fr, hrow, -⟩ := hS.row
    have hgl := hrow.lt
    have w0c : wr.cell? ⟨g, p.length, none⟩ = some (fr p.length) := hrow.cell hlt
    have wz := hrow.frozen p.length
    clear hS hK hC hrow
    by_cases hlk : k < (domL d).length
    · obtain ⟨rfl, hrb, hmb, hfb⟩ := HC.out (by omega)
      have cv0 : wr.cell? ⟨bv, k, none⟩ = some (.int .i64 (at0 (domL d) k)) := by rw [hrb.cell (by omega), hfb k hlk]
      have hbv := hrb.lt
      obtain ⟨v0, v5⟩ := domL_bd d hlk
      have hkI : (k : Int) < (domL d).length := by omega
      have hpI : (p.length : Int) < ts.length := by omega
      clear hrb hmb hfb
      go_wp2_with fail
      refine wp_region_ext_tail 10 (by kernel_rfl) (by kernel_rfl) ?_
      simp only [List.take_succ_cons, List.take_zero, List.drop_succ_cons, List.drop_zero]
      iterate 10 (apply quiet_val; (focus rfl); (focus (intro w' hw'; have hk' := hw'.cells; go_simp; all_goals exact rfl)); simp only [Act.put, List.setIfInBounds_toArray, List.set_cons_succ, List.set_cons_zero])
      refine wpQuiet_nil ?_
      intro w4 hx4
      have HX4 := hide hx4
      have w0c := (hx4.cells _ _ hgl).trans w0c
      have wz := (hx4.frz _ _ hgl).trans wz
      have hgl4 := Nat.lt_of_lt_of_le hgl hx4.size
      clear hx4
      go_wp2_with fail
      have hK4 := hide (show Keep (fun k => k ≠ g ∧ k ≠ bs) wr (w4.setCell ⟨g, p.length, none⟩ (.int .i64 (at0 (domL d) k))) from (HX4.out.keep _).set (fun _ hh => hh.1 rfl) _)
      have hE4 : Ext w0 (w4.setCell ⟨g, p.length, none⟩ (.int .i64 (at0 (domL d) k))) := Below.trans HX0.out ((HK.out.trans hK4.out).below HX0.out.size (fun k hk => by omega))
      have hpl : ((p.length : Int) + 1) = ((p ++ [at0 (domL d) k]).length : Int) := by simp
      have hih := HIH.out (done ++ [d]) (p ++ [at0 (domL d) k]) ((part p d rs k).foldl (sstep ts c) o) _ (by rw [HD.out]; simp) (by simp [HP.out]) (fold_ok _ _ (part_ok HVT.out HD.out HP.out HST.out.vals k) HOB.out) hE4 ((HS.out.ext HX4.out).push _ v0 v5 hlt)
      rw [← hpl] at hih
      refine hih.mono ?_
      clear hih hE4 hpl
      rintro e W5 ⟨rfl, hS5, hK5⟩
      have HS5 := hide hS5
      have HK5 := hide hK5
      clear hS5 hK5 w0c wz
      go_wp2_with fail
      go_roundw
      case rel =>
        refine ⟨k + 1, by omega, by go_num, ?_, HK.out.trans (hK4.out.trans HK5.out), fun hp => ?_⟩
        · rw [part_succ p d rs hlk, List.foldl_append]
          exact HS5.out.pop
        · obtain ⟨q1, q2, q3, q4⟩ := HC.out hp
          refine ⟨q1, (hK4.out.trans HK5.out).row ⟨?_, ?_⟩ q2, q3, q4⟩
          · have := HST.out.row.elim fun f h => h.1.lt; omega
          · have := HST.out.lt; omega
      case measure => simp [intOf]; omega
    · obtain rfl : k = (domL d).length := by omega
      have hE := hide (show ExtEnd (.slice (some ⟨b, off, none⟩) ts.length cp) ts c g bs p (((tups (d :: rs)).map fun t => p ++ t).foldl (sstep ts c) o) W (.returned (.tuple #[])) wr by rw [← part_all]; exact ⟨rfl, HS.out, HK.out⟩)
      go_wp2_with fail
      go_end0
      exact hE.out
theorem extend_any (v : Value) (ts : List Tk) (c : Int) (g bs : Nat) (w0 : World) (hv : vTks ts = true) (hT : STasks w0 v ts) (hg0 : w0.heap.size ≤ g) (hbs0 : w0.heap.size ≤ bs) : ∀ (rs done p : List Int) (o : Option (List Int)) (W : World), startsL ts = done ++ rs → p.length = done.length → (∀ b, o = some b → okTS ts b = true) → Ext w0 W → SchSt v ts c g bs p o W →
      Calls Try.prog 37 #[.pointer (some ⟨bs, 0, none⟩), .int .i64 p.length] W (ExtEnd v ts c g bs p (((tups rs).map fun t => p ++ t).foldl (sstep ts c) o) W)
  | [], done, p, o, W, hds, hp, hob, hx, hst => by
    have hl : p.length = ts.length := by have h := startsL_len ts; rw [hds] at h; simp at h; omega
    have hok : okTS ts p = true := okTS_iff.2 ⟨hv, hl, allR_of fun j hj => by have := hst.vals j hj; simpa [inR] using this⟩
    have := extend_leaf v ts c g bs p o W (hT.ext hx) hok hob hst
    simpa [tups] using this
  | d :: rs, done, p, o, W, hds, hp, hob, hx, hst =>
    extend_node v ts c g bs w0 hv hT hg0 hbs0 d rs (fun done p o W => extend_any v ts c g bs w0 hv hT hg0 hbs0 rs done p o W) done p o W hds hp hob hx hst
end Go.Proofs.Ytofnihagfjdocaa
